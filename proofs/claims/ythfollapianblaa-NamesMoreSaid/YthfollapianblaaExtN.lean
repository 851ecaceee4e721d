/- What is known of names.Check and of law 4's words: right. Conditions: none. -/
import Derived.Test.YthfollapianblaaNG
import Derived.Test.YthfollapianblaaN27
import Derived.Test.YthfollapianblaaN44
set_option linter.unusedSimpArgs false
set_option linter.unusedVariables false
namespace Go.Proofs.Ythfollapianblaa
open Go Go.Ab
noncomputable def ext0 : Sem' := fun _ _ _ => none
theorem ext0_ok : Sound Try.prog ext0 := by
  intro f as0 H out H' h
  cases h
theorem ext0_t0 : T0 ext0 := ⟨fun _ _ _ _ => rfl⟩
def wrdX : List AV → List AObj → Option (Out × List AObj)
  | [.d (.str s), .d (.int .i64 n)], H => if s.length ≤ 100 ∧ 0 ≤ n ∧ n ≤ 100 then some (.ret (.d (.str (wrdP s n.toNat))), H) else none
  | _, _ => none
theorem wrd_sound (as0 : List AV) (H : List AObj) (out : Out) (H' : List AObj) (h : wrdX as0 H = some (out, H')) : (∀ args w, (callFunc 21 args).run Try.prog w = .ok (.enter 21 args) w) ∧ H.length ≤ H'.length ∧
    ∀ (w : World) (Im : Imm) (g : List Gh) (vs : List Value), HR Try.prog w Im g H → RepAs w Im g vs as0 → Calls Try.prog 21 ⟨vs⟩ w (CallPost Try.prog w Im g out H') := by
  unfold wrdX at h
  split at h
  · rename_i s n
    split at h
    · rename_i hc
      cases h
      refine ext_calls (enter_of Try.func21 (by kernel_rfl) rfl) fun w Im g vs hH hr => ?_
      obtain ⟨v1, v2, rfl, h1, h2⟩ := repAs_two hr
      rw [repA_str h1, repA_int h2]
      obtain ⟨k, rfl⟩ : ∃ k : Nat, n = (k : Int) := ⟨n.toNat, by omega⟩
      rw [Int.toNat_natCast]
      refine (word_any s k hc.1 (by omega) w).mono ?_
      rintro e w' ⟨rfl, hb⟩
      exact ⟨hb, _, rfl, fun w' => .d (.str _)⟩
    · cases h
  · cases h
noncomputable def extN : Sem' := fun f as0 H => if f = 21 then wrdX as0 H else if f = 9 then nchkF ext0 f as0 H else none
theorem extN_ok : Sound Try.prog extN := by
  intro f as0 H out H' h
  unfold extN at h
  split at h
  · subst f
    exact wrd_sound as0 H out H' h
  · split at h
    · exact recEv_ok (G_ok ext0_ok) prog_ok hv hf f as0 H out H' h
    · cases h
theorem extN_t4 : T4 extN := by
  refine ⟨⟨fun f xs H h => ?_⟩, fun p hp => ?_, fun s n hs hn => ?_⟩
  · unfold extN
    rw [if_neg, if_neg]
    · rintro rfl
      cases h
    · rintro rfl
      cases h
  · unfold extN
    rw [if_neg (by decide), if_pos rfl]
    exact ncheck_e ext0_t0 p hp
  · unfold extN wrdX
    rw [if_pos rfl]
    simp only
    rw [if_pos ⟨hs, by omega, by omega⟩, Int.toNat_natCast]
theorem extN_rck : RCk extN := fun p hp => rcheck_e extN_t4.toT0 p hp
theorem str_arg {xs : List Dt} (h : WfD .str xs) : ∃ s, argOf .str xs = .d (.str s) := by
  simp only [WfD] at h
  obtain ⟨s, rfl, _⟩ := h
  exact ⟨s, rfl⟩
theorem num_arg {xs : List Dt} (h : WfD (.int .i64) xs) : ∃ n, argOf (.int .i64) xs = .d (.int .i64 n) := by
  simp only [WfD] at h
  obtain ⟨n, rfl, _⟩ := h
  exact ⟨n, rfl⟩
theorem tp_arg {xs : List Dt} (h : WfD (.st [.bool, .str]) xs) : ∃ t : Tp, argOf (.st [.bool, .str]) xs = t.av := by
  simp only [WfD, WfL] at h
  obtain ⟨a, b, rfl, h1, c, d, rfl, h2, rfl⟩ := h
  obtain ⟨x, rfl⟩ := h1
  obtain ⟨s, rfl, _⟩ := h2
  exact ⟨⟨x, s⟩, rfl⟩
end Go.Proofs.Ythfollapianblaa
