/- What is known of the library, for law 14: right. Conditions: none. -/
import Derived.Test.YtchedkjlhjfadaaExtC2
set_option linter.unusedSimpArgs false
set_option linter.unusedVariables false
namespace Go.Proofs.Ytchedkjlhjfadaa
open Go Go.Ab Go.RowKit
def withK (v : Int) : Option (List Int) → Option (Out × List AObj)
  | some l => if l ≠ [] ∧ l.length ≤ 1000000 then some (.ret (.grow 0 0 ((l.filter fun y => decide (y ≠ v)).map rowI)), [.grow 0 1]) else none
  | none => none
def withX : List AV → List AObj → Option (Out × List AObj)
  | [.d (.sl rows), .d (.int .i64 v)], [] => withK v (intsR rows)
  | _, _ => none
theorem with_sound (as0 : List AV) (H : List AObj) (out : Out) (H' : List AObj) (h : withX as0 H = some (out, H')) : (∀ args w, (callFunc 100 args).run Try.prog w = .ok (.enter 100 args) w) ∧ H.length ≤ H'.length ∧
    ∀ (w : World) (Im : Imm) (g : List Gh) (vs : List Value), HR Try.prog w Im g H → RepAs w Im g vs as0 → Calls Try.prog 100 ⟨vs⟩ w (CallPost Try.prog w Im g out H') := by
  have hE : ∀ args w, (callFunc 100 args).run Try.prog w = .ok (.enter 100 args) w := enter_of Try.func100 (by kernel_rfl) rfl
  unfold withX at h
  split at h
  · rename_i rows v
    unfold withK at h
    cases hi : intsR rows with
    | none => rw [hi] at h; cases h
    | some l =>
      rw [hi] at h
      have hrows := intsR_map hi
      subst hrows
      simp only at h
      split at h
      · rename_i hlen
        cases h
        refine ⟨hE, by simp, fun w Im g vs hH hr => ?_⟩
        have hg : g = [] := List.length_eq_zero_iff.1 hH.len
        subst hg
        have e : (l.filter fun y => decide (y ≠ v)) = l.filter fun x => !decide (x = v) := by
          congr 1
          funext x
          by_cases hx : x = v <;> simp [hx]
        rw [e]
        generalize hfl : (l.filter fun x => !decide (x = v)) = fl
        have h3 : ∀ row, row ∈ fl.map rowI → row.length = 1 := by
          intro row hrow
          obtain ⟨x, _, rfl⟩ := List.mem_map.1 hrow
          rfl
        have hrl : (fl.map rowI).length = fl.length := List.length_map _
        have hflat : (fl.map rowI).flatten = fl.map fun x => Dt.int .i64 x := by
          clear hfl h3 hrl e
          induction fl with
          | nil => rfl
          | cons x l ih => simp only [List.map_cons, List.flatten_cons, ih]; rfl
        obtain ⟨v1, v2, rfl, r1, r2⟩ := repAs_two hr
        rw [repA_int r2]
        cases r1 with
        | d hd =>
          rcases repD_ints hd with ⟨a, cap, rfl, e0⟩ | ⟨b, o, cap, rfl, hcap, hat⟩
          · exact absurd e0 hlen.1
          · refine (without_any b o cap l v w hlen.1 hlen.2 (fun j x h => (hat j x h).2)).mono ?_
            rintro e w' ⟨v', rfl, ho, hb⟩
            rw [hfl, ← hrl] at ho
            refine own_post hH.im h3 (fun k u x h hx => ?_) ho hb
            obtain ⟨z, hz, rfl⟩ := news_at h
            rw [hflat, List.getElem?_map, hz] at hx
            cases hx
            exact .int _ _
      · cases h
  · cases h
/-- What is known of the library, and of what clones by itself. -/
noncomputable def extC : Sem' := fun f as0 H =>
  if f = 102 then clone1X as0 H else if f = 105 then sortX as0 H else if f = 100 then withX as0 H
  else none
theorem extC_ok : Sound Try.prog extC := by
  intro f as0 H out H' h
  unfold extC at h
  split at h
  · subst f; exact clone1_sound as0 H out H' h
  · split at h
    · subst f; exact sort_sound as0 H out H' h
    · split at h
      · subst f; exact with_sound as0 H out H' h
      · cases h
theorem extC_tx : TX extC := by
  have n3 : ∀ xs H, extC 102 xs H = clone1X xs H := fun xs H => by unfold extC; rw [if_pos rfl]
  have n4 : ∀ xs H, extC 105 xs H = sortX xs H := fun xs H => by unfold extC; rw [if_neg (by decide), if_pos rfl]
  have n5 : ∀ xs H, extC 100 xs H = withX xs H := fun xs H => by unfold extC; rw [if_neg (by decide), if_neg (by decide), if_pos rfl]
  refine ⟨⟨fun f xs H h => ?_⟩, ?_, fun l h1 h2 => ?_, ?_, fun l h1 h2 => ?_, fun l v h1 h2 => ?_⟩
  · unfold extC
    rw [if_neg, if_neg, if_neg]
    · rintro rfl; cases h
    · rintro rfl; cases h
    · rintro rfl; cases h
  · rw [n3]; rfl
  · rw [n3]
    unfold clone1X
    simp only
    rw [intsR_of]
    cases l with
    | nil => exact absurd rfl h1
    | cons x l =>
      simp only [clone1K]
      rw [if_pos (by simp at h2; omega)]
      rfl
  · rw [n4]; rfl
  · rw [n4]
    unfold sortX
    simp only
    rw [intsA_of]
    simp only [sortK]
    rw [if_pos (by simp [h1, h2])]
  · rw [n5]
    unfold withX
    simp only
    rw [intsR_of]
    simp only [withK]
    rw [if_pos ⟨h1, h2⟩]
end Go.Proofs.Ytchedkjlhjfadaa
