/- What is known of the library: a byte's first place in a text. Conditions: none. -/
import Derived.Test.YtlcbnlfbbjmpbaaTA
import Derived.Test.YtlcbnlfbbjmpbaaAbX4
import Derived.Test.YtlcbnlfbbjmpbaaStrLib
namespace Go.Proofs.Ytlcbnlfbbjmpbaa
open Go Go.Ab
def indexX : List AV → List AObj → Option (Out × List AObj)
  | [.d (.str s), .d (.int .u8 c)], H => some (.ret (.d (.int .i64 (Lib.indexByte s c.toNat.toUInt8))), H)
  | _, _ => none
theorem index_sound (as0 : List AV) (H : List AObj) (out : Out) (H' : List AObj) (h : indexX as0 H = some (out, H')) : (∀ args w, (callFunc 78 args).run Try.prog w = .ok (.enter 78 args) w) ∧ H.length ≤ H'.length ∧
    ∀ (w : World) (Im : Imm) (g : List Gh) (vs : List Value), HR Try.prog w Im g H → RepAs w Im g vs as0 → Calls Try.prog 78 ⟨vs⟩ w (CallPost Try.prog w Im g out H') := by
  unfold indexX at h
  split at h
  · cases h
    refine ext_calls (enter_of Try.func78 (by kernel_rfl) rfl) fun w Im g vs hH hr => ?_
    obtain ⟨v1, v2, rfl, h1, h2⟩ := repAs_two hr
    rw [repA_str h1, repA_int h2]
    refine (indexByte_any _ _ _).mono ?_
    rintro e w' ⟨rfl, rfl⟩
    exact ⟨RowKit.Below.refl _ _, _, rfl, fun w' => .d (.int _ _)⟩
  · cases h
theorem idxI_lib (l : List UInt8) (c : UInt8) : idxI l c = Lib.indexByte l c := by
  induction l with
  | nil => rfl
  | cons a l ih =>
    unfold idxI at ih ⊢
    unfold idxB Lib.indexByte
    rw [← ih]
    by_cases h : a = c
    · simp [h]
    · rw [if_neg h]
      have h' : (a == c) = false := by simpa using h
      simp only [h']
      cases h2 : idxB c l with
      | none => simp
      | some i => simp
noncomputable def ext1 : Sem' := fun f as0 H => if f = 78 then indexX as0 H else none
theorem ext1_ok : Sound Try.prog ext1 := by
  intro f as0 H out H' h
  unfold ext1 at h
  split at h
  · subst f
    exact index_sound as0 H out H' h
  · cases h
theorem ext1_tx : TX ext1 := by
  refine ⟨fun f xs H h => ?_, fun s c hs => ?_⟩
  · unfold ext1
    rw [if_neg]
    rintro rfl
    cases h
  · unfold ext1 indexX
    simp only [if_true]
    rw [idxI_lib]
    simp
end Go.Proofs.Ytlcbnlfbbjmpbaa
