/- token: all tokens of a text. Conditions: none. -/
import Derived.Test.YtknonjnbeajooaaT6
namespace Go.Proofs.Ytknonjnbeajooaa
open Go Go.Ab
variable {ext : Sem'}
theorem eachF_shape (l : List UInt8) (p : Int × Int) : ∀ g : Nat, (∀ x, x ∈ eachF g l p → x.2 = Dg.zero) ∨ ∃ gs d, eachF g l p = gs ++ [(Tok.zero, d)] ∧ d.what ≠ 0 ∧ ∀ x, x ∈ gs → x.2 = Dg.zero := by
  intro g
  induction g generalizing l p with
  | zero => exact .inl (by simp [eachF])
  | succ g ih =>
    simp only [eachF]
    cases hR : lexR (l.drop (skipN false l)) with
    | bad f =>
      refine .inr ⟨[], _, rfl, ?_, by simp⟩
      rcases lexR_bad hR with rfl | rfl <;> simp
    | tok k n v =>
      simp only
      by_cases hk : k = 5
      · rw [if_pos hk]
        exact .inl (by simp)
      · rw [if_neg hk]
        rcases ih ((l.drop (skipN false l)).drop n) (adv (adv p (l.take (skipN false l))) ((l.drop (skipN false l)).take n)) with h | ⟨gs, d, h1, h2, h3⟩
        · exact .inl (by simpa using h)
        · rw [h1]
          exact .inr ⟨_ :: gs, d, rfl, h2, by simpa using h3⟩
theorem eachF_len (l : List UInt8) (p : Int × Int) : ∀ g : Nat, (eachF g l p).length ≤ g := by
  intro g
  induction g generalizing l p with
  | zero => simp [eachF]
  | succ g ih =>
    simp only [eachF]
    split
    · simp
    · simp only [List.length_cons]
      split
      · simp
      · exact Nat.succ_le_succ (ih _ _)
theorem eachL_shape (l : List UInt8) : (∀ x, x ∈ eachL l → x.2 = Dg.zero) ∨ ∃ gs d, eachL l = gs ++ [(Tok.zero, d)] ∧ d.what ≠ 0 ∧ ∀ x, x ∈ gs → x.2 = Dg.zero := by
  unfold eachL
  split
  · exact .inr ⟨[], _, rfl, by simp, by simp⟩
  · exact eachF_shape _ _ _
theorem eachL_len (l : List UInt8) : (eachL l).length ≤ 1048577 := by
  unfold eachL
  split
  · simp
  · exact Nat.le_trans (eachF_len _ _ _) (by omega)
def firstBad (l : List (Tok × Dg)) : Option Dg := (l.find? fun x => decide (x.2.what ≠ 0)).map (·.2)
/-- All tokens, or what is wrong. -/
def scanR (l : List (Tok × Dg)) : List Tok × Dg := match firstBad l with
  | some d => ([], d)
  | none => (l.map (·.1), Dg.zero)
theorem scanR_good {l : List (Tok × Dg)} (h : ∀ x, x ∈ l → x.2 = Dg.zero) : scanR l = (l.map (·.1), Dg.zero) := by
  have : firstBad l = none := by
    unfold firstBad
    rw [List.find?_eq_none.2 (fun x hx => by rw [h x hx]; simp [Dg.zero])]
    rfl
  unfold scanR
  rw [this]
theorem scanR_bad {gs : List (Tok × Dg)} {d : Dg} (h : ∀ x, x ∈ gs → x.2 = Dg.zero) (hd : d.what ≠ 0) : scanR (gs ++ [(Tok.zero, d)]) = ([], d) := by
  have : firstBad (gs ++ [(Tok.zero, d)]) = some d := by
    unfold firstBad
    rw [List.find?_append, List.find?_eq_none.2 (fun x hx => by rw [h x hx]; simp [Dg.zero])]
    simp [hd]
  unfold scanR
  rw [this]
def rowsT (l : List Tok) : List (List Dt) := l.map Tok.row
theorem eachI_get {l : List (Tok × Dg)} {i : Nat} {x : List AV} (h : (eachI l)[i]? = some x) : ∃ t d, l[i]? = some (t, d) ∧ x = [t.av, d.av] := by
  unfold eachI at h
  rw [List.getElem?_map] at h
  cases hl : l[i]? with
  | none => rw [hl] at h; cases h
  | some y => rw [hl] at h; cases h; exact ⟨y.1, y.2, rfl, rfl⟩
theorem eachI_len (l : List (Tok × Dg)) : (eachI l).length = l.length := by unfold eachI; simp
theorem room_tok {n : Nat} (h : n ≤ 1048577) : room n 48 := by unfold room; simp; omega
theorem scan_e (hx : TX ext) (s : List UInt8) : G ext 10 [.d (.str s)] [] = some (.ret (.tuple [.d (.sl (rowsT (scanR (eachL s)).1)), (scanR (eachL s)).2.av]), []) := by
  obtain ⟨h1, h2, h3⟩ := gen3 (Hs := [.cells [.d (.str s)]]) (eachI_plain (eachL s)) (fun o o' hl ho => each1_e hx s o o' hl ho)
  simp only [List.cons_append, List.nil_append] at h1 h2 h3
  have hlen := eachL_len s
  rw [G_body hx.clear rfl Try.func10 rfl Try.results10 hv_10 rfl]
  simp (config := { maxSteps := 4000000 }) (disch := first | (intros; contradiction) | omega) only [go_sem, each_e hx, h1]
  generalize hR : rfFold _ _ _ _ _ _ = R
  have hsucc : ∀ (i : Nat) (t : Tok) (d : Dg), (eachL s)[i]? = some (t, d) → rowsT (((eachL s).map (·.1)).take (i + 1)) = rowsT (((eachL s).map (·.1)).take i) ++ [[.int .i64 t.kind, .str t.text, .int .i64 t.num, .int .i64 t.pos.1, .int .i64 t.pos.2]] ∧ room ((rowsT (((eachL s).map (·.1)).take i)).length + 1) 48 := by
    intro i t d hl
    have hi := (List.getElem?_eq_some_iff.1 hl).1
    refine ⟨?_, room_tok (by unfold rowsT; simp; omega)⟩
    rw [List.take_add_one, List.getElem?_map, hl]
    unfold rowsT
    rw [List.map_append]
    rfl
  rcases eachL_shape s with hg | ⟨gs, d, he, hd, hg⟩
  · rw [scanR_good hg]
    have := rfFold_all hR (fun i => [.cells [.grow 2 i (rowsT (((eachL s).map (·.1)).take i))], .cells [.d (.int .i64 0), .d (.int .i64 0), .d (.int .i64 0), .d (.int .i64 0)], .grow i 5, .no]) rfl (fun i x next hx => by
      obtain ⟨t, d, hl, rfl⟩ := eachI_get hx
      have hd := hg _ (List.mem_of_getElem? hl)
      simp only at hd
      subst hd
      obtain ⟨hs1, hs2⟩ := hsucc i t _ hl
      simp only [Tok.av, Dg.av, Dg.zero]
      simp (config := { maxSteps := 4000000 }) (disch := first | (intros; contradiction) | omega) only [go_sem, hs2, hs1])
    rw [this]
    clear this hR
    rw [eachI_len, List.take_of_length_le (by simp)]
    simp only [Dg.av, Dg.zero]
    simp (config := { maxSteps := 4000000 }) (disch := first | (intros; contradiction) | omega) only [go_sem, h2]
  · rw [he, scanR_bad hg hd]
    have hj : gs.length < (eachI (eachL s)).length := by rw [eachI_len, he]; simp
    have h3 := h3 _ hj
    rw [he] at h3
    have := rfFold_first hR (fun i => [.cells [.grow 2 i (rowsT (((eachL s).map (·.1)).take i))], .cells [.d (.int .i64 0), .d (.int .i64 0), .d (.int .i64 0), .d (.int .i64 0)], .grow i 5, .no]) rfl gs.length hj
      (.left .ret gs.length [.cells [.full []], .cells [.d (.int .i64 d.stage), .d (.int .i64 d.what), .d (.int .i64 d.pos.1), .d (.int .i64 d.pos.2)], .grow gs.length 5, .no]) (fun i x next hi hx => by
      obtain ⟨t, d', hl, rfl⟩ := eachI_get hx
      have hd := hg (t, d') (by rw [he, List.getElem?_append_left hi] at hl; exact List.mem_of_getElem? hl)
      simp only at hd
      subst hd
      obtain ⟨hs1, hs2⟩ := hsucc i t _ hl
      simp only [Tok.av, Dg.av, Dg.zero]
      simp (config := { maxSteps := 4000000 }) (disch := first | (intros; contradiction) | omega) only [go_sem, hs2, hs1]) (fun x next hx => by
      obtain ⟨t, d', hl, rfl⟩ := eachI_get hx
      rw [he, List.getElem?_append_right (Nat.le_refl _)] at hl
      simp at hl
      obtain ⟨rfl, rfl⟩ := hl
      simp only [Tok.av, Dg.av, Tok.zero]
      simp (config := { maxSteps := 4000000 }) (disch := first | (intros; contradiction) | omega) only [go_sem, hd])
    rw [this]
    clear this hR
    simp only [Dg.av]
    simp (config := { maxSteps := 4000000 }) (disch := first | (intros; contradiction) | omega) only [go_sem, h3]
    rfl
end Go.Proofs.Ytknonjnbeajooaa
