/- token: what a text hands on, one by one. Conditions: none. -/
import Derived.Test.YtknonjnbeajooaaT5
import Derived.Test.YtknonjnbeajooaaAbX4
namespace Go.Proofs.Ytknonjnbeajooaa
open Go Go.Ab
variable {ext : Sem'}
/-- A token, by its bytes. -/
structure Tok where
  kind : Int
  text : List UInt8
  num : Int
  pos : Int × Int
/-- What is wrong. -/
structure Dg where
  stage : Int
  what : Int
  pos : Int × Int
def Tok.zero : Tok := ⟨0, [], 0, (0, 0)⟩
def Dg.zero : Dg := ⟨0, 0, (0, 0)⟩
def Tok.row (t : Tok) : List Dt := [.int .i64 t.kind, .str t.text, .int .i64 t.num, .int .i64 t.pos.1, .int .i64 t.pos.2]
def Tok.av (t : Tok) : AV := .agg [.d (.int .i64 t.kind), .d (.str t.text), .d (.int .i64 t.num), .d (.int .i64 t.pos.1), .d (.int .i64 t.pos.2)]
def Dg.av (d : Dg) : AV := .agg [.d (.int .i64 d.stage), .d (.int .i64 d.what), .d (.int .i64 d.pos.1), .d (.int .i64 d.pos.2)]

/-- What the iterator gives, from there on. -/
def eachF : Nat → List UInt8 → Int × Int → List (Tok × Dg)
  | 0, _, _ => []
  | g + 1, l, p =>
    let l' := l.drop (skipN false l)
    let p' := adv p (l.take (skipN false l))
    match lexR l' with
    | .bad f => [(Tok.zero, ⟨1, f, p'⟩)]
    | .tok k n v => (⟨k, l'.take n, v, p'⟩, Dg.zero) :: if k = 5 then [] else eachF g (l'.drop n) (adv p' (l'.take n))
def eachL (l : List UInt8) : List (Tok × Dg) := if 1048576 < l.length then [(Tok.zero, ⟨1, 2, (1, 1)⟩)] else eachF (l.length + 1) l (1, 1)
def eachI (l : List (Tok × Dg)) : List (List AV) := l.map fun x => [x.1.av, x.2.av]
theorem eachI_plain (l : List (Tok × Dg)) : plainI (eachI l) := by
  intro x hx
  obtain ⟨y, _, rfl⟩ := List.mem_map.1 hx
  rfl

theorem spanL_pos {p : UInt8 → Bool} {c : UInt8} {t : List UInt8} (h : p c = true) : 1 ≤ spanL p (c :: t) := by simp [spanL, h]
theorem lexR_tok {l : List UInt8} {k v : Int} {n : Nat} (h : lexR l = .tok k n v) : n ≤ l.length ∧ ((k = 5 ∧ l = [] ∧ n = 0) ∨ (k ≠ 5 ∧ 1 ≤ n)) := by
  cases l with
  | nil =>
    simp only [lexR] at h
    cases h
    exact ⟨by simp, .inl ⟨rfl, rfl, rfl⟩⟩
  | cons c t =>
    simp only [lexR] at h
    split at h
    · rename_i hc
      unfold wordR at h
      split at h
      · cases h
      · cases h
        refine ⟨spanL_le _ _, .inr ⟨?_, spanL_pos (by simp [isInner, hc])⟩⟩
        split <;> decide
    · split at h
      · rename_i hc
        unfold numberR at h
        split at h
        · cases h
        · split at h
          · cases h
          · cases h
            exact ⟨spanL_le _ _, .inr ⟨by decide, spanL_pos hc⟩⟩
      · unfold signR at h
        split at h
        · rename_i h2
          cases h
          exact ⟨by omega, .inr ⟨by decide, by decide⟩⟩
        · split at h
          · cases h
            exact ⟨by simp, .inr ⟨by decide, by decide⟩⟩
          · cases h
theorem lexR_bad {l : List UInt8} {f : Int} (h : lexR l = .bad f) : f = 2 ∨ f = 3 := by
  cases l with
  | nil => simp only [lexR] at h; cases h
  | cons c t =>
    simp only [lexR] at h
    split at h
    · unfold wordR at h
      split at h
      · cases h; exact .inl rfl
      · cases h
    · split at h
      · unfold numberR at h
        split at h
        · cases h; exact .inr rfl
        · split at h
          · cases h; exact .inl rfl
          · cases h
      · unfold signR at h
        split at h
        · cases h
        · split at h
          · cases h
          · cases h; exact .inr rfl

theorem each1_e (hx : TX ext) (s : List UInt8) (o o' : AObj) (hl : Listens o) (ho : fed (eachI (eachL s)) o = some o') :
    G ext 22 [.yld 1, .ptr 0 0] [.cells [.d (.str s)], o] = some (.ret (.tuple []), [.cells [.d (.str s)], o']) := by
  rw [G_body hx.clear rfl Try.func22 rfl Try.results22 hv_22 rfl]
  by_cases h : (1048576 : Int) < s.length
  · have h' : 1048576 < s.length := by omega
    simp only [eachL, h', if_true, eachI, List.map_cons, List.map_nil, Tok.av, Tok.zero, Dg.av] at ho
    rcases fed_cons ho with ⟨o1, h1, h2⟩ | h1
    · cases h2
      simp (config := { maxSteps := 4000000 }) (disch := first | (intros; contradiction) | omega) only [go_sem, h, (feed1_listens h1).2.refs, yieldK_feed h1]
    · simp (config := { maxSteps := 4000000 }) (disch := first | (intros; contradiction) | omega) only [go_sem, h, (feed1_listens h1).2.refs, yieldK_feed h1]
  · simp only [eachL, show ¬ 1048576 < s.length by omega, if_false] at ho
    simp (config := { maxSteps := 4000000 }) (disch := first | (intros; contradiction) | omega) only [go_sem, h]
    generalize hL : loopA _ _ _ = L
    apply loop_post hL (fun x : Nat × List UInt8 × (Int × Int) × AObj => x.2.1.length < x.1 ∧ 1 ≤ x.2.2.1.1 ∧ x.2.2.1.1 + x.2.1.length ≤ 1048577 ∧ 1 ≤ x.2.2.1.2 ∧ x.2.2.1.2 + x.2.1.length ≤ 1048577 ∧ Listens x.2.2.2 ∧ fed (eachI (eachF x.1 x.2.1 x.2.2.1)) x.2.2.2 = some o') (fun x => x.2.1.length)
      (fun x => ⟨[(0, .yld 1), (1, .ptr 0 0), (3, .ptr 2 0), (4, .any), (5, .any), (6, .any)], [], [.cells [.d (.str s)], x.2.2.2, .cells [.d (.str x.2.1), .d (.int .i64 x.2.2.1.1), .d (.int .i64 x.2.2.1.2)]]⟩)
      (s.length + 1, s, (1, 1), o) (by simp (config := { maxSteps := 4000000 }) (disch := first | (intros; contradiction) | omega) only [go_sem, hl.refs]) ⟨by simp, by simp, by simp; omega, by simp, by simp; omega, hl, ho⟩
    clear ho hl
    rintro ⟨g, l, p, o⟩ ⟨h1, h2, h3, h4, h5, hl, ho⟩ next ih
    simp only at h1 h2 h3 h4 h5 hl ho ih ⊢
    obtain ⟨g, rfl⟩ : ∃ k, g = k + 1 := ⟨g - 1, by omega⟩
    simp only [eachF] at ho
    have hsk := skip_e hx l p (by omega) ⟨h2, by omega, h4, by omega⟩
    have hle := skipN_le false l
    have hadv := adv_le p (l.take (skipN false l)) ⟨h2, h4⟩
    rw [List.length_take, Nat.min_eq_left hle] at hadv
    generalize hl' : l.drop (skipN false l) = l' at *
    generalize hp' : adv p (l.take (skipN false l)) = p' at *
    have hlen : l'.length + skipN false l = l.length := by rw [← hl', List.length_drop]; omega
    have hn := tnext_e hx l' p' (by omega) ⟨by omega, by omega, by omega, by omega⟩
    cases hR : lexR l' with
    | bad f =>
      rw [hR] at hn ho
      simp only [lexOut, tokA] at hn
      simp only [eachI, List.map_cons, List.map_nil, Tok.av, Tok.zero, Dg.av] at ho
      have hf : ¬ f = 0 := by have := lexR_bad hR; omega
      rcases fed_cons ho with ⟨o1, k1, k2⟩ | k1
      · cases k2
        simp (config := { maxSteps := 4000000 }) (disch := first | (intros; contradiction) | omega) only [go_sem, hsk, hn, hf, (feed1_listens k1).2.refs, yieldK_feed k1]
      · simp (config := { maxSteps := 4000000 }) (disch := first | (intros; contradiction) | omega) only [go_sem, hsk, hn, hf, (feed1_listens k1).2.refs, yieldK_feed k1]
    | tok k n v =>
      rw [hR] at hn ho
      simp only [lexOut, tokA] at hn
      simp only [eachI, List.map_cons, Tok.av, Dg.zero, Dg.av] at ho
      obtain ⟨hk1, hk2⟩ := lexR_tok hR
      rcases fed_cons ho with ⟨o1, k1, k2⟩ | k1
      · by_cases hk : k = 5
        · subst hk
          rw [if_pos rfl] at k2
          cases k2
          simp (config := { maxSteps := 4000000 }) (disch := first | (intros; contradiction) | omega) only [go_sem, hsk, hn, (feed1_listens k1).2.refs, yieldK_feed k1]
        · rw [if_neg hk] at k2
          have hadv2 := adv_le p' (l'.take n) ⟨by omega, by omega⟩
          rw [List.length_take, Nat.min_eq_left hk1] at hadv2
          have hl1 := (feed1_listens k1).2
          simp (config := { maxSteps := 4000000 }) (disch := first | (intros; contradiction) | omega) only [go_sem, hsk, hn, hk, yieldK_feed k1]
          exact ih (g, l'.drop n, adv p' (l'.take n), o1) _ ⟨by simp; omega, by simp only; omega, by simp; omega, by simp only; omega, by simp; omega, hl1, k2⟩ (by simp; omega) (by simp (config := { maxSteps := 4000000 }) (disch := first | (intros; contradiction) | omega) only [go_sem, hl1.refs])
      · simp (config := { maxSteps := 4000000 }) (disch := first | (intros; contradiction) | omega) only [go_sem, hsk, hn, (feed1_listens k1).2.refs, yieldK_feed k1]
theorem each_e (hx : TX ext) (s : List UInt8) : G ext 9 [.d (.str s)] [] = some (.ret (.fn 22 [] [.ptr 0 0]), [.cells [.d (.str s)]]) := by
  rw [G_body hx.clear rfl Try.func9 rfl Try.results9 hv_9 rfl]
  simp (config := { maxSteps := 4000000 }) (disch := first | (intros; contradiction) | omega) only [go_sem]
def tokSl (l : List Tok) : Dt := .sl (l.map Tok.row)
end Go.Proofs.Ytknonjnbeajooaa
