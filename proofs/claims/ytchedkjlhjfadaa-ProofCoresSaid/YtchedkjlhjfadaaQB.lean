/- Law 16: which clauses are used; Law 16: steps, trimmed. Conditions: none. -/
import Derived.Test.YtchedkjlhjfadaaQA
import Derived.Test.YtchedkjlhjfadaaS8a
set_option linter.unusedSimpArgs false
set_option linter.unusedVariables false
namespace Go.Proofs.Ytchedkjlhjfadaa
open Go Go.Ab
variable {ext : Sem'}
/-- Steps with their places, the last one first. -/
def bkL (l : List Ps) : Nat → List (Ps × Nat)
  | 0 => []
  | i + 1 => (l.getD i ⟨0, 0, 0⟩, i) :: bkL l i
def stA (s : Ps) : AV := .agg [.d (.int .i64 s.a), .d (.int .i64 s.b), .d (.int .i64 s.on)]
def yS (p : Ps × Nat) : List AV := [.d (.int .i64 p.2), stA p.1]
theorem bwd_e (hx : TX ext) (l : List Ps) : G ext 71 [.d (.sl (l.map rowS))] [] = some (.ret (.fn 95 [] [.ptr 0 0]), [.cells [.d (.sl (l.map rowS))]]) := by
  rw [G_body hx.clear rfl Try.func71 rfl Try.results71 hv_71 rfl]
  simp (config := { maxSteps := 4000000 }) (disch := first | (intros; contradiction) | omega) only [go_sem]
theorem bwdG_e (hx : TX ext) (l : List Ps) (hl : l.length ≤ 100000) : G ext 95 [.yld 1, .ptr 0 0] [.cells [.d (.sl (l.map rowS))], .gen []] = some (.ret (.tuple []), [.cells [.d (.sl (l.map rowS))], .gen ((bkL l l.length).map yS)]) := by
  have hll : (l.map rowS).length = l.length := List.length_map _
  have hw0 : IntKind.wrap .i64 (((l.map rowS).length : Int) - 1) = (l.length : Int) - 1 := by rw [wrap64 (by omega) (by omega)]; omega
  rw [G_body hx.clear rfl Try.func95 rfl Try.results95 hv_95 rfl]
  simp (config := { maxSteps := 4000000 }) (disch := first | (intros; contradiction) | omega) only [go_sem, hw0]
  generalize hL : loopA _ _ _ = L
  apply loop_upd hL (by simp (config := { maxSteps := 4000000 }) (disch := first | (intros; contradiction) | omega) only [go_sem] <;> rfl) (α := Nat × List (Ps × Nat)) (fun s => s.1 ≤ l.length ∧ s.2 ++ bkL l s.1 = bkL l l.length) (fun s => s.1) (fun s => [(3, .d (.int .i64 ((s.1 : Int) - 1)))]) (fun s => [(1, .gen (s.2.map yS))]) (l.length, []) (by simp (config := { maxSteps := 4000000 }) (disch := first | (intros; contradiction) | omega) only [go_sem] <;> rfl) ⟨Nat.le_refl _, rfl⟩ ?_
  rintro ⟨i, acc⟩ ⟨i1, i2⟩ next ih
  simp only at i1 i2 ih ⊢
  clear hL
  cases i with
  | zero =>
    have hneg : ¬ (0 : Int) ≤ ((0 : Nat) : Int) - 1 := by omega
    rw [← i2]
    simp only [bkL, List.append_nil]
    simp (config := { maxSteps := 4000000 }) (disch := first | (intros; contradiction) | omega) only [go_sem, hneg]
    done
  | succ i =>
    have hpos : (0 : Int) ≤ ((i + 1 : Nat) : Int) - 1 := by omega
    have hi : ((i + 1 : Nat) : Int) - 1 = (i : Int) := by omega
    have hrow : (l.map rowS)[i]? = some (rowS (l.getD i ⟨0, 0, 0⟩)) := by
      rw [List.getElem?_map, List.getD_eq_getElem?_getD, List.getElem?_eq_getElem (by omega)]; rfl
    have hw1 : IntKind.wrap .i64 ((i : Int) - 1) = (i : Int) - 1 := by rw [wrap64 (by omega) (by omega)]
    generalize hsd : l.getD i ⟨0, 0, 0⟩ = s at hrow
    simp only [rowS] at hrow
    rw [hi] at hpos ⊢
    simp (config := { maxSteps := 4000000 }) (disch := first | (intros; contradiction) | omega) only [go_sem, hpos, hrow, hw1, hi]
    refine ih (i, acc ++ [(s, i)]) _ ⟨by simp only; omega, ?_⟩ (by simp only; omega) (by simp (config := { maxSteps := 4000000 }) (disch := first | (intros; contradiction) | omega) only [go_sem, List.map_append, List.map_cons, List.map_nil, yS, stA] <;> rfl)
    rw [← i2]
    simp only [bkL, hsd, List.append_assoc, List.singleton_append]
theorem bwdL_e (hx : TX ext) (l : List Ps) (hl : l.length ≤ 100000) : G ext 95 [.yld 1, .ptr 0 0] [.cells [.d (.sl (l.map rowS))], .log 0 0 ((bkL l l.length).map yS)] = some (.ret (.tuple []), [.cells [.d (.sl (l.map rowS))], .log 0 l.length []]) := by
  have hll : (l.map rowS).length = l.length := List.length_map _
  have hw0 : IntKind.wrap .i64 (((l.map rowS).length : Int) - 1) = (l.length : Int) - 1 := by rw [wrap64 (by omega) (by omega)]; omega
  rw [G_body hx.clear rfl Try.func95 rfl Try.results95 hv_95 rfl]
  simp (config := { maxSteps := 4000000 }) (disch := first | (intros; contradiction) | omega) only [go_sem, hw0]
  generalize hL : loopA _ _ _ = L
  apply loop_upd hL (by simp (config := { maxSteps := 4000000 }) (disch := first | (intros; contradiction) | omega) only [go_sem] <;> rfl) (α := Nat × Nat) (fun s => s.1 + s.2 = l.length) (fun s => s.1) (fun s => [(3, .d (.int .i64 ((s.1 : Int) - 1)))]) (fun s => [(1, .log 0 s.2 ((bkL l s.1).map yS))]) (l.length, 0) (by simp (config := { maxSteps := 4000000 }) (disch := first | (intros; contradiction) | omega) only [go_sem] <;> rfl) (by simp) ?_
  rintro ⟨i, k⟩ i1 next ih
  simp only at i1 ih ⊢
  clear hL
  cases i with
  | zero =>
    have hneg : ¬ (0 : Int) ≤ ((0 : Nat) : Int) - 1 := by omega
    have hk : k = l.length := by omega
    rw [← hk]
    simp only [bkL, List.map_nil]
    simp (config := { maxSteps := 4000000 }) (disch := first | (intros; contradiction) | omega) only [go_sem, hneg]
    done
  | succ i =>
    have hpos : (0 : Int) ≤ ((i + 1 : Nat) : Int) - 1 := by omega
    have hi : ((i + 1 : Nat) : Int) - 1 = (i : Int) := by omega
    have hrow : (l.map rowS)[i]? = some (rowS (l.getD i ⟨0, 0, 0⟩)) := by
      rw [List.getElem?_map, List.getD_eq_getElem?_getD, List.getElem?_eq_getElem (by omega)]; rfl
    have hw1 : IntKind.wrap .i64 ((i : Int) - 1) = (i : Int) - 1 := by rw [wrap64 (by omega) (by omega)]
    have hbk : (bkL l (i + 1)).map yS = yS (l.getD i ⟨0, 0, 0⟩, i) :: (bkL l i).map yS := rfl
    rw [hbk]
    generalize hsd : l.getD i ⟨0, 0, 0⟩ = s at hrow
    simp only [rowS] at hrow
    simp only [yS, stA]
    rw [hi] at hpos ⊢
    have hk1 : decide (k + 1 ≠ 0) = true := by simp
    simp (config := { maxSteps := 4000000 }) (disch := first | (intros; contradiction) | omega) only [go_sem, hpos, hrow, hw1, hi, hk1]
    exact ih (i, k + 1) _ (by simp only; omega) (by simp only; omega) (by simp (config := { maxSteps := 4000000 }) (disch := first | (intros; contradiction) | omega) only [go_sem, hw1] <;> rfl)
/-- A range over a function: the rounds, one by one. -/
theorem rfFold_run {σ α : Type} {f : List AV → List AObj → RC} {n np : Nat} (h : σ → List AObj) (y : α → List AV) (step : σ → α → σ) (I : σ → Prop) : ∀ (xs : List α) (k : Nat) (s : σ), I s →
    (∀ s x, x ∈ xs → I s → I (step s x) ∧ (y x).length = np ∧ ∃ st, f (y x) (h s) = .go st ∧ keepH n st.H = some (h (step s x))) → rfFold f n np k (xs.map y) (h s) = .done (h (xs.foldl step s))
  | [], k, s, _, _ => rfl
  | x :: xs, k, s, hI, hs => by
    obtain ⟨h1, h2, st, h3, h4⟩ := hs s x (by simp) hI
    simp only [List.map_cons, rfFold, if_pos h2, h3, rfK, h4, rfNext, List.foldl_cons]
    exact rfFold_run h y step I xs (k + 1) (step s x) h1 fun s x hx => hs s x (by simp [hx])
theorem renM_kE (g : Nat → Nat) : ∀ s : List Int, renM g (kE s) = kE s
  | [] => rfl
  | x :: s => by have := renM_kE g s; simp only [kE, List.map_cons, renM, ren] at this ⊢; rw [this]
def usedStep (n : Nat) (s : List Int) (p : Ps × Nat) : List Int := if ((n + p.2 : Nat) : Int) ∈ s then addK (addK s p.1.a) p.1.b else s
/-- The clauses from which the first empty one comes. -/
def usedP (n : Nat) (l : List Ps) (e : Int) : List Int := (bkL l l.length).foldl (usedStep n) [e]
def usedA (f : Fm) (l : List Ps) : AV × List AObj := if emptyP f l = -1 then (.nilm, []) else (.mp 0, [.mapo (kE (usedP f.l.length l (emptyP f l)))])
theorem used_e (hx : TXP ext) (f : Fm) (hs : Short f) (l : List Ps) (hll : l.length ≤ 10000) (hft : rightP f = true → Fits f l) : G ext 49 [f.av, .d (.sl (l.map rowS))] [] = some (.ret (usedA f l).1, (usedA f l).2) := by
  have he := empty_e hx f hs l hft
  have hb := bwd_e hx.toTX l
  have hg := bwdG_e hx.toTX l (by omega)
  have hlo := bwdL_e hx.toTX l (by omega)
  have r1 := refsM_kE
  have hfl : (f.l.map rowC).length = f.l.length := List.length_map _
  have hfs := hs.l
  unfold usedA
  generalize emptyP f l = e at he
  simp only [Fm.av] at he ⊢
  have hx := hx.toTX
  by_cases h1 : e = -1
  · rw [if_pos h1]
    rw [G_body hx.clear rfl Try.func49 rfl Try.results49 hv_49 rfl]
    simp (config := { maxSteps := 4000000 }) (disch := first | (intros; contradiction) | omega) only [go_sem, he, h1]
    done
  · rw [if_neg h1]
    have hk1 : kE [e] = [(.d (.int .i64 e), .d (.bool true))] := rfl
    rw [G_body hx.clear rfl Try.func49 rfl Try.results49 hv_49 rfl]
    simp (config := { maxSteps := 4000000 }) (disch := first | (intros; contradiction) | omega) only [go_sem, he, h1, hb, hg]
    generalize hR : rfFold _ 4 2 0 _ _ = R
    have hfold : R = .done [.cells [.d (.int .i64 f.n), .d (.sl (f.l.map rowC))], .mapo (kE (usedP f.l.length l e)), .cells [.mp 1], .no] := by
      rw [← hR]
      refine rfFold_run (fun s => [.cells [.d (.int .i64 f.n), .d (.sl (f.l.map rowC))], .mapo (kE s), .cells [.mp 1], .no]) yS (usedStep f.l.length) (fun _ => True) (bkL l l.length) 0 [e] trivial fun s p hp _ => ⟨trivial, rfl, ?_⟩
      obtain ⟨q, i⟩ := p
      simp only [yS, stA]
      have hil : i < l.length := by
        clear hR
        have : ∀ m, (q, i) ∈ bkL l m → i < m := fun m => by
          induction m with
          | zero => intro h; cases h
          | succ m ih =>
            intro h
            simp only [bkL, List.mem_cons, Prod.mk.injEq] at h
            rcases h with ⟨_, h⟩ | h
            · omega
            · have := ih h; omega
        exact this _ hp
      have hw : IntKind.wrap .i64 (((f.l.map rowC).length : Int) + (i : Int)) = ((f.l.length + i : Nat) : Int) := by rw [wrap64 (by omega) (by omega)]; omega
      have hfi := findM_kE ((f.l.length + i : Nat) : Int) s
      by_cases hm : ((f.l.length + i : Nat) : Int) ∈ s
      · rw [if_pos hm] at hfi
        have hs1 := setM_kE q.a s
        have hs2 := setM_kE q.b (addK s q.a)
        rw [show usedStep f.l.length s (q, i) = addK (addK s q.a) q.b from if_pos hm]
        refine ⟨_, by simp (config := { maxSteps := 4000000 }) (disch := first | (intros; contradiction) | omega) only [go_sem, hw, hfi, hs1, hs2] <;> rfl, ?_⟩
        simp (config := { maxSteps := 4000000 }) (disch := first | (intros; contradiction) | omega) only [go_sem, r1]
        done
      · rw [if_neg hm] at hfi
        rw [show usedStep f.l.length s (q, i) = s from if_neg hm]
        refine ⟨_, by simp (config := { maxSteps := 4000000 }) (disch := first | (intros; contradiction) | omega) only [go_sem, hw, hfi] <;> rfl, ?_⟩
        simp (config := { maxSteps := 4000000 }) (disch := first | (intros; contradiction) | omega) only [go_sem, r1]
        done
    rw [hfold]
    clear hR
    have hz : decide (0 = 0) = true := rfl
    simp (config := { maxSteps := 4000000 }) (disch := first | (intros; contradiction) | omega) only [go_sem, hlo, r1, List.isEmpty_nil, renM_kE]
    done
/-- Is a clause used? -/
def inU (f : Fm) (l : List Ps) (x : Int) : Bool := if emptyP f l = -1 then false else decide (x ∈ usedP f.l.length l (emptyP f l))
def pickU (u : Int → Bool) (k : Nat) : List Int := ((List.range k).filter fun (i : Nat) => u (i : Int)).map fun (i : Nat) => (i : Int)
theorem pickU_succ (u : Int → Bool) (k : Nat) : pickU u (k + 1) = pickU u k ++ if u (k : Int) = true then [(k : Int)] else [] := by
  unfold pickU
  rw [List.range_succ, List.filter_append, List.map_append]
  by_cases h : u (k : Int) = true <;> simp [h]
theorem pickU_len (u : Int → Bool) (k : Nat) : (pickU u k).length ≤ k := by
  unfold pickU
  rw [List.length_map]
  exact Nat.le_trans (List.length_filter_le _ _) (by simp)
def coreP (f : Fm) (l : List Ps) : List Int := pickU (inU f l) f.l.length
theorem core_e (hx : TXP ext) (f : Fm) (hs : Short f) (l : List Ps) (hll : l.length ≤ 10000) (hft : rightP f = true → Fits f l) : G ext 22 [f.av, .d (.sl (l.map rowS))] [] = some (.ret (.d (.sl ((coreP f l).map rowI))), []) := by
  have hu := used_e hx f hs l hll hft
  have r1 := refsM_kE
  have hfl : (f.l.map rowC).length = f.l.length := List.length_map _
  have hfs := hs.l
  unfold usedA at hu
  unfold coreP inU
  generalize emptyP f l = e at hu
  have hx := hx.toTX
  by_cases h1 : e = -1
  · simp only [h1, if_true, Fm.av] at hu ⊢
    have hno : pickU (fun _ => false) f.l.length = [] := by unfold pickU; simp
    rw [hno]
    rw [G_body hx.clear rfl Try.func22 rfl Try.results22 hv_22 rfl]
    simp (config := { maxSteps := 4000000 }) (disch := first | (intros; contradiction) | omega) only [go_sem, hu]
    generalize hL : loopA _ _ _ = L
    apply range_upd hL (by simp (config := { maxSteps := 4000000 }) (disch := first | (intros; contradiction) | omega) only [go_sem] <;> rfl) f.l rowC (α := Unit) (fun rest k _ => True) (fun k _ => [(6, .any), (13, .d (.int .i64 k))]) (fun _ _ => []) () (by simp (config := { maxSteps := 4000000 }) (disch := first | (intros; contradiction) | omega) only [go_sem] <;> rfl) trivial ?_ ?_
    · rintro c rest k _ _ hlt hrow hget hk _ next ih
      clear hL
      have hwk : IntKind.wrap .i64 ((k : Int) + 1) = ((k + 1 : Nat) : Int) := by rw [wrap64 (by omega) (by omega)]; omega
      simp (config := { maxSteps := 4000000 }) (disch := first | (intros; contradiction) | omega) only [go_sem, hlt, hwk]
      exact ih () _ trivial (by simp (config := { maxSteps := 4000000 }) (disch := first | (intros; contradiction) | omega) only [go_sem] <;> rfl)
    · rintro k _ _ hlt hk next
      clear hL
      simp (config := { maxSteps := 4000000 }) (disch := first | (intros; contradiction) | omega) only [go_sem, hlt, List.map_nil]
  · simp only [h1, if_false, Fm.av] at hu ⊢
    generalize usedP f.l.length l e = s at hu ⊢
    rw [G_body hx.clear rfl Try.func22 rfl Try.results22 hv_22 rfl]
    simp (config := { maxSteps := 4000000 }) (disch := first | (intros; contradiction) | omega) only [go_sem, hu, r1, renM_kE]
    generalize hL : loopA _ _ _ = L
    apply range_upd hL (by simp (config := { maxSteps := 4000000 }) (disch := first | (intros; contradiction) | omega) only [go_sem, r1, renM_kE] <;> rfl) f.l rowC (α := Nat) (fun rest k e => True) (fun k e => [(4, .grow 1 e ((pickU (fun x => decide (x ∈ s)) k).map rowI)), (6, .any), (13, .d (.int .i64 k))]) (fun k e => [(1, .grow e 1)]) 0 (by simp (config := { maxSteps := 4000000 }) (disch := first | (intros; contradiction) | omega) only [go_sem] <;> rfl) trivial ?_ ?_
    · rintro c rest k ep _ hlt hrow hget hk _ next ih
      clear hL
      have hwk : IntKind.wrap .i64 ((k : Int) + 1) = ((k + 1 : Nat) : Int) := by rw [wrap64 (by omega) (by omega)]; omega
      have hfi := findM_kE (k : Int) s
      have hps := pickU_succ (fun x => decide (x ∈ s)) k
      have hpl := pickU_len (fun x => decide (x ∈ s)) k
      have hroom : room (((pickU (fun x => decide (x ∈ s)) k).map rowI).length + 1) 8 := room_n8 (by rw [List.length_map]; omega)
      by_cases hm : (k : Int) ∈ s
      · rw [if_pos hm] at hfi
        simp only [hm, decide_true, if_true] at hps
        simp (config := { maxSteps := 4000000 }) (disch := first | (intros; contradiction) | omega) only [go_sem, hlt, hwk, hfi, hroom, r1, renM_kE]
        exact ih (ep + 1) _ trivial (by rw [hps]; simp (config := { maxSteps := 4000000 }) (disch := first | (intros; contradiction) | omega) only [go_sem, r1, renM_kE, List.map_append, List.map_cons, List.map_nil, rowI] <;> rfl)
      · rw [if_neg hm] at hfi
        simp only [hm, decide_false, Bool.false_eq_true, if_false, List.append_nil] at hps
        simp (config := { maxSteps := 4000000 }) (disch := first | (intros; contradiction) | omega) only [go_sem, hlt, hwk, hfi, r1, renM_kE]
        exact ih ep _ trivial (by rw [hps]; simp (config := { maxSteps := 4000000 }) (disch := first | (intros; contradiction) | omega) only [go_sem, r1, renM_kE] <;> rfl)
    · rintro k ep _ hlt hk next
      clear hL
      rw [← hk]
      simp (config := { maxSteps := 4000000 }) (disch := first | (intros; contradiction) | omega) only [go_sem, hlt, r1, renM_kE]
end Go.Proofs.Ytchedkjlhjfadaa
namespace Go.Proofs.Ytchedkjlhjfadaa
open Go Go.Ab
variable {ext : Sem'}
/-- Numbers by numbers, as a map. -/
def kV (s : List (Int × Int)) : List (AV × AV) := s.map fun p => (.d (.int .i64 p.1), .d (.int .i64 p.2))
theorem refsM_kV : ∀ s, refsM (kV s) = []
  | [] => rfl
  | x :: s => by have := refsM_kV s; simp only [kV, List.map_cons, refsM] at this ⊢; rw [this]; rfl
theorem renM_kV (g : Nat → Nat) : ∀ s, renM g (kV s) = kV s
  | [] => rfl
  | x :: s => by have := renM_kV g s; simp only [kV, List.map_cons, renM, ren] at this ⊢; rw [this]
def lkp : List (Int × Int) → Int → Option Int
  | [], _ => none
  | p :: s, x => if x = p.1 then some p.2 else lkp s x
def setK : List (Int × Int) → Int → Int → List (Int × Int)
  | [], x, y => [(x, y)]
  | p :: s, x, y => if x = p.1 then (p.1, y) :: s else p :: setK s x y
theorem findM_kV (x : Int) : ∀ s, findM (.int .i64) (.d (.int .i64 x)) (kV s) = some ((lkp s x).map fun y => .d (.int .i64 y))
  | [] => by simp [kV, findM, keyEq, lkp]
  | p :: s => by
    have ih := findM_kV x s
    simp only [kV, List.map_cons, findM, keyEq] at ih ⊢
    by_cases h : x = p.1
    · simp [h, lkp]
    · simp only [and_self, if_true, h, decide_false]
      rw [ih]
      simp [h, lkp]
theorem setM_kV (x y : Int) : ∀ s, setM (.int .i64) (.d (.int .i64 x)) (.d (.int .i64 y)) (kV s) = some (kV (setK s x y))
  | [] => by simp [kV, setM, keyEq, setK]
  | p :: s => by
    have ih := setM_kV x y s
    simp only [kV, List.map_cons, setM, keyEq] at ih ⊢
    by_cases h : x = p.1
    · simp [h, setK]
    · simp only [and_self, if_true, h, decide_false]
      rw [ih]
      simp [setK, h]
def placeP (n : Int) (to : List (Int × Int)) (c : Int) : Int := if c < n then c else (lkp to c).getD 0
theorem place_e (hx : TX ext) (n c : Int) (to : List (Int × Int)) : G ext 50 [.d (.int .i64 c), .ptr 0 0, .ptr 1 0] [.cells [.d (.int .i64 n)], .cells [.mp 2], .mapo (kV to)] = some (.ret (.d (.int .i64 (placeP n to c))), [.cells [.d (.int .i64 n)], .cells [.mp 2], .mapo (kV to)]) := by
  have r1 := refsM_kV
  have r2 := renM_kV
  have hfi := findM_kV c to
  unfold placeP
  by_cases h : c < n
  · rw [if_pos h]
    rw [G_body hx.clear rfl Try.func50 rfl Try.results50 hv_50 rfl]
    simp (config := { maxSteps := 4000000 }) (disch := first | (intros; contradiction) | omega) only [go_sem, h, r1, r2]
  · rw [if_neg h]
    cases hl : lkp to c with
    | none =>
      rw [hl] at hfi
      simp only [Option.map_none, Option.getD_none] at hfi ⊢
      rw [G_body hx.clear rfl Try.func50 rfl Try.results50 hv_50 rfl]
      simp (config := { maxSteps := 4000000 }) (disch := first | (intros; contradiction) | omega) only [go_sem, h, r1, r2, hfi]
    | some y =>
      rw [hl] at hfi
      simp only [Option.map_some, Option.getD_some] at hfi ⊢
      rw [G_body hx.clear rfl Try.func50 rfl Try.results50 hv_50 rfl]
      simp (config := { maxSteps := 4000000 }) (disch := first | (intros; contradiction) | omega) only [go_sem, h, r1, r2, hfi]
/-- What is left, trimmed. -/
def trimR (n : Nat) (u : Int → Bool) : List Ps → Nat → List (Int × Int) → List Ps → List Ps
  | [], _, _, out => out
  | s :: l, i, to, out =>
    if u ((n + i : Nat) : Int) = true then
      trimR n u l (i + 1) (setK to ((n + i : Nat) : Int) ((n + out.length : Nat) : Int)) (out ++ [⟨placeP n (setK to ((n + i : Nat) : Int) ((n + out.length : Nat) : Int)) s.a, placeP n (setK to ((n + i : Nat) : Int) ((n + out.length : Nat) : Int)) s.b, s.on⟩])
    else trimR n u l (i + 1) to out
def trimP (f : Fm) (l : List Ps) : List Ps := trimR f.l.length (inU f l) l 0 [] []
theorem trimR_no (n : Nat) : ∀ (l : List Ps) (i : Nat) (to : List (Int × Int)) (out : List Ps), trimR n (fun _ => false) l i to out = out
  | [], _, _, _ => rfl
  | s :: l, i, to, out => by simp [trimR, trimR_no n l]
set_option maxHeartbeats 4000000 in
theorem trim_e (hx : TXP ext) (f : Fm) (hs : Short f) (l : List Ps) (hll : l.length ≤ 10000) (hft : rightP f = true → Fits f l) : G ext 21 [f.av, .d (.sl (l.map rowS))] [] = some (.ret (.d (.sl ((trimP f l).map rowS))), []) := by
  have hu := used_e hx f hs l hll hft
  have r1 := refsM_kE
  have r2 := refsM_kV
  have r3 := renM_kE
  have r4 := renM_kV
  have hfl : (f.l.map rowC).length = f.l.length := List.length_map _
  have hls : (l.map rowS).length = l.length := List.length_map _
  have hfs := hs.l
  have hk0 : kV [] = [] := rfl
  unfold usedA at hu
  unfold trimP inU
  generalize emptyP f l = e at hu
  have hx := hx.toTX
  by_cases h1 : e = -1
  · simp only [h1, if_true, Fm.av] at hu ⊢
    rw [trimR_no]
    rw [G_body hx.clear rfl Try.func21 rfl Try.results21 hv_21 rfl]
    simp (config := { maxSteps := 4000000 }) (disch := first | (intros; contradiction) | omega) only [go_sem, hu]
    generalize hL : loopA _ _ _ = L
    apply range_upd hL (by simp (config := { maxSteps := 4000000 }) (disch := first | (intros; contradiction) | omega) only [go_sem] <;> rfl) l rowS (α := Unit) (fun rest k _ => True) (fun k _ => [(21, .d (.int .i64 k))]) (fun _ _ => []) () (by simp (config := { maxSteps := 4000000 }) (disch := first | (intros; contradiction) | omega) only [go_sem] <;> rfl) trivial ?_ ?_
    · rintro c rest k _ _ hlt hrow hget hk _ next ih
      clear hL
      simp only [rowS] at hrow
      have hwk : IntKind.wrap .i64 ((k : Int) + 1) = ((k + 1 : Nat) : Int) := by rw [wrap64 (by omega) (by omega)]; omega
      have hw : IntKind.wrap .i64 (((f.l.map rowC).length : Int) + (k : Int)) = ((f.l.length + k : Nat) : Int) := by rw [wrap64 (by omega) (by omega)]; omega
      simp (config := { maxSteps := 4000000 }) (disch := first | (intros; contradiction) | omega) only [go_sem, hlt, hrow, hwk, hw]
      exact ih () _ trivial (by simp (config := { maxSteps := 4000000 }) (disch := first | (intros; contradiction) | omega) only [go_sem] <;> rfl)
    · rintro k _ _ hlt hk next
      clear hL
      simp (config := { maxSteps := 4000000 }) (disch := first | (intros; contradiction) | omega) only [go_sem, hlt, List.map_nil]
  · simp only [h1, if_false, Fm.av] at hu ⊢
    generalize usedP f.l.length l e = s at hu ⊢
    rw [G_body hx.clear rfl Try.func21 rfl Try.results21 hv_21 rfl]
    simp (config := { maxSteps := 4000000 }) (disch := first | (intros; contradiction) | omega) only [go_sem, hu, r1, r3]
    generalize hL : loopA _ _ _ = L
    apply range_upd hL (by simp (config := { maxSteps := 4000000 }) (disch := first | (intros; contradiction) | omega) only [go_sem, r1, r2, r3, r4] <;> rfl) l rowS (α := List (Int × Int) × List Ps) (fun rest k q => trimR f.l.length (fun x => decide (x ∈ s)) l 0 [] [] = trimR f.l.length (fun x => decide (x ∈ s)) rest k q.1 q.2 ∧ q.2.length ≤ k) (fun k q => [(4, .grow 1 q.2.length (q.2.map rowS)), (21, .d (.int .i64 k))])
      (fun k q => [(1, .grow q.2.length 3), (4, .mapo (kV q.1))]) ([], []) (by simp (config := { maxSteps := 4000000 }) (disch := first | (intros; contradiction) | omega) only [go_sem, r1, r2, r3, r4] <;> rfl) ⟨rfl, Nat.le_refl _⟩ ?_ ?_
    · rintro q rest k ⟨to, out⟩ ⟨i1, i2⟩ hlt hrow hget hk _ next ih
      simp only at i1 i2 ih ⊢
      clear hL
      simp only [rowS] at hrow
      have hwk : IntKind.wrap .i64 ((k : Int) + 1) = ((k + 1 : Nat) : Int) := by rw [wrap64 (by omega) (by omega)]; omega
      have hw : IntKind.wrap .i64 (((f.l.map rowC).length : Int) + (k : Int)) = ((f.l.length + k : Nat) : Int) := by rw [wrap64 (by omega) (by omega)]; omega
      have hol : (out.map rowS).length = out.length := List.length_map _
      have hw2 : IntKind.wrap .i64 (((f.l.map rowC).length : Int) + ((out.map rowS).length : Int)) = ((f.l.length + out.length : Nat) : Int) := by rw [wrap64 (by omega) (by omega)]; omega
      have hroom : room ((out.map rowS).length + 1) 24 := by rw [List.length_map]; unfold room; simp; omega
      have hfi := findM_kE ((f.l.length + k : Nat) : Int) s
      simp only [trimR, decide_eq_true_eq] at i1
      by_cases hm : ((f.l.length + k : Nat) : Int) ∈ s
      · rw [if_pos hm] at hfi i1
        have hse := setM_kV ((f.l.length + k : Nat) : Int) ((f.l.length + out.length : Nat) : Int) to
        generalize setK to ((f.l.length + k : Nat) : Int) ((f.l.length + out.length : Nat) : Int) = to2 at hse i1
        have hp1 := place_e hx ((f.l.map rowC).length : Int) q.a to2
        have hp2 := place_e hx ((f.l.map rowC).length : Int) q.b to2
        have hpl : (((f.l.map rowC).length : Nat) : Int) = ((f.l.length : Nat) : Int) := by omega
        rw [← hpl] at i1
        simp (config := { maxSteps := 4000000 }) (disch := first | (intros; contradiction) | omega) only [go_sem, hlt, hrow, hwk, hw, hw2, hfi, hse, hp1, hp2, hroom, r1, r2, r3, r4]
        exact ih (to2, out ++ [⟨placeP ((f.l.map rowC).length : Int) to2 q.a, placeP ((f.l.map rowC).length : Int) to2 q.b, q.on⟩]) _ ⟨i1, by simp; omega⟩ (by simp (config := { maxSteps := 4000000 }) (disch := first | (intros; contradiction) | omega) only [go_sem, r1, r2, r3, r4, List.map_append, List.map_cons, List.map_nil, rowS] <;> rfl)
      · rw [if_neg hm] at hfi i1
        simp (config := { maxSteps := 4000000 }) (disch := first | (intros; contradiction) | omega) only [go_sem, hlt, hrow, hwk, hw, hfi, r1, r2, r3, r4]
        exact ih (to, out) _ ⟨i1, Nat.le_succ_of_le i2⟩ (by simp (config := { maxSteps := 4000000 }) (disch := first | (intros; contradiction) | omega) only [go_sem, r1, r2, r3, r4] <;> rfl)
    · rintro k ⟨to, out⟩ ⟨i1, i2⟩ hlt hk next
      clear hL
      rw [i1]
      simp only [trimR]
      simp (config := { maxSteps := 4000000 }) (disch := first | (intros; contradiction) | omega) only [go_sem, hlt, r1, r2, r3, r4]
end Go.Proofs.Ytchedkjlhjfadaa
