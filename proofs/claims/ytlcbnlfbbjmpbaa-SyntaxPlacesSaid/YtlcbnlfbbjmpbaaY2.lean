/- The parser's small functions. Conditions: none. -/
import Derived.Test.YtlcbnlfbbjmpbaaY1b
set_option linter.unusedSimpArgs false
set_option linter.unusedVariables false
namespace Go.Proofs.Ytlcbnlfbbjmpbaa
open Go Go.Ab
variable {ext : Sem'}
/-- A parser: of tokens, of which the last one alone is an end; so deep. -/
def pO (l : List Tok) (d : Nat) : AObj := .cells [.d (.sl (l.map Tok.row)), .d (.int .i64 (d : Int))]
theorem pO_refs (l : List Tok) (d : Nat) : refsO (pO l d) = [] := rfl
theorem pO_ren (f : Nat → Nat) (l : List Tok) (d : Nat) : renO f (pO l d) = pO l d := rfl
theorem pO_is (l : List Tok) (d : Nat) : isObj (pO l d) = true := rfl
theorem pO_cells (l : List Tok) (d : Nat) : cellsOf (pO l d) = some [.d (.sl (l.map Tok.row)), .d (.int .i64 (d : Int))] := rfl
attribute [go_sem] pO_refs pO_ren pO_is pO_cells
def dgV (d : Dg) : AV := .iface 28 d.av
theorem dgV_refs (d : Dg) : refs (dgV d) = [] := rfl
theorem dgV_ren (f : Nat → Nat) (d : Dg) : ren f (dgV d) = dgV d := rfl
theorem dgV_un (d : Dg) : unO2 (dgV d) = dgV d := rfl
theorem dgV_arrs (d : Dg) : arrs2 (dgV d) = [] := rfl
theorem dgV_give (H : List AObj) (d : Dg) : give2 H (dgV d) = some (dgV d) := rfl
attribute [go_sem] dgV_refs dgV_ren dgV_un dgV_arrs dgV_give
theorem pat_e (hx : T0 ext) (t : Tok) (r : List Tok) (d : Nat) : G ext 33 [.ptr 0 0] [pO (t :: r) d] = some (.ret (.agg [.d (.int .i64 t.pos.1), .d (.int .i64 t.pos.2)]), [pO (t :: r) d]) := by
  have hc : ((t :: r).map Tok.row) = Tok.row t :: r.map Tok.row := rfl
  unfold pO
  rw [hc, Tok.row]
  rw [G_body hx.clear rfl Try.func33 rfl Try.results33 hv_33 rfl]
  simp (maxSteps := 4000000) (disch := first | (intros; contradiction) | omega) only [go_sem]
  done
theorem pstep_e (hx : T0 ext) (t : Tok) (r : List Tok) (d : Nat) (hk : t.kind ≠ 5) : G ext 55 [.ptr 0 0] [pO (t :: r) d] = some (.ret t.av, [pO r d]) := by
  have hc : ((t :: r).map Tok.row) = Tok.row t :: r.map Tok.row := rfl
  unfold pO Tok.av
  have hfit : fits 5 (Tok.row t :: r.map Tok.row) := by
    intro row hrow
    rw [← hc] at hrow
    obtain ⟨q, _, rfl⟩ := List.mem_map.1 hrow
    rfl
  rw [Tok.row] at hfit
  rw [hc, Tok.row]
  have hlen1 : (1 : Int) ≤ (((r.map Tok.row).length + 1 : Nat) : Int) := by omega
  rw [G_body hx.clear rfl Try.func55 rfl Try.results55 hv_55 rfl]
  simp (maxSteps := 4000000) (disch := first | (intros; contradiction) | omega) only [go_sem, hk, hfit, hlen1]
  done
theorem isT_cons (t : Tok) (r : List Tok) (s : Str) : isT (t :: r) s = ((decide (t.kind = 2) || decide (t.kind = 4)) && decide (t.text = s)) := rfl
theorem anyT_cons (t : Tok) (r : List Tok) (ss : List Str) : anyT (t :: r) ss = ((decide (t.kind = 2) || decide (t.kind = 4)) && decide (t.text ∈ ss)) := by
  unfold anyT
  induction ss with
  | nil => simp
  | cons s ss ih =>
    rw [List.any_cons, ih, isT_cons]
    generalize (decide (t.kind = 2) || decide (t.kind = 4)) = b
    cases b with
    | false => simp
    | true =>
      rw [Bool.true_and, Bool.true_and, Bool.true_and, Bool.eq_iff_iff]
      simp only [Bool.or_eq_true, decide_eq_true_eq, List.mem_cons]
theorem anyT_one (l : List Tok) (s : Str) : anyT l [s] = isT l s := by unfold anyT; simp
theorem pis_e (hx : T0 ext) (t : Tok) (r : List Tok) (d : Nat) (ss : List Str) (hs : ss.length ≤ 1000) : G ext 38 [.ptr 0 0, .d (.sl (ss.map fun x => [.str x]))] [pO (t :: r) d] = some (.ret (.d (.bool (anyT (t :: r) ss))), [pO (t :: r) d]) := by
  have hc : ((t :: r).map Tok.row) = Tok.row t :: r.map Tok.row := rfl
  have hcn := contains_e hx.tx ss t.text hs
  unfold strs at hcn
  rw [anyT_cons]
  unfold pO
  rw [hc, Tok.row]
  by_cases h2 : t.kind = 2
  · have h2' := eq_true h2
    rw [G_body hx.clear rfl Try.func38 rfl Try.results38 hv_38 rfl]
    simp (maxSteps := 4000000) (disch := first | (intros; contradiction) | omega) only [go_sem, h2', hcn, Bool.true_or]
    done
  · by_cases h4 : t.kind = 4
    · have h4' := eq_true h4
      rw [G_body hx.clear rfl Try.func38 rfl Try.results38 hv_38 rfl]
      simp (maxSteps := 4000000) (disch := first | (intros; contradiction) | omega) only [go_sem, h2, h4', hcn, Bool.or_true]
      done
    · rw [G_body hx.clear rfl Try.func38 rfl Try.results38 hv_38 rfl]
      simp (maxSteps := 4000000) (disch := first | (intros; contradiction) | omega) only [go_sem, h2, h4]
      done
theorem is_kind5 {t : Tok} {r : List Tok} {ss : List Str} (h : anyT (t :: r) ss = true) : t.kind ≠ 5 := by
  rw [anyT_cons] at h
  simp only [Bool.and_eq_true, Bool.or_eq_true, decide_eq_true_eq] at h
  omega
theorem pfail_e (hx : T0 ext) (f : Int) (p q : Int) : G ext 32 [.d (.int .i64 f), .agg [.d (.int .i64 p), .d (.int .i64 q)]] [] = some (.pan (dgV ⟨2, f, (p, q)⟩), []) := by
  unfold dgV Dg.av
  rw [G_body hx.clear rfl Try.func32 rfl Try.results32 hv_32 rfl]
  simp (maxSteps := 4000000) (disch := first | (intros; contradiction) | omega) only [go_sem]
  done
theorem peat_e (hx : T0 ext) (t : Tok) (r : List Tok) (d : Nat) (s : Str) : G ext 68 [.ptr 0 0, .d (.str s)] [pO (t :: r) d] = some (if isT (t :: r) s then (.ret (.tuple []), [pO r d]) else (.pan (dgV (oddD (t :: r))), [pO (t :: r) d])) := by
  have hi := pis_e hx t r d [s] (by simp)
  rw [anyT_one] at hi
  simp only [List.map_cons, List.map_nil] at hi
  have hat := pat_e hx t r d
  have hf := pfail_e hx 3 t.pos.1 t.pos.2
  cases h : isT (t :: r) s with
  | true =>
    rw [h] at hi
    have hk : t.kind ≠ 5 := is_kind5 (ss := [s]) (by rw [anyT_one]; exact h)
    have hst := pstep_e hx t r d hk
    unfold Tok.av at hst
    rw [if_pos rfl]
    rw [G_body hx.clear rfl Try.func68 rfl Try.results68 hv_68 rfl]
    simp (maxSteps := 4000000) (disch := first | (intros; contradiction) | omega) only [go_sem, hi, hst]
    done
  | false =>
    rw [h] at hi
    rw [if_neg (by simp)]
    have hd : oddD (t :: r) = ⟨2, 3, (t.pos.1, t.pos.2)⟩ := rfl
    rw [hd]
    rw [G_body hx.clear rfl Try.func68 rfl Try.results68 hv_68 rfl]
    simp (maxSteps := 4000000) (disch := first | (intros; contradiction) | omega) only [go_sem, hi, hat, hf]
    done
theorem pmaybe_e (hx : T0 ext) (t : Tok) (r : List Tok) (d : Nat) (s : Str) : G ext 69 [.ptr 0 0, .d (.str s)] [pO (t :: r) d] = some (.ret (.d (.bool (isT (t :: r) s))), [pO (if isT (t :: r) s then r else t :: r) d]) := by
  have hi := pis_e hx t r d [s] (by simp)
  rw [anyT_one] at hi
  simp only [List.map_cons, List.map_nil] at hi
  cases h : isT (t :: r) s with
  | true =>
    rw [h] at hi
    have hk : t.kind ≠ 5 := is_kind5 (ss := [s]) (by rw [anyT_one]; exact h)
    have hst := pstep_e hx t r d hk
    unfold Tok.av at hst
    rw [if_pos rfl]
    rw [G_body hx.clear rfl Try.func69 rfl Try.results69 hv_69 rfl]
    simp (maxSteps := 4000000) (disch := first | (intros; contradiction) | omega) only [go_sem, hi, hst]
    done
  | false =>
    rw [h] at hi
    rw [if_neg (by simp)]
    rw [G_body hx.clear rfl Try.func69 rfl Try.results69 hv_69 rfl]
    simp (maxSteps := 4000000) (disch := first | (intros; contradiction) | omega) only [go_sem, hi]
    done
theorem pname_e (hx : T0 ext) (t : Tok) (r : List Tok) (d : Nat) : G ext 67 [.ptr 0 0] [pO (t :: r) d] = some (if t.kind = 1 then (.ret t.av, [pO r d]) else (.pan (dgV (oddD (t :: r))), [pO (t :: r) d])) := by
  have hc : ((t :: r).map Tok.row) = Tok.row t :: r.map Tok.row := rfl
  have hat := pat_e hx t r d
  have hf := pfail_e hx 3 t.pos.1 t.pos.2
  by_cases h : t.kind = 1
  · have h' := eq_true h
    have hst := pstep_e hx t r d (by omega)
    unfold Tok.av at hst ⊢
    rw [if_pos h]
    unfold pO at hst ⊢
    rw [hc, Tok.row] at hst ⊢
    rw [G_body hx.clear rfl Try.func67 rfl Try.results67 hv_67 rfl]
    simp (maxSteps := 4000000) (disch := first | (intros; contradiction) | omega) only [go_sem, h', hst]
    done
  · rw [if_neg h]
    have hd : oddD (t :: r) = ⟨2, 3, (t.pos.1, t.pos.2)⟩ := rfl
    rw [hd]
    unfold pO at hat ⊢
    rw [hc, Tok.row] at hat ⊢
    rw [G_body hx.clear rfl Try.func67 rfl Try.results67 hv_67 rfl]
    simp (maxSteps := 4000000) (disch := first | (intros; contradiction) | omega) only [go_sem, h, hat, hf]
    done
/-- An expression, with its height. -/
def hiR (e : Ex0) : List Dt := [.int .i64 e.kind, .int .i64 e.n, .str e.name, .str e.op, .sl (e.kids.map Ex0.row), .int .i64 e.pos.line, .int .i64 e.pos.col, .int .i64 (hgtE e : Int)]
def hiA (e : Ex0) : AV := .agg [.d (.int .i64 e.kind), .d (.int .i64 e.n), .d (.str e.name), .d (.str e.op), .d (.sl (e.kids.map Ex0.row)), .d (.int .i64 e.pos.line), .d (.int .i64 e.pos.col), .d (.int .i64 (hgtE e : Int))]
theorem hiR_snoc (l : List Ex0) (e : Ex0) : (l ++ [e]).map hiR = l.map hiR ++ [hiR e] := by simp
theorem hgtEs_append : ∀ (a b : List Ex0), hgtEs (a ++ b) = max (hgtEs a) (hgtEs b)
  | [], b => by simp [hgtEs]
  | e :: a, b => by simp only [List.cons_append, hgtEs]; rw [hgtEs_append a b]; omega
theorem hgtEs_le2 : ∀ {ks : List Ex0} {n : Nat}, (∀ e, e ∈ ks → hgtE e ≤ n) → hgtEs ks ≤ n
  | [], _, _ => by simp [hgtEs]
  | e :: ks, n, h => by
    have h1 := h e (by simp)
    have h2 := hgtEs_le2 (ks := ks) (n := n) fun x hx => h x (by simp [hx])
    simp only [hgtEs]; omega
set_option maxHeartbeats 1000000 in
theorem pbuilt_e (hx : T0 ext) (k n : Int) (s o : Str) (ks : List Ex0) (p q : Int) (hl : ks.length ≤ 1000000) (hh : ∀ e, e ∈ ks → hgtE e ≤ 200) :
    G ext 56 [.agg [.d (.int .i64 k), .d (.int .i64 n), .d (.str s), .d (.str o), .full [], .d (.int .i64 p), .d (.int .i64 q)], .d (.sl (ks.map hiR))] [] =
      some (if 200 < hgtE (.mk k n s o ks ⟨p, q⟩) then (.pan (dgV ⟨2, 4, (p, q)⟩), []) else (.ret (hiA (.mk k n s o ks ⟨p, q⟩)), [])) := by
  have hf := pfail_e hx 4 p q
  have hll : (ks.map hiR).length = ks.length := List.length_map _
  generalize hR : some (if 200 < hgtE (.mk k n s o ks ⟨p, q⟩) then (Out.pan (dgV ⟨2, 4, (p, q)⟩), ([] : List AObj)) else (.ret (hiA (.mk k n s o ks ⟨p, q⟩)), [])) = R
  rw [G_body hx.clear rfl Try.func56 rfl Try.results56 hv_56 rfl]
  simp (maxSteps := 4000000) (disch := first | (intros; contradiction) | omega) only [go_sem]
  generalize hL : loopA _ _ _ = L
  apply range_upd hL (by simp (maxSteps := 4000000) (disch := first | (intros; contradiction) | omega) only [go_sem] <;> rfl) ks hiR (α := Unit) (fun _ _ _ => True) (fun i _ => [(5, .d (.int .i64 (hgtEs (ks.take i) : Int))), (10, .d (.int .i64 i))])
    (fun i c => [(0, .cells [.d (.int .i64 k), .d (.int .i64 n), .d (.str s), .d (.str o), .grow 2 i ((ks.take i).map Ex0.row), .d (.int .i64 p), .d (.int .i64 q)]), (2, .grow i 7)])
    () (by simp (maxSteps := 4000000) (disch := first | (intros; contradiction) | omega) only [go_sem, List.take_zero, List.map_nil, hgtEs] <;> rfl) trivial ?_ ?_
  · rintro x rest i c _ hlt hr hget hi _ next ih
    clear hL
    simp only [hiR] at hr
    have hi0 : (0 : Int) ≤ (i : Int) := by omega
    have hsn : ks.take (i + 1) = ks.take i ++ [x] := by rw [List.take_add_one, hget]; simp
    have hgs : (if ((hgtEs (ks.take i) : Nat) : Int) < ((hgtE x : Nat) : Int) then ((hgtE x : Nat) : Int) else ((hgtEs (ks.take i) : Nat) : Int)) = ((hgtEs (ks.take i ++ [x]) : Nat) : Int) := by rw [hgtEs_append]; simp only [hgtEs, Nat.max_zero]; split <;> omega
    have hxr : Ex0.row x = [.int .i64 x.kind, .int .i64 x.n, .str x.name, .str x.op, .sl (x.kids.map Ex0.row), .int .i64 x.pos.line, .int .i64 x.pos.col] := Ex0.row_eq x
    have hle : (ks.take i).length ≤ 1000000 := by simp; omega
    have hroom2 : room (((ks.take i).map Ex0.row).length + 1) 88 := by unfold room; simp; omega
    simp (maxSteps := 4000000) (disch := first | (intros; contradiction) | omega) only [go_sem, hlt, hr, hi0, hroom2, wrap64]
    exact ih () _ trivial (by simp (maxSteps := 4000000) (disch := first | (intros; contradiction) | omega) only [go_sem, hgs, hsn, List.map_append, List.map_cons, List.map_nil, hxr, Int.natCast_add] <;> rfl)
  · rintro i c _ hlt hi next
    clear hL
    have etk : ks.take i = ks := by rw [hi, List.take_length]
    rw [etk]
    subst hR
    by_cases h : hgtEs ks = 200
    · rw [if_pos (by simp only [hgtE]; omega)]
      have h' : ((hgtEs ks : Nat) : Int) = 200 := by omega
      simp (maxSteps := 4000000) (disch := first | (intros; contradiction) | omega) only [go_sem, hlt, h', hf]
      done
    · have hle : hgtEs ks ≤ 200 := hgtEs_le2 hh
      rw [if_neg (by simp only [hgtE]; omega)]
      have h' : ¬ ((hgtEs ks : Nat) : Int) = 200 := by omega
      have hw : IntKind.i64.wrap (((hgtEs ks : Nat) : Int) + 1) = ((hgtEs ks + 1 : Nat) : Int) := by rw [wrap64 (by omega) (by omega)]; omega
      simp (maxSteps := 4000000) (disch := first | (intros; contradiction) | omega) only [go_sem, hlt, h', hw, hiA, hgtE, Ex0.kind, Ex0.n, Ex0.name, Ex0.op, Ex0.kids, Ex0.pos]
      done
end Go.Proofs.Ytlcbnlfbbjmpbaa
