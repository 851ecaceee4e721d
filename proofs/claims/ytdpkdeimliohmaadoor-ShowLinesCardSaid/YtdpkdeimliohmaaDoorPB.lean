/- The document's reader of tokens, walked: a program of any text, of bounded size. Conditions: none. -/
import Derived.Test.YtdpkdeimliohmaaDoorPA
set_option linter.unusedSimpArgs false
set_option linter.unusedVariables false
namespace Go.Proofs.YtdpkdeimliohmaaDoor
open Go Go.Ab
variable {ext : Sem'}
/-- A reader: of tokens, where it stands, what was wrong first. -/
structure Rd where
  L : List Tok
  i : Nat
  d : Dg
def Rd.obj (r : Rd) : AObj := .cells [.d (.sl (r.L.map Tok.row)), .d (.int .i64 r.i), .d (.int .i64 r.d.stage), .d (.int .i64 r.d.what), .d (.int .i64 r.d.pos.1), .d (.int .i64 r.d.pos.2)]
theorem robj_refs (r : Rd) : refsO r.obj = [] := rfl
theorem robj_ren (f : Nat → Nat) (r : Rd) : renO f r.obj = r.obj := rfl
theorem robj_is (r : Rd) : isObj r.obj = true := rfl
theorem robj_cells (r : Rd) : cellsOf r.obj = some [.d (.sl (r.L.map Tok.row)), .d (.int .i64 r.i), .d (.int .i64 r.d.stage), .d (.int .i64 r.d.what), .d (.int .i64 r.d.pos.1), .d (.int .i64 r.d.pos.2)] := rfl
attribute [go_sem] robj_refs robj_ren robj_is robj_cells
/-- It stands ahead of the last token, or at it; that alone has kind 5. -/
def okT (s : Str) : Prop := s.length ≤ 3000 ∧ (10 : UInt8) ∉ s
def okN (n : Int) : Prop := 0 ≤ n ∧ n ≤ 2147483647
theorem t0 : okT [] := ⟨Nat.zero_le _, by simp⟩
theorem n0 : okN 0 := ⟨by decide, by decide⟩
structure Rd.ok (r : Rd) : Prop where
  at_ : r.i < r.L.length
  few : r.L.length ≤ 1000000
  last : ∀ t, r.L[r.L.length - 1]? = some t → t.kind = 5
  tx : ∀ t, t ∈ r.L → okT t.text ∧ okN t.num
def Rd.tok (r : Rd) : Tok := r.L.getD r.i Tok.zero
def Rd.bad (r : Rd) : Bool := decide (r.d.what ≠ 0)
def Rd.fail (r : Rd) (f : Int) (p : Int × Int) : Rd := if r.bad then r else ⟨r.L, r.i, ⟨2, f, p⟩⟩
def Rd.next (r : Rd) : Rd := ⟨r.L, r.i + 1, r.d⟩
def Rd.is (r : Rd) (s : Str) : Bool := !r.bad && (decide (r.tok.kind = 2) || decide (r.tok.kind = 4)) && decide (r.tok.text = s)
def Rd.eat (r : Rd) (s : Str) : Rd := if r.is s then r.next else r.fail 3 r.tok.pos
def Rd.name (r : Rd) : Str × (Int × Int) × Rd := if r.bad = true ∨ r.tok.kind ≠ 1 then ([], r.tok.pos, r.fail 3 r.tok.pos) else (r.tok.text, r.tok.pos, r.next)
def Rd.level (r : Rd) (deep : Int) : Bool × Rd := if 200 < deep then (false, r.fail 4 r.tok.pos) else (!r.bad, r)
theorem tok_get {r : Rd} (h : r.ok) : r.L[r.i]? = some r.tok := by
  unfold Rd.tok
  rw [List.getD_eq_getElem?_getD, List.getElem?_eq_getElem h.at_]; rfl
theorem tok_tx {r : Rd} (h : r.ok) : okT r.tok.text ∧ okN r.tok.num := h.tx _ (List.mem_of_getElem? (tok_get h))
theorem name_tx {r : Rd} (h : r.ok) : okT r.name.1 := by
  unfold Rd.name
  split
  · exact t0
  · exact (tok_tx h).1
theorem next_ok {r : Rd} (h : r.ok) (hk : r.tok.kind ≠ 5) : r.next.ok := by
  refine ⟨?_, h.few, h.last, h.tx⟩
  show r.i + 1 < r.L.length
  have h1 := h.at_
  by_cases he : r.i + 1 < r.L.length
  · exact he
  · have : r.i = r.L.length - 1 := by omega
    have h2 := tok_get h
    rw [this] at h2
    exact absurd (h.last _ h2) hk
theorem fail_ok {r : Rd} (h : r.ok) (f : Int) (p : Int × Int) : (r.fail f p).ok := by
  unfold Rd.fail; split
  · exact h
  · exact ⟨h.at_, h.few, h.last, h.tx⟩
theorem is_kind {r : Rd} {s : Str} (h : r.is s = true) : r.tok.kind ≠ 5 ∧ r.bad = false := by
  unfold Rd.is at h
  simp only [Bool.and_eq_true, Bool.or_eq_true, decide_eq_true_eq, Bool.not_eq_true'] at h
  obtain ⟨⟨h1, h2⟩, h3⟩ := h
  exact ⟨by rcases h2 with h | h <;> omega, h1⟩
theorem fail_bad {r : Rd} {f : Int} {p : Int × Int} (hf : f ≠ 0) : (r.fail f p).bad = true := by
  unfold Rd.fail
  split
  · assumption
  · simp [Rd.bad, hf]
theorem rbad_e (hx : T0 ext) (r : Rd) : G ext 42 [.ptr 0 0] [r.obj] = some (.ret (.d (.bool r.bad)), [r.obj]) := by
  unfold Rd.obj Rd.bad
  rw [G_body hx.clear rfl Tryd.func42 rfl Tryd.results42 hv_42 rfl]
  by_cases h : r.d.what = 0
  · simp (maxSteps := 4000000) (disch := first | (intros; contradiction) | omega) only [go_sem, h]
    simp
  · simp (maxSteps := 4000000) (disch := first | (intros; contradiction) | omega) only [go_sem, h]
    simp [h]
theorem rtok_e (hx : T0 ext) (r : Rd) (h : r.ok) : G ext 41 [.ptr 0 0] [r.obj] = some (.ret r.tok.av, [r.obj]) := by
  have h1 := tok_get h
  have h2 : (r.L.map Tok.row)[r.i]? = some (Tok.row r.tok) := by rw [List.getElem?_map, h1]; rfl
  have hl : (r.L.map Tok.row).length = r.L.length := List.length_map _
  have hr := h.at_
  have hfew := h.few
  unfold Rd.obj Tok.av
  simp only [Tok.row] at h2
  rw [G_body hx.clear rfl Tryd.func41 rfl Tryd.results41 hv_41 rfl]
  have hm : ¬ ((r.L.length : Int) - 1 < (r.i : Int)) := by omega
  have h0 : (0 : Int) ≤ (r.i : Int) := by omega
  simp (maxSteps := 4000000) (disch := first | (intros; contradiction) | omega) only [go_sem, hl, wrap64, hm, h0, h2]
  done
theorem ris_e (hx : T0 ext) (r : Rd) (h : r.ok) (s : Str) : G ext 43 [.ptr 0 0, .d (.str s)] [r.obj] = some (.ret (.d (.bool (r.is s))), [r.obj]) := by
  have h1 := rtok_e hx r h
  have h2 := rbad_e hx r
  unfold Rd.is
  unfold Tok.av at h1
  rw [G_body hx.clear rfl Tryd.func43 rfl Tryd.results43 hv_43 rfl]
  cases hb : r.bad with
  | true =>
    rw [hb] at h2
    simp (maxSteps := 4000000) (disch := first | (intros; contradiction) | omega) only [go_sem, h1, h2]
    done
  | false =>
    rw [hb] at h2
    by_cases k2 : r.tok.kind = 2
    · by_cases kt : r.tok.text = s
      · simp (maxSteps := 4000000) (disch := first | (intros; contradiction) | omega) only [go_sem, h1, h2, k2, kt]
        done
      · simp (maxSteps := 4000000) (disch := first | (intros; contradiction) | omega) only [go_sem, h1, h2, k2, kt]
        done
    · by_cases k4 : r.tok.kind = 4
      · by_cases kt : r.tok.text = s
        · simp (maxSteps := 4000000) (disch := first | (intros; contradiction) | omega) only [go_sem, h1, h2, k2, k4, kt]
          done
        · simp (maxSteps := 4000000) (disch := first | (intros; contradiction) | omega) only [go_sem, h1, h2, k2, k4, kt]
          done
      · simp (maxSteps := 4000000) (disch := first | (intros; contradiction) | omega) only [go_sem, h1, h2, k2, k4]
        done
theorem rfail_e (hx : T0 ext) (r : Rd) (f : Int) (p : Int × Int) : G ext 71 [.ptr 0 0, .d (.int .i64 f), .agg [.d (.int .i64 p.1), .d (.int .i64 p.2)]] [r.obj] = some (.ret (.tuple []), [(r.fail f p).obj]) := by
  have h2 := rbad_e hx r
  unfold Rd.fail
  unfold Rd.obj at h2 ⊢
  rw [G_body hx.clear rfl Tryd.func71 rfl Tryd.results71 hv_71 rfl]
  cases hb : r.bad with
  | true =>
    rw [hb] at h2
    simp (maxSteps := 4000000) (disch := first | (intros; contradiction) | omega) only [go_sem, h2]
    done
  | false =>
    rw [hb] at h2
    simp (maxSteps := 4000000) (disch := first | (intros; contradiction) | omega) only [go_sem, h2]
    done
theorem reat_e (hx : T0 ext) (r : Rd) (h : r.ok) (s : Str) : G ext 57 [.ptr 0 0, .d (.str s)] [r.obj] = some (.ret (.tuple []), [(r.eat s).obj]) := by
  have h1 := rtok_e hx r h
  have h2 := ris_e hx r h s
  have h3 := rfail_e hx r 3 r.tok.pos
  have h4 := h.at_
  have h5 := h.few
  unfold Rd.eat
  unfold Tok.av at h1
  rw [G_body hx.clear rfl Tryd.func57 rfl Tryd.results57 hv_57 rfl]
  cases hb : r.is s with
  | true =>
    rw [hb] at h2
    unfold Rd.next
    unfold Rd.obj at h1 h2 h3 ⊢
    have hwk : IntKind.wrap .i64 ((r.i : Int) + 1) = ((r.i + 1 : Nat) : Int) := by rw [wrap64 (by omega) (by omega)]; omega
    simp (maxSteps := 4000000) (disch := first | (intros; contradiction) | omega) only [go_sem, h2, hwk]
    done
  | false =>
    rw [hb] at h2
    simp (maxSteps := 4000000) (disch := first | (intros; contradiction) | omega) only [go_sem, h1, h2, h3]
    done
theorem rname_e (hx : T0 ext) (r : Rd) (h : r.ok) : G ext 58 [.ptr 0 0] [r.obj] = some (.ret (.tuple [.d (.str r.name.1), .agg [.d (.int .i64 r.name.2.1.1), .d (.int .i64 r.name.2.1.2)]]), [r.name.2.2.obj]) := by
  have h1 := rtok_e hx r h
  have h2 := rbad_e hx r
  have h3 := rfail_e hx r 3 r.tok.pos
  have h4 := h.at_
  have h5 := h.few
  unfold Rd.name
  unfold Tok.av at h1
  rw [G_body hx.clear rfl Tryd.func58 rfl Tryd.results58 hv_58 rfl]
  cases hb : r.bad with
  | true =>
    rw [hb] at h2
    rw [if_pos (Or.inl rfl)]
    simp (maxSteps := 4000000) (disch := first | (intros; contradiction) | omega) only [go_sem, h1, h2, h3]
    done
  | false =>
    rw [hb] at h2
    by_cases k1 : r.tok.kind = 1
    · rw [if_neg (by simp [k1])]
      unfold Rd.next
      unfold Rd.obj at h1 h2 h3 ⊢
      have hwk : IntKind.wrap .i64 ((r.i : Int) + 1) = ((r.i + 1 : Nat) : Int) := by rw [wrap64 (by omega) (by omega)]; omega
      simp (maxSteps := 4000000) (disch := first | (intros; contradiction) | omega) only [go_sem, h1, h2, k1, hwk]
      done
    · rw [if_pos (Or.inr k1)]
      simp (maxSteps := 4000000) (disch := first | (intros; contradiction) | omega) only [go_sem, h1, h2, h3, k1]
      done
theorem rlevel_e (hx : T0 ext) (r : Rd) (h : r.ok) (n : Int) : G ext 72 [.ptr 0 0, .d (.int .i64 n)] [r.obj] = some (.ret (.d (.bool (r.level n).1)), [(r.level n).2.obj]) := by
  have h1 := rtok_e hx r h
  have h2 := rbad_e hx r
  have h3 := rfail_e hx r 4 r.tok.pos
  unfold Rd.level
  unfold Tok.av at h1
  rw [G_body hx.clear rfl Tryd.func72 rfl Tryd.results72 hv_72 rfl]
  by_cases hn : 200 < n
  · rw [if_pos hn]
    simp (maxSteps := 4000000) (disch := first | (intros; contradiction) | omega) only [go_sem, h1, h2, h3, hn]
    done
  · rw [if_neg hn]
    simp (maxSteps := 4000000) (disch := first | (intros; contradiction) | omega) only [go_sem, h1, h2, h3, hn]
    done
theorem rany_e (hx : T0 ext) (r : Rd) (h : r.ok) (l : List Str) (hl : l.length ≤ 1000000) : G ext 84 [.ptr 0 0, .d (.sl (l.map fun s => [.str s]))] [r.obj] = some (.ret (.d (.bool (l.any r.is))), [r.obj]) := by
  have hll : (l.map fun s => [Dt.str s]).length = l.length := List.length_map _
  have hi : ∀ s, G ext 43 [.ptr 0 0, .d (.str s)] [r.obj] = some (.ret (.d (.bool (r.is s))), [r.obj]) := fun s => ris_e hx r h s
  rw [G_body hx.clear rfl Tryd.func84 rfl Tryd.results84 hv_84 rfl]
  simp (maxSteps := 4000000) (disch := first | (intros; contradiction) | omega) only [go_sem]
  generalize hL : loopA _ _ _ = L
  apply range_upd hL (by simp (maxSteps := 4000000) (disch := first | (intros; contradiction) | omega) only [go_sem] <;> rfl) l (fun s => [Dt.str s]) (α := Unit) (fun rest k _ => l.any r.is = rest.any r.is) (fun k _ => [(5, .d (.int .i64 k))]) (fun _ _ => []) () (by simp (maxSteps := 4000000) (disch := first | (intros; contradiction) | omega) only [go_sem] <;> rfl) rfl ?_ ?_
  · intro x rest k _ hi' hlt hr hxx hk _ next ih
    clear hL
    have hc := hi x
    have hk0 : (0 : Int) ≤ (k : Int) := by omega
    have hwk : IntKind.wrap .i64 ((k : Int) + 1) = ((k + 1 : Nat) : Int) := by rw [wrap64 (by omega) (by omega)]; omega
    simp only [List.any_cons] at hi'
    cases hpx : r.is x with
    | true =>
      rw [hpx] at hc hi'
      rw [hi', Bool.true_or]
      simp (maxSteps := 4000000) (disch := first | (intros; contradiction) | omega) only [go_sem, hlt, hr, hk0, hc]
      done
    | false =>
      rw [hpx] at hc hi'
      simp (maxSteps := 4000000) (disch := first | (intros; contradiction) | omega) only [go_sem, hlt, hr, hk0, hc, hwk]
      exact ih () _ (by rw [hi', Bool.false_or]) (by simp (maxSteps := 4000000) (disch := first | (intros; contradiction) | omega) only [go_sem] <;> rfl)
  · intro k _ hi' hlt hk next
    clear hL
    rw [hi']
    simp (maxSteps := 4000000) (disch := first | (intros; contradiction) | omega) only [go_sem, hlt]
    done
def Rd.star (r : Rd) : Bool := match r.L[r.i + 1]? with
  | some t => decide (t.kind = 4) && decide (t.text = [42])
  | none => false
set_option maxHeartbeats 2000000 in
theorem rstar_e (hx : T0 ext) (r : Rd) (h : r.ok) : G ext 86 [.ptr 0 0] [r.obj] = some (.ret (.d (.bool r.star)), [r.obj]) := by
  have h4 := h.at_
  have h5 := h.few
  have hl : (r.L.map Tok.row).length = r.L.length := List.length_map _
  have hwk : IntKind.wrap .i64 ((r.i : Int) + 1) = ((r.i + 1 : Nat) : Int) := by rw [wrap64 (by omega) (by omega)]; omega
  have hk0 : (0 : Int) ≤ ((r.i + 1 : Nat) : Int) := by omega
  unfold Rd.star Rd.obj
  rw [G_body hx.clear rfl Tryd.func86 rfl Tryd.results86 hv_86 rfl]
  by_cases hlt : r.i + 1 < r.L.length
  · have hlt' : ((r.i + 1 : Nat) : Int) < ((r.L.map Tok.row).length : Int) := by omega
    obtain ⟨t, ht⟩ : ∃ t, r.L[r.i + 1]? = some t := ⟨_, List.getElem?_eq_getElem hlt⟩
    have hrow : (r.L.map Tok.row)[r.i + 1]? = some (Tok.row t) := by rw [List.getElem?_map, ht]; rfl
    simp only [Tok.row] at hrow
    simp only [ht]
    by_cases k4 : t.kind = 4
    · by_cases kt : t.text = [42]
      · simp (maxSteps := 4000000) (disch := first | (intros; contradiction) | omega) only [go_sem, hwk, hlt', hrow, hk0, k4, kt]
        done
      · simp (maxSteps := 4000000) (disch := first | (intros; contradiction) | omega) only [go_sem, hwk, hlt', hrow, hk0, k4, kt]
        done
    · simp (maxSteps := 4000000) (disch := first | (intros; contradiction) | omega) only [go_sem, hwk, hlt', hrow, hk0, k4]
      done
  · have hlt' : ¬ ((r.i + 1 : Nat) : Int) < ((r.L.map Tok.row).length : Int) := by omega
    have : r.L[r.i + 1]? = none := List.getElem?_eq_none (by omega)
    simp only [this]
    simp (maxSteps := 4000000) (disch := first | (intros; contradiction) | omega) only [go_sem, hwk, hlt']
    done
end Go.Proofs.YtdpkdeimliohmaaDoor
namespace Go.Proofs.YtdpkdeimliohmaaDoor
open Go Go.Ab
variable {ext : Sem'}
def Ex0.agg (e : Ex0) : AV := .agg [.d (.int .i64 e.kind), .d (.int .i64 e.n), .d (.str e.name), .d (.str e.op), .d (.sl (e.kids.map Ex0.row)), .d (.int .i64 e.pos.line), .d (.int .i64 e.pos.col)]
def Ex0.zero : Ex0 := .mk 0 0 [] [] [] ⟨0, 0⟩
mutual
/-- How many expressions. -/
def cntE : Ex0 → Nat
  | .mk _ _ _ _ ks _ => 1 + cntEs ks
def cntEs : List Ex0 → Nat
  | [] => 0
  | e :: l => cntE e + cntEs l
end
mutual
/-- How high. -/
def hgtE : Ex0 → Nat
  | .mk _ _ _ _ ks _ => hgtEs ks + 1
def hgtEs : List Ex0 → Nat
  | [] => 0
  | e :: l => max (hgtE e) (hgtEs l)
end
/-- How many parts an expression has, by its kind. -/
def arity (k : Int) (n : Nat) : Prop := (k = 3 → n = 1) ∧ (k = 4 → n = 2) ∧ (k = 5 → n = 1)
mutual
/-- Each expression has its parts. -/
def okE : Ex0 → Prop
  | .mk k n s o ks _ => (okN n ∧ okT s ∧ okT o) ∧ arity k ks.length ∧ okEs ks
def okEs : List Ex0 → Prop
  | [] => True
  | e :: l => okE e ∧ okEs l
end
theorem cntE_eq (e : Ex0) : cntE e = 1 + cntEs e.kids := by cases e; rfl
theorem hgtE_eq (e : Ex0) : hgtE e = hgtEs e.kids + 1 := by cases e; rfl
theorem okE_eq (e : Ex0) : okE e = ((okN e.n ∧ okT e.name ∧ okT e.op) ∧ arity e.kind e.kids.length ∧ okEs e.kids) := by cases e; rfl
theorem cntEs_append : ∀ (a b : List Ex0), cntEs (a ++ b) = cntEs a + cntEs b
  | [], b => by simp [cntEs]
  | e :: a, b => by simp only [List.cons_append, cntEs, cntEs_append a b]; omega
theorem okEs_append : ∀ {a b : List Ex0}, okEs a → okEs b → okEs (a ++ b)
  | [], b, _, h => h
  | e :: a, b, h, h' => ⟨h.1, okEs_append h.2 h'⟩
theorem okEs_mem : ∀ {l : List Ex0} {e : Ex0}, okEs l → e ∈ l → okE e
  | [], _, _, h => by cases h
  | x :: l, e, h, he => by
    rcases List.mem_cons.1 he with rfl | he
    · exact h.1
    · exact okEs_mem h.2 he
theorem cntEs_mem : ∀ {l : List Ex0} {e : Ex0}, e ∈ l → cntE e ≤ cntEs l
  | [], _, h => by cases h
  | x :: l, e, h => by
    simp only [cntEs]
    rcases List.mem_cons.1 h with rfl | h
    · omega
    · have := cntEs_mem h; omega
theorem cntEs_len : ∀ l : List Ex0, l.length ≤ cntEs l
  | [] => Nat.le_refl _
  | x :: l => by
    have := cntEs_len l
    have := cntE_eq x
    simp only [cntEs, List.length_cons]; omega
mutual
theorem hgtE_le : ∀ e : Ex0, hgtE e ≤ cntE e
  | .mk _ _ _ _ ks _ => by have := hgtEs_le ks; simp only [hgtE, cntE]; omega
theorem hgtEs_le : ∀ l : List Ex0, hgtEs l ≤ cntEs l
  | [] => Nat.le_refl _
  | e :: l => by have := hgtE_le e; have := hgtEs_le l; simp only [hgtEs, cntEs]; omega
end
theorem exs_snoc (l : List Ex0) (e : Ex0) : (l ++ [e]).map Ex0.row = l.map Ex0.row ++ [[.int .i64 e.kind, .int .i64 e.n, .str e.name, .str e.op, .sl (e.kids.map Ex0.row), .int .i64 e.pos.line, .int .i64 e.pos.col]] := by
  rw [List.map_append, List.map_cons, List.map_nil, Ex0.row_eq]
theorem height_e (hx : T0 ext) : ∀ (m : Nat) (e : Ex0), cntE e ≤ m → m ≤ 1000000 → G ext 95 [e.agg] [] = some (.ret (.d (.int .i64 (hgtE e))), []) := by
  intro m
  induction m using Nat.strongRecOn with
  | ind m ih =>
    intro e hc hm
    have h1 := cntE_eq e
    have hll : (e.kids.map Ex0.row).length = e.kids.length := List.length_map _
    have hkl := cntEs_len e.kids
    rw [hgtE_eq]
    have hhl := hgtEs_le e.kids
    unfold Ex0.agg at ih ⊢
    rw [G_body hx.clear rfl Tryd.func95 rfl Tryd.results95 hv_95 rfl]
    simp (maxSteps := 4000000) (disch := first | (intros; contradiction) | omega) only [go_sem]
    generalize hL : loopA _ _ _ = L
    apply range_upd hL (by simp (maxSteps := 4000000) (disch := first | (intros; contradiction) | omega) only [go_sem] <;> rfl) e.kids Ex0.row (α := Nat) (fun rest k a => max a (hgtEs rest) = hgtEs e.kids) (fun k a => [(3, .d (.int .i64 (a : Int))), (4, .d (.int .i64 k))]) (fun _ _ => []) 0 (by simp (maxSteps := 4000000) (disch := first | (intros; contradiction) | omega) only [go_sem] <;> rfl) (by simp) ?_ ?_
    · intro x rest k a hi hlt hr hxx hk _ next ih2
      clear hL
      have hmem := List.mem_of_getElem? hxx
      have hcx := cntEs_mem hmem
      have hcc := ih (cntE x) (by omega) x (Nat.le_refl _) (by omega)
      rw [Ex0.row_eq] at hr
      simp only [hgtEs] at hi
      have hk0 : (0 : Int) ≤ (k : Int) := by omega
      have hwk : IntKind.wrap .i64 ((k : Int) + 1) = ((k + 1 : Nat) : Int) := by rw [wrap64 (by omega) (by omega)]; omega
      have hmx : (if (a : Int) < ((hgtE x : Nat) : Int) then ((hgtE x : Nat) : Int) else (a : Int)) = ((max a (hgtE x) : Nat) : Int) := by split <;> omega
      simp (maxSteps := 4000000) (disch := first | (intros; contradiction) | omega) only [go_sem, hlt, hr, hk0, hcc, hwk, hmx]
      exact ih2 (max a (hgtE x)) _ (by omega) (by simp (maxSteps := 4000000) (disch := first | (intros; contradiction) | omega) only [go_sem] <;> rfl)
    · intro k a hi hlt hk next
      clear hL
      simp only [hgtEs] at hi
      have hwk : IntKind.wrap .i64 ((a : Int) + 1) = ((hgtEs e.kids + 1 : Nat) : Int) := by rw [wrap64 (by omega) (by omega)]; omega
      simp (maxSteps := 4000000) (disch := first | (intros; contradiction) | omega) only [go_sem, hlt, hwk]
      done
/-- An expression, if it is not too high. -/
def Rd.built (r : Rd) (e : Ex0) : Ex0 × Rd := if r.bad then (Ex0.zero, r) else if 200 < hgtE e then (Ex0.zero, r.fail 4 (e.pos.line, e.pos.col)) else (e, r)
theorem rbuilt_e (hx : T0 ext) (r : Rd) (e : Ex0) (he : r.bad = false → cntE e ≤ 1000000) : G ext 92 [.ptr 0 0, e.agg] [r.obj] = some (.ret (r.built e).1.agg, [(r.built e).2.obj]) := by
  have h2 := rbad_e hx r
  have h3 := rfail_e hx r 4 (e.pos.line, e.pos.col)
  unfold Rd.built
  cases hb : r.bad with
  | true =>
    rw [hb] at h2
    rw [if_pos rfl]
    unfold Ex0.agg
    rw [G_body hx.clear rfl Tryd.func92 rfl Tryd.results92 hv_92 rfl]
    simp (maxSteps := 4000000) (disch := first | (intros; contradiction) | omega) only [go_sem, h2]
    rfl
  | false =>
    rw [hb] at h2
    rw [if_neg (by simp)]
    have hh := height_e hx (cntE e) e (Nat.le_refl _) (he hb)
    by_cases h5 : 200 < hgtE e
    · rw [if_pos h5]
      have h5' : (200 : Int) < ((hgtE e : Nat) : Int) := by omega
      have h6 : (r.fail 4 (e.pos.line, e.pos.col)).bad = true := fail_bad (by decide)
      have h7 := rbad_e hx (r.fail 4 (e.pos.line, e.pos.col))
      rw [h6] at h7
      unfold Ex0.agg at hh ⊢
      rw [G_body hx.clear rfl Tryd.func92 rfl Tryd.results92 hv_92 rfl]
      simp (maxSteps := 4000000) (disch := first | (intros; contradiction) | omega) only [go_sem, h2, hh, h3, h5', h7]
      rfl
    · rw [if_neg h5]
      have h5' : ¬ (200 : Int) < ((hgtE e : Nat) : Int) := by omega
      unfold Ex0.agg at hh ⊢
      rw [G_body hx.clear rfl Tryd.func92 rfl Tryd.results92 hv_92 rfl]
      simp (maxSteps := 4000000) (disch := first | (intros; contradiction) | omega) only [go_sem, h2, hh, h5']
      done
end Go.Proofs.YtdpkdeimliohmaaDoor
namespace Go.Proofs.YtdpkdeimliohmaaDoor
open Go Go.Ab
variable {ext : Sem'}
theorem room_few {n b : Nat} (h : n ≤ 1000001) (hb : b ≤ 1000) : room n b := by
  unfold room
  have h2 : max b 1 ≤ 1000 := by omega
  have := Nat.mul_le_mul h h2
  omega
theorem rnext_obj (r : Rd) : AObj.cells [.d (.sl (r.L.map Tok.row)), .d (.int .i64 (r.next.i : Int)), .d (.int .i64 r.d.stage), .d (.int .i64 r.d.what), .d (.int .i64 r.d.pos.1), .d (.int .i64 r.d.pos.2)] = r.next.obj := rfl
theorem rnext_wrap {r : Rd} (h : r.ok) : IntKind.wrap .i64 ((r.i : Int) + 1) = (r.next.i : Int) := by
  have := h.at_
  have := h.few
  rw [wrap64 (by omega) (by omega)]
  show (r.i : Int) + 1 = ((r.i + 1 : Nat) : Int)
  omega
/-- A reader goes on. -/
structure Adv (r r' : Rd) : Prop where
  ok : r'.ok
  L : r'.L = r.L
  le : r.i ≤ r'.i
  bad : r.bad = true → r'.bad = true
theorem Adv.refl {r : Rd} (h : r.ok) : Adv r r := ⟨h, rfl, Nat.le_refl _, id⟩
theorem Adv.trans {a b c : Rd} (h : Adv a b) (k : Adv b c) : Adv a c := ⟨k.ok, k.L.trans h.L, Nat.le_trans h.le k.le, fun x => k.bad (h.bad x)⟩
theorem Adv.good {r r' : Rd} (h : Adv r r') (k : r'.bad = false) : r.bad = false := by
  cases hb : r.bad with
  | false => rfl
  | true => rw [h.bad hb] at k; cases k
theorem next_i (r : Rd) : r.next.i = r.i + 1 := rfl
theorem next_bad (r : Rd) : r.next.bad = r.bad := rfl
theorem next_L (r : Rd) : r.next.L = r.L := rfl
theorem adv_next {r : Rd} (h : r.ok) (hk : r.tok.kind ≠ 5) : Adv r r.next := ⟨next_ok h hk, rfl, Nat.le_succ _, fun x => x⟩
theorem adv_is {r : Rd} {s : Str} (h : r.ok) (hk : r.is s = true) : Adv r r.next := adv_next h (is_kind hk).1
theorem adv_fail {r : Rd} (h : r.ok) (f : Int) (hf : f ≠ 0) (p : Int × Int) : Adv r (r.fail f p) := by
  refine ⟨fail_ok h f p, ?_, ?_, fun _ => fail_bad hf⟩
  · unfold Rd.fail; split <;> rfl
  · unfold Rd.fail; split <;> exact Nat.le_refl _
theorem adv_eat {r : Rd} (h : r.ok) (s : Str) : Adv r (r.eat s) := by
  unfold Rd.eat
  split
  · rename_i hk; exact adv_is h hk
  · exact adv_fail h 3 (by decide) _
theorem eat_good {r : Rd} {s : Str} (h : (r.eat s).bad = false) : (r.eat s).i = r.i + 1 ∧ r.is s = true := by
  unfold Rd.eat at h ⊢
  split
  · rename_i hk; exact ⟨rfl, hk⟩
  · rename_i hk; rw [if_neg hk, fail_bad (by decide)] at h; cases h
theorem adv_name {r : Rd} (h : r.ok) : Adv r r.name.2.2 := by
  unfold Rd.name
  split
  · exact adv_fail h 3 (by decide) _
  · rename_i hk; exact adv_next h (by intro e; apply hk; right; rw [e]; decide)
theorem name_good {r : Rd} (h : r.name.2.2.bad = false) : r.name.2.2.i = r.i + 1 := by
  unfold Rd.name at h ⊢
  split
  · rename_i hk; rw [if_pos hk] at h; simp only [fail_bad (show (3 : Int) ≠ 0 by decide)] at h; cases h
  · rfl
theorem level_true {r : Rd} {n : Int} (h : (r.level n).1 = true) : r.level n = (true, r) ∧ r.bad = false ∧ n ≤ 200 := by
  unfold Rd.level at h ⊢
  split
  · rename_i hn; rw [if_pos hn] at h; cases h
  · rename_i hn
    rw [if_neg hn] at h
    simp only at h
    rw [h]
    exact ⟨rfl, by simpa using h, by omega⟩
theorem level_false {r : Rd} {n : Int} (h : (r.level n).1 = false) : (r.level n).2.bad = true := by
  unfold Rd.level at h ⊢
  split
  · exact fail_bad (by decide)
  · rename_i hn
    rw [if_neg hn] at h
    simpa using h
theorem adv_level {r : Rd} (h : r.ok) (n : Int) : Adv r (r.level n).2 := by
  unfold Rd.level
  split
  · exact adv_fail h 4 (by decide) _
  · exact Adv.refl h
theorem adv_built {r : Rd} (h : r.ok) (e : Ex0) : Adv r (r.built e).2 := by
  unfold Rd.built
  split
  · exact Adv.refl h
  · split
    · exact adv_fail h 4 (by decide) _
    · exact Adv.refl h
theorem built_good {r : Rd} {e : Ex0} (h : (r.built e).2.bad = false) : r.built e = (e, r) := by
  unfold Rd.built at h ⊢
  split
  · rename_i hb; rw [if_pos hb] at h; simp only [hb] at h; cases h
  · rename_i hb
    rw [if_neg hb] at h
    split
    · rename_i h2; rw [if_pos h2, fail_bad (by decide)] at h; cases h
    · rfl
/-- A function that reads an expression. -/
def ReadsE (ext : Sem') (f : Nat) (xs : List AV) : Prop := ∀ r : Rd, r.ok → ∃ (e : Ex0) (r' : Rd), G ext f (.ptr 0 0 :: xs) [r.obj] = some (.ret e.agg, [r'.obj]) ∧ Adv r r' ∧ (r'.bad = false → okE e ∧ r.i + cntE e ≤ r'.i)
/-- .. expressions. -/
def ReadsEs (ext : Sem') (f : Nat) (xs : List AV) (c : Nat) : Prop := ∀ r : Rd, r.ok → ∃ (l : List Ex0) (r' : Rd), G ext f (.ptr 0 0 :: xs) [r.obj] = some (.ret (.d (.sl (l.map Ex0.row))), [r'.obj]) ∧ Adv r r' ∧ (r'.bad = false → okEs l ∧ r.i + cntEs l + c ≤ r'.i)
set_option maxHeartbeats 2000000 in
theorem rargs_e (hx : T0 ext) (d : Nat) (hd0 : d ≤ 200) (hE : d + 1 ≤ 200 → ReadsE ext 87 [.d (.int .i64 ((d + 1 : Nat) : Int))]) : ReadsEs ext 93 [.d (.int .i64 (d : Int))] 2 := by
  intro r hr
  have hi := ris_e hx r hr [40]
  have hdw : IntKind.wrap .i64 ((d : Int) + 1) = ((d + 1 : Nat) : Int) := by rw [wrap64 (by omega) (by omega)]; omega
  cases hk : r.is [40] with
  | false =>
    rw [hk] at hi
    have ht := rtok_e hx r hr
    unfold Tok.av at ht
    have hf := rfail_e hx r 3 r.tok.pos
    have hb : (r.fail 3 r.tok.pos).bad = true := fail_bad (by decide)
    have ha := adv_fail hr 3 (by decide) r.tok.pos
    have hl := rlevel_e hx (r.fail 3 r.tok.pos) ha.ok ((d + 1 : Nat) : Int)
    have hlv : ((r.fail 3 r.tok.pos).level ((d + 1 : Nat) : Int)).1 = false := by
      cases h : ((r.fail 3 r.tok.pos).level ((d + 1 : Nat) : Int)).1 with
      | false => rfl
      | true => have := (level_true h).2.1; rw [hb] at this; cases this
    rw [hlv] at hl
    have ha2 := adv_level ha.ok ((d + 1 : Nat) : Int)
    refine ⟨[], ((r.fail 3 r.tok.pos).level ((d + 1 : Nat) : Int)).2, ?_, ha.trans ha2, fun h => ?_⟩
    · generalize ((r.fail 3 r.tok.pos).level ((d + 1 : Nat) : Int)).2 = r2 at hl
      generalize r.fail 3 r.tok.pos = r1 at hf hl
      rw [G_body hx.clear rfl Tryd.func93 rfl Tryd.results93 hv_93 rfl]
      simp (maxSteps := 4000000) (disch := first | (intros; contradiction) | omega) only [go_sem, hi, ht, hf, hl, hdw]
      done
    · rw [level_false hlv] at h; cases h
  | true =>
    rw [hk] at hi
    have hl := rlevel_e hx r hr ((d + 1 : Nat) : Int)
    cases hlv : (r.level ((d + 1 : Nat) : Int)).1 with
    | false =>
      rw [hlv] at hl
      refine ⟨[], (r.level ((d + 1 : Nat) : Int)).2, ?_, adv_level hr _, fun h => ?_⟩
      · generalize (r.level ((d + 1 : Nat) : Int)).2 = r2 at hl
        rw [G_body hx.clear rfl Tryd.func93 rfl Tryd.results93 hv_93 rfl]
        simp (maxSteps := 4000000) (disch := first | (intros; contradiction) | omega) only [go_sem, hi, hl, hdw]
        done
      · rw [level_false hlv] at h; cases h
    | true =>
      obtain ⟨e1, e2, e3⟩ := level_true hlv
      rw [e1] at hl
      have hE' := hE (by omega)
      have hn := rnext_obj r
      have hw := rnext_wrap hr
      have ha := adv_is hr hk
      have hnb : r.next.bad = false := e2
      have hni : r.next.i = r.i + 1 := rfl
      rw [G_body hx.clear rfl Tryd.func93 rfl Tryd.results93 hv_93 rfl]
      simp (maxSteps := 4000000) (disch := first | (intros; contradiction) | omega) only [go_sem, hi, hl, hdw, hw, hn]
      generalize r.next = r1 at ha hnb hni ⊢
      generalize hL : loopA _ _ _ = L
      apply loop_upd hL (by simp (maxSteps := 4000000) (disch := first | (intros; contradiction) | omega) only [go_sem] <;> rfl) (fun x : List Ex0 × Rd × Nat => Adv r1 x.2.1 ∧ (x.2.1.bad = false → okEs x.1 ∧ r1.i + cntEs x.1 ≤ x.2.1.i)) (fun x => if x.2.1.bad then 0 else 1 + (r1.L.length - x.2.1.i)) (fun x => [(5, .grow 2 x.2.2 (x.1.map Ex0.row))]) (fun x => [(0, x.2.1.obj), (2, .grow x.2.2 7)]) ([], r1, 0) (by simp (maxSteps := 4000000) (disch := first | (intros; contradiction) | omega) only [go_sem] <;> rfl) ⟨Adv.refl ha.ok, fun _ => ⟨trivial, Nat.le_refl _⟩⟩ ?_
      clear hL
      rintro ⟨l, r2, k⟩ ⟨h1, h2⟩ next ih
      simp only at h1 h2 ih ⊢
      have h41 := ris_e hx r2 h1.ok [41]
      have he41 := reat_e hx r2 h1.ok [41]
      have hll : (l.map Ex0.row).length = l.length := List.length_map _
      cases hk2 : r2.is [41] with
      | true =>
        rw [hk2] at h41
        have e4 : r2.eat [41] = r2.next := by unfold Rd.eat; rw [if_pos hk2]
        rw [e4] at he41
        refine ⟨l, r2.next, ?_, ha.trans (h1.trans (adv_is h1.ok hk2)), fun h => ?_⟩
        · simp (maxSteps := 4000000) (disch := first | (intros; contradiction) | omega) only [go_sem, h41, he41]
          done
        · obtain ⟨k1, k2⟩ := h2 h
          exact ⟨k1, by show r.i + cntEs l + 2 ≤ r2.i + 1; omega⟩
      | false =>
        rw [hk2] at h41
        have hb2 := rbad_e hx r2
        cases hbd : r2.bad with
        | true =>
          rw [hbd] at hb2
          refine ⟨l, r2.eat [41], ?_, ha.trans (h1.trans (adv_eat h1.ok _)), fun h => ?_⟩
          · generalize r2.eat [41] = r3 at he41
            simp (maxSteps := 4000000) (disch := first | (intros; contradiction) | omega) only [go_sem, h41, he41, hb2]
            done
          · rw [(adv_eat h1.ok _).bad hbd] at h; cases h
        | false =>
          rw [hbd] at hb2
          obtain ⟨k1, k2⟩ := h2 hbd
          have hlen := cntEs_len l
          have h2a := h1.ok.at_
          have h2f := h1.ok.few
          have go : ∀ r3 : Rd, Adv r2 r3 → ∃ e r4, G ext 87 [.ptr 0 0, .d (.int .i64 ((d + 1 : Nat) : Int))] [r3.obj] = some (.ret e.agg, [r4.obj]) ∧ Adv r1 r4 ∧ (r4.bad = false → okEs (l ++ [e]) ∧ r1.i + cntEs (l ++ [e]) ≤ r4.i) ∧ (if r4.bad then 0 else 1 + (r1.L.length - r4.i)) < 1 + (r1.L.length - r2.i) := by
            intro r3 h3
            obtain ⟨e, r4, q1, q2, q3⟩ := hE' r3 h3.ok
            have h14 := h1.trans (h3.trans q2)
            refine ⟨e, r4, q1, h14, fun h => ?_, ?_⟩
            · obtain ⟨a1, a2⟩ := q3 h
              have := h3.le
              exact ⟨okEs_append k1 ⟨a1, trivial⟩, by rw [cntEs_append]; simp only [cntEs]; omega⟩
            · cases hb4 : r4.bad with
              | true => simp only [if_true]; omega
              | false =>
                obtain ⟨a1, a2⟩ := q3 hb4
                have := h3.le
                have := cntE_eq e
                have := h1.L
                have h4a := q2.ok.at_
                have h4L := h14.L
                rw [h4L] at h4a
                simp only [Bool.false_eq_true, if_false]
                omega
          simp only [hbd, Bool.false_eq_true, if_false] at ih
          have hroom : room (l.length + 1) 88 := room_few (by omega) (by decide)
          by_cases hl0 : (0 : Int) < (l.length : Int)
          · have he44 := reat_e hx r2 h1.ok [44]
            obtain ⟨e, r4, q1, q2, q3, q4⟩ := go (r2.eat [44]) (adv_eat h1.ok _)
            unfold Ex0.agg at q1
            generalize r2.eat [44] = r3 at he44 q1
            have hs := exs_snoc l e
            simp (maxSteps := 4000000) (disch := first | (intros; contradiction) | omega) only [go_sem, h41, hb2, hl0, he44, q1, hdw, hll, hroom]
            exact ih (l ++ [e], r4, k + 1) _ ⟨q2, q3⟩ q4 (by simp (maxSteps := 4000000) (disch := first | (intros; contradiction) | omega) only [go_sem, hs] <;> rfl)
          · obtain ⟨e, r4, q1, q2, q3, q4⟩ := go r2 (Adv.refl h1.ok)
            unfold Ex0.agg at q1
            have hs := exs_snoc l e
            simp (maxSteps := 4000000) (disch := first | (intros; contradiction) | omega) only [go_sem, h41, hb2, hl0, q1, hdw, hll, hroom]
            exact ih (l ++ [e], r4, k + 1) _ ⟨q2, q3⟩ q4 (by simp (maxSteps := 4000000) (disch := first | (intros; contradiction) | omega) only [go_sem, hs] <;> rfl)
end Go.Proofs.YtdpkdeimliohmaaDoor
namespace Go.Proofs.YtdpkdeimliohmaaDoor
open Go Go.Ab
variable {ext : Sem'}
/-- An expression is built, or it is too high. -/
theorem rbuilt_x (hx : T0 ext) {r : Rd} (hr : r.ok) (k n : Int) (s o : Str) (ks : List Ex0) (p q : Int) (hc : r.bad = false → 1 + cntEs ks ≤ 1000000) : ∃ (e' : Ex0) (r' : Rd), G ext 92 [.ptr 0 0, .agg [.d (.int .i64 k), .d (.int .i64 n), .d (.str s), .d (.str o), .d (.sl (ks.map Ex0.row)), .d (.int .i64 p), .d (.int .i64 q)]] [r.obj] = some (.ret (.agg [.d (.int .i64 e'.kind), .d (.int .i64 e'.n), .d (.str e'.name), .d (.str e'.op), .d (.sl (e'.kids.map Ex0.row)), .d (.int .i64 e'.pos.line), .d (.int .i64 e'.pos.col)]), [r'.obj]) ∧ Adv r r' ∧ (r'.bad = false → e' = .mk k n s o ks ⟨p, q⟩ ∧ r' = r) := by
  refine ⟨(r.built (.mk k n s o ks ⟨p, q⟩)).1, (r.built (.mk k n s o ks ⟨p, q⟩)).2, rbuilt_e hx r (.mk k n s o ks ⟨p, q⟩) hc, adv_built hr _, fun h => ?_⟩
  rw [built_good h]
  exact ⟨rfl, rfl⟩
theorem okE_leaf {k n : Int} {s o : Str} {p : Po} (h : k ≠ 3 ∧ k ≠ 4 ∧ k ≠ 5) (ht : okN n ∧ okT s ∧ okT o) : okE (.mk k n s o [] p) := ⟨ht, ⟨fun e => absurd e h.1, fun e => absurd e h.2.1, fun e => absurd e h.2.2⟩, trivial⟩
theorem okE_call {k n : Int} {s o : Str} {p : Po} {l : List Ex0} (h : k ≠ 3 ∧ k ≠ 4 ∧ k ≠ 5) (ht : okN n ∧ okT s ∧ okT o) (hl : okEs l) : okE (.mk k n s o l p) := ⟨ht, ⟨fun e => absurd e h.1, fun e => absurd e h.2.1, fun e => absurd e h.2.2⟩, hl⟩
set_option maxHeartbeats 4000000 in
theorem rprimary_e (hx : T0 ext) (d : Nat) (hd0 : d ≤ 200) (hE : d + 1 ≤ 200 → ReadsE ext 87 [.d (.int .i64 ((d + 1 : Nat) : Int))]) : ReadsE ext 96 [.d (.int .i64 (d : Int))] := by
  intro r hr
  have hA := rargs_e hx d hd0 hE
  have hdw : IntKind.wrap .i64 ((d : Int) + 1) = ((d + 1 : Nat) : Int) := by rw [wrap64 (by omega) (by omega)]; omega
  have ht := rtok_e hx r hr
  unfold Tok.av at ht
  have hb := rbad_e hx r
  have hat := hr.at_
  have hfew := hr.few
  have hn := rnext_obj r
  have hw := rnext_wrap hr
  unfold Ex0.agg
  cases hbd : r.bad with
  | true =>
    rw [hbd] at hb
    obtain ⟨e', r', q1, q2, q3⟩ := rbuilt_x hx hr 0 0 [] [] [] r.tok.pos.1 r.tok.pos.2 (fun _ => by simp [cntEs])
    simp only [List.map_nil] at q1
    refine ⟨e', r', ?_, q2, fun h => ?_⟩
    · rw [G_body hx.clear rfl Tryd.func96 rfl Tryd.results96 hv_96 rfl]
      simp (maxSteps := 4000000) (disch := first | (intros; contradiction) | omega) only [go_sem, ht, hb, q1]
      done
    · rw [q2.bad hbd] at h; cases h
  | false =>
    rw [hbd] at hb
    by_cases k3 : r.tok.kind = 3
    · have hnx := next_ok hr (by rw [k3]; decide)
      have ha := adv_next hr (by rw [k3]; decide)
      obtain ⟨e', r', q1, q2, q3⟩ := rbuilt_x hx hnx 1 r.tok.num [] [] [] r.tok.pos.1 r.tok.pos.2 (fun _ => by simp [cntEs])
      simp only [List.map_nil] at q1
      refine ⟨e', r', ?_, ha.trans q2, fun h => ?_⟩
      · rw [G_body hx.clear rfl Tryd.func96 rfl Tryd.results96 hv_96 rfl]
        simp (maxSteps := 4000000) (disch := first | (intros; contradiction) | omega) only [go_sem, ht, hb, k3, hw, hn, q1]
        done
      · obtain ⟨rfl, rfl⟩ := q3 h
        exact ⟨okE_leaf (by decide) ⟨(tok_tx hr).2, t0, t0⟩, by simp only [cntE, cntEs, next_i]; omega⟩
    by_cases k1 : r.tok.kind = 1
    · have hnx := next_ok hr (by rw [k1]; decide)
      have ha := adv_next hr (by rw [k1]; decide)
      have hni := next_i r
      have hip := ris_e hx r.next hnx [40]
      cases hp : r.next.is [40] with
      | false =>
        rw [hp] at hip
        obtain ⟨e', r', q1, q2, q3⟩ := rbuilt_x hx hnx 2 0 r.tok.text [] [] r.tok.pos.1 r.tok.pos.2 (fun _ => by simp [cntEs])
        simp only [List.map_nil] at q1
        refine ⟨e', r', ?_, ha.trans q2, fun h => ?_⟩
        · rw [G_body hx.clear rfl Tryd.func96 rfl Tryd.results96 hv_96 rfl]
          simp (maxSteps := 4000000) (disch := first | (intros; contradiction) | omega) only [go_sem, ht, hb, k3, k1, hw, hn, hip, q1]
          done
        · obtain ⟨rfl, rfl⟩ := q3 h
          exact ⟨okE_leaf (by decide) ⟨n0, (tok_tx hr).1, t0⟩, by simp only [cntE, cntEs, next_i]; omega⟩
      | true =>
        rw [hp] at hip
        obtain ⟨l, r2, p1, p2, p3⟩ := hA r.next hnx
        have h2a := p2.ok.at_
        have h2f := p2.ok.few
        obtain ⟨e', r', q1, q2, q3⟩ := rbuilt_x hx p2.ok 9 0 r.tok.text [] l r.tok.pos.1 r.tok.pos.2 (fun h => by have := (p3 h).2; omega)
        refine ⟨e', r', ?_, ha.trans (p2.trans q2), fun h => ?_⟩
        · rw [G_body hx.clear rfl Tryd.func96 rfl Tryd.results96 hv_96 rfl]
          simp (maxSteps := 4000000) (disch := first | (intros; contradiction) | omega) only [go_sem, ht, hb, k3, k1, hw, hn, hip, p1, q1]
          done
        · obtain ⟨rfl, rfl⟩ := q3 h
          obtain ⟨a1, a2⟩ := p3 h
          exact ⟨okE_call (by decide) ⟨n0, (tok_tx hr).1, t0⟩ a1, by simp only [cntE]; omega⟩
    have hi1 := ris_e hx r hr [110, 117, 108, 108]
    cases hk1 : r.is [110, 117, 108, 108] with
    | true =>
      rw [hk1] at hi1
      have ha := adv_is hr hk1
      obtain ⟨e', r', q1, q2, q3⟩ := rbuilt_x hx ha.ok 6 0 [] [] [] r.tok.pos.1 r.tok.pos.2 (fun _ => by simp [cntEs])
      simp only [List.map_nil] at q1
      refine ⟨e', r', ?_, ha.trans q2, fun h => ?_⟩
      · rw [G_body hx.clear rfl Tryd.func96 rfl Tryd.results96 hv_96 rfl]
        simp (maxSteps := 4000000) (disch := first | (intros; contradiction) | omega) only [go_sem, ht, hb, k3, k1, hw, hn, hi1, q1]
        done
      · obtain ⟨rfl, rfl⟩ := q3 h
        exact ⟨okE_leaf (by decide) ⟨n0, t0, t0⟩, by simp only [cntE, cntEs, next_i]; omega⟩
    | false =>
    rw [hk1] at hi1
    have hi2 := ris_e hx r hr [110, 101, 119]
    cases hk2 : r.is [110, 101, 119] with
    | true =>
      rw [hk2] at hi2
      have ha := adv_is hr hk2
      have hnm := rname_e hx r.next ha.ok
      have han := adv_name ha.ok
      have hgn := @name_good r.next
      have htn := name_tx ha.ok
      generalize r.next.name = nm at hnm han hgn htn
      obtain ⟨nm1, nm2, r2⟩ := nm
      simp only at hnm han hgn htn
      obtain ⟨e', r', q1, q2, q3⟩ := rbuilt_x hx han.ok 7 0 nm1 [] [] r.tok.pos.1 r.tok.pos.2 (fun _ => by simp [cntEs])
      simp only [List.map_nil] at q1
      refine ⟨e', r', ?_, ha.trans (han.trans q2), fun h => ?_⟩
      · rw [G_body hx.clear rfl Tryd.func96 rfl Tryd.results96 hv_96 rfl]
        simp (maxSteps := 4000000) (disch := first | (intros; contradiction) | omega) only [go_sem, ht, hb, k3, k1, hw, hn, hi1, hi2, hnm, q1]
        done
      · obtain ⟨rfl, rfl⟩ := q3 h
        have := hgn h
        exact ⟨okE_leaf (by decide) ⟨n0, htn, t0⟩, by simp only [cntE, cntEs, next_i] at *; omega⟩
    | false =>
    rw [hk2] at hi2
    have hi3 := ris_e hx r hr [103, 101, 116]
    cases hk3 : r.is [103, 101, 116] with
    | true =>
      rw [hk3] at hi3
      have ha := adv_is hr hk3
      have h40 := reat_e hx r.next ha.ok [40]
      have a40 := adv_eat ha.ok [40]
      have h41 := reat_e hx (r.next.eat [40]) a40.ok [41]
      have a41 := adv_eat a40.ok [41]
      obtain ⟨e', r', q1, q2, q3⟩ := rbuilt_x hx a41.ok 8 0 [] [] [] r.tok.pos.1 r.tok.pos.2 (fun _ => by simp [cntEs])
      simp only [List.map_nil] at q1
      have hall := ha.trans (a40.trans a41)
      have hle := a40.trans a41
      refine ⟨e', r', ?_, hall.trans q2, fun h => ?_⟩
      · clear q3 hall hle
        generalize (r.next.eat [40]).eat [41] = r3 at h41 q1
        generalize r.next.eat [40] = r2 at h40 h41
        rw [G_body hx.clear rfl Tryd.func96 rfl Tryd.results96 hv_96 rfl]
        simp (maxSteps := 4000000) (disch := first | (intros; contradiction) | omega) only [go_sem, ht, hb, k3, k1, hw, hn, hi1, hi2, hi3, h40, h41, q1]
        done
      · obtain ⟨rfl, rfl⟩ := q3 h
        have := hle.le
        exact ⟨okE_leaf (by decide) ⟨n0, t0, t0⟩, by simp only [cntE, cntEs, next_i] at *; omega⟩
    | false =>
    rw [hk3] at hi3
    have hi4 := ris_e hx r hr [40]
    cases hk4 : r.is [40] with
    | true =>
      rw [hk4] at hi4
      have ha := adv_is hr hk4
      have hl := rlevel_e hx r hr ((d + 1 : Nat) : Int)
      cases hlv : (r.level ((d + 1 : Nat) : Int)).1 with
      | false =>
        rw [hlv] at hl
        refine ⟨Ex0.zero, (r.level ((d + 1 : Nat) : Int)).2, ?_, adv_level hr _, fun h => ?_⟩
        · generalize (r.level ((d + 1 : Nat) : Int)).2 = r2 at hl
          rw [G_body hx.clear rfl Tryd.func96 rfl Tryd.results96 hv_96 rfl]
          simp (maxSteps := 4000000) (disch := first | (intros; contradiction) | omega) only [go_sem, ht, hb, k3, k1, hi1, hi2, hi3, hi4, hl, hdw]
          rfl
        · rw [level_false hlv] at h; cases h
      | true =>
        obtain ⟨e1, e2, e3⟩ := level_true hlv
        rw [e1] at hl
        obtain ⟨e, r2, q1, q2, q3⟩ := hE (by omega) r.next ha.ok
        unfold Ex0.agg at q1
        have h41 := reat_e hx r2 q2.ok [41]
        have a41 := adv_eat q2.ok [41]
        refine ⟨e, r2.eat [41], ?_, ha.trans (q2.trans a41), fun h => ?_⟩
        · generalize r2.eat [41] = r3 at h41
          rw [G_body hx.clear rfl Tryd.func96 rfl Tryd.results96 hv_96 rfl]
          simp (maxSteps := 4000000) (disch := first | (intros; contradiction) | omega) only [go_sem, ht, hb, k3, k1, hi1, hi2, hi3, hi4, hl, hdw, hw, hn, q1, h41]
          done
        · obtain ⟨b1, b2⟩ := q3 (a41.good h)
          have := a41.le
          exact ⟨b1, by simp only [next_i] at *; omega⟩
    | false =>
      rw [hk4] at hi4
      have hf := rfail_e hx r 3 r.tok.pos
      have af := adv_fail hr 3 (by decide) r.tok.pos
      obtain ⟨e', r', q1, q2, q3⟩ := rbuilt_x hx af.ok 0 0 [] [] [] r.tok.pos.1 r.tok.pos.2 (fun _ => by simp [cntEs])
      simp only [List.map_nil] at q1
      refine ⟨e', r', ?_, af.trans q2, fun h => ?_⟩
      · clear q2 q3 af
        generalize r.fail 3 r.tok.pos = r2 at hf q1
        rw [G_body hx.clear rfl Tryd.func96 rfl Tryd.results96 hv_96 rfl]
        simp (maxSteps := 4000000) (disch := first | (intros; contradiction) | omega) only [go_sem, ht, hb, k3, k1, hi1, hi2, hi3, hi4, hf, q1]
        done
      · rw [q2.bad (fail_bad (by decide))] at h; cases h
end Go.Proofs.YtdpkdeimliohmaaDoor
namespace Go.Proofs.YtdpkdeimliohmaaDoor
open Go Go.Ab
variable {ext : Sem'}
theorem any_is {r : Rd} {l : List Str} (h : l.any r.is = true) : r.tok.kind ≠ 5 ∧ r.bad = false := by
  obtain ⟨s, _, hs⟩ := List.any_eq_true.1 h
  exact is_kind hs
theorem one_row (e : Ex0) : [e].map Ex0.row = [[.int .i64 e.kind, .int .i64 e.n, .str e.name, .str e.op, .sl (e.kids.map Ex0.row), .int .i64 e.pos.line, .int .i64 e.pos.col]] := by
  rw [List.map_cons, List.map_nil, Ex0.row_eq]
theorem two_row (e x : Ex0) : [e, x].map Ex0.row = [[.int .i64 e.kind, .int .i64 e.n, .str e.name, .str e.op, .sl (e.kids.map Ex0.row), .int .i64 e.pos.line, .int .i64 e.pos.col], [.int .i64 x.kind, .int .i64 x.n, .str x.name, .str x.op, .sl (x.kids.map Ex0.row), .int .i64 x.pos.line, .int .i64 x.pos.col]] := by
  rw [List.map_cons, List.map_cons, List.map_nil, Ex0.row_eq, Ex0.row_eq]
theorem okE_one {n : Int} {s o : Str} {p : Po} {e : Ex0} {k : Int} (hk : k = 3 ∨ k = 5) (ht : okN n ∧ okT s ∧ okT o) (he : okE e) : okE (.mk k n s o [e] p) := ⟨ht, ⟨fun _ => rfl, fun h => by omega, fun _ => rfl⟩, he, trivial⟩
theorem okE_two {n : Int} {s o : Str} {p : Po} {e x : Ex0} (ht : okN n ∧ okT s ∧ okT o) (he : okE e) (hx : okE x) : okE (.mk 4 n s o [e, x] p) := ⟨ht, ⟨fun h => by omega, fun _ => rfl, fun h => by omega⟩, he, hx, trivial⟩
set_option maxHeartbeats 4000000 in
theorem runary_e (hx : T0 ext) (d : Nat) (hd0 : d ≤ 200) (hU : d + 1 ≤ 200 → ReadsE ext 94 [.d (.int .i64 ((d + 1 : Nat) : Int))]) (hP : ReadsE ext 96 [.d (.int .i64 (d : Int))]) : ReadsE ext 94 [.d (.int .i64 (d : Int))] := by
  intro r hr
  have hdw : IntKind.wrap .i64 ((d : Int) + 1) = ((d + 1 : Nat) : Int) := by rw [wrap64 (by omega) (by omega)]; omega
  have hany := rany_e hx r hr [[45], [33]] (by decide)
  simp only [List.map_cons, List.map_nil] at hany
  have ht := rtok_e hx r hr
  unfold Tok.av at ht
  have hat := hr.at_
  have hfew := hr.few
  have hn := rnext_obj r
  have hw := rnext_wrap hr
  cases ha : List.any [[45], [33]] r.is with
  | true =>
    rw [ha] at hany
    have adv := adv_next hr (any_is ha).1
    have hl := rlevel_e hx r hr ((d + 1 : Nat) : Int)
    cases hlv : (r.level ((d + 1 : Nat) : Int)).1 with
    | false =>
      rw [hlv] at hl
      refine ⟨Ex0.zero, (r.level ((d + 1 : Nat) : Int)).2, ?_, adv_level hr _, fun h => ?_⟩
      · generalize (r.level ((d + 1 : Nat) : Int)).2 = r2 at hl
        rw [G_body hx.clear rfl Tryd.func94 rfl Tryd.results94 hv_94 rfl]
        simp (maxSteps := 4000000) (disch := first | (intros; contradiction) | omega) only [go_sem, hany, ht, hl, hdw]
        rfl
      · rw [level_false hlv] at h; cases h
    | true =>
      obtain ⟨e1, e2, e3⟩ := level_true hlv
      rw [e1] at hl
      obtain ⟨x, r2, p1, p2, p3⟩ := hU (by omega) r.next adv.ok
      have h2a := p2.ok.at_
      have h2f := p2.ok.few
      have hcx := cntE_eq x
      obtain ⟨e', r', q1, q2, q3⟩ := rbuilt_x hx p2.ok 5 0 [] r.tok.text [x] r.tok.pos.1 r.tok.pos.2 (fun h => by have := (p3 h).2; simp only [cntEs]; rw [next_i] at this; omega)
      rw [one_row] at q1
      unfold Ex0.agg at p1 ⊢
      refine ⟨e', r', ?_, adv.trans (p2.trans q2), fun h => ?_⟩
      · rw [G_body hx.clear rfl Tryd.func94 rfl Tryd.results94 hv_94 rfl]
        simp (maxSteps := 4000000) (disch := first | (intros; contradiction) | omega) only [go_sem, hany, ht, hl, hdw, hw, hn, p1, q1]
        done
      · obtain ⟨rfl, rfl⟩ := q3 h
        obtain ⟨a1, a2⟩ := p3 h
        rw [next_i] at a2
        exact ⟨okE_one (.inr rfl) ⟨n0, t0, (tok_tx hr).1⟩ a1, by simp only [cntE, cntEs]; omega⟩
  | false =>
    rw [ha] at hany
    obtain ⟨e, r1, p1, p2, p3⟩ := hP r hr
    unfold Ex0.agg at p1 ⊢
    rw [G_body hx.clear rfl Tryd.func94 rfl Tryd.results94 hv_94 rfl]
    simp (maxSteps := 4000000) (disch := first | (intros; contradiction) | omega) only [go_sem, hany, p1]
    generalize hL : loopA _ _ _ = L
    apply loop_upd hL (by simp (maxSteps := 4000000) (disch := first | (intros; contradiction) | omega) only [go_sem] <;> rfl) (fun x : Ex0 × Rd => Adv r x.2 ∧ (x.2.bad = false → okE x.1 ∧ r.i + cntE x.1 ≤ x.2.i)) (fun x => if x.2.bad then 0 else 1 + (r.L.length - x.2.i)) (fun x => []) (fun x => [(0, x.2.obj), (3, .cells [.d (.int .i64 x.1.kind), .d (.int .i64 x.1.n), .d (.str x.1.name), .d (.str x.1.op), .d (.sl (x.1.kids.map Ex0.row)), .d (.int .i64 x.1.pos.line), .d (.int .i64 x.1.pos.col)])]) (e, r1) (by simp (maxSteps := 4000000) (disch := first | (intros; contradiction) | omega) only [go_sem] <;> rfl) ⟨p2, p3⟩ ?_
    clear hL
    rintro ⟨e2, r2⟩ ⟨h1, h2⟩ next ih
    simp only at h1 h2 ih ⊢
    have hs := ris_e hx r2 h1.ok [45, 62]
    cases hk : r2.is [45, 62] with
    | false =>
      rw [hk] at hs
      refine ⟨e2, r2, ?_, h1, h2⟩
      simp (maxSteps := 4000000) (disch := first | (intros; contradiction) | omega) only [go_sem, hs]
      done
    | true =>
      rw [hk] at hs
      have hbd := (is_kind hk).2
      obtain ⟨k1, k2⟩ := h2 hbd
      have ha2 := adv_is h1.ok hk
      have ht2 := rtok_e hx r2 h1.ok
      unfold Tok.av at ht2
      have hn2 := rnext_obj r2
      have hw2 := rnext_wrap h1.ok
      have hnm := rname_e hx r2.next ha2.ok
      have han := adv_name ha2.ok
      have hgn := @name_good r2.next
      have htn := name_tx ha2.ok
      generalize r2.next.name = nm at hnm han hgn htn
      obtain ⟨nm1, nm2, r3⟩ := nm
      simp only at hnm han hgn htn
      have h3a := han.ok.at_
      have h3f := han.ok.few
      obtain ⟨e', r4, q1, q2, q3⟩ := rbuilt_x hx han.ok 3 0 nm1 [] [e2] r2.tok.pos.1 r2.tok.pos.2 (fun h => by have := hgn h; rw [next_i] at this; have := cntE_eq e2; simp only [cntEs]; omega)
      rw [one_row] at q1
      have h24 := ha2.trans (han.trans q2)
      have h14 := h1.trans h24
      simp (maxSteps := 4000000) (disch := first | (intros; contradiction) | omega) only [go_sem, hs, ht2, hw2, hn2, hnm, q1]
      refine ih (e', r4) _ ⟨h14, fun h => ?_⟩ ?_ (by simp (maxSteps := 4000000) (disch := first | (intros; contradiction) | omega) only [go_sem] <;> rfl)
      · obtain ⟨rfl, rfl⟩ := q3 h
        have := hgn h
        rw [next_i] at this
        exact ⟨okE_one (.inl rfl) ⟨n0, htn, t0⟩ k1, by simp only [cntE, cntEs]; omega⟩
      · simp only [hbd, Bool.false_eq_true, if_false]
        cases hb4 : r4.bad with
        | true => simp only [if_true]; omega
        | false =>
          obtain ⟨rfl, rfl⟩ := q3 hb4
          have := hgn hb4
          rw [next_i] at this
          have h4a := h14.ok.at_
          rw [h14.L] at h4a
          simp only [Bool.false_eq_true, if_false]
          omega
theorem rchainm_e (hx : T0 ext) (d : Nat) (hU : ReadsE ext 94 [.d (.int .i64 (d : Int))]) : ReadsE ext 91 [.d (.int .i64 (-1)), .d (.int .i64 (d : Int))] := by
  intro r hr
  obtain ⟨e, r1, p1, p2, p3⟩ := hU r hr
  refine ⟨e, r1, ?_, p2, p3⟩
  unfold Ex0.agg at p1 ⊢
  rw [G_body hx.clear rfl Tryd.func91 rfl Tryd.results91 hv_91 rfl]
  simp (maxSteps := 4000000) (disch := first | (intros; contradiction) | omega) only [go_sem, p1]
  done
set_option maxHeartbeats 4000000 in
theorem rchain0_e (hx : T0 ext) (d : Nat) (hd0 : d ≤ 200) (hC : ReadsE ext 91 [.d (.int .i64 (-1)), .d (.int .i64 (d : Int))]) : ReadsE ext 91 [.d (.int .i64 0), .d (.int .i64 (d : Int))] := by
  intro r hr
  have hdw : IntKind.wrap .i64 (-1) = (-1 : Int) := wrap64 (by omega) (by omega)
  have hfew := hr.few
  obtain ⟨e, r1, p1, p2, p3⟩ := hC r hr
  unfold Ex0.agg at p1 ⊢
  rw [G_body hx.clear rfl Tryd.func91 rfl Tryd.results91 hv_91 rfl]
  simp (maxSteps := 4000000) (disch := first | (intros; contradiction) | omega) only [go_sem, hdw, p1]
  generalize hL : loopA _ _ _ = L
  apply loop_upd hL (by simp (maxSteps := 4000000) (disch := first | (intros; contradiction) | omega) only [go_sem] <;> rfl) (fun x : Ex0 × Rd => Adv r x.2 ∧ (x.2.bad = false → okE x.1 ∧ r.i + cntE x.1 ≤ x.2.i)) (fun x => if x.2.bad then 0 else 1 + (r.L.length - x.2.i)) (fun x => []) (fun x => [(0, x.2.obj), (4, .cells [.d (.int .i64 x.1.kind), .d (.int .i64 x.1.n), .d (.str x.1.name), .d (.str x.1.op), .d (.sl (x.1.kids.map Ex0.row)), .d (.int .i64 x.1.pos.line), .d (.int .i64 x.1.pos.col)])]) (e, r1) (by simp (maxSteps := 4000000) (disch := first | (intros; contradiction) | omega) only [go_sem] <;> rfl) ⟨p2, p3⟩ ?_
  clear hL
  rintro ⟨e2, r2⟩ ⟨h1, h2⟩ next ih
  simp only at h1 h2 ih ⊢
  have hs := rany_e hx r2 h1.ok [[42], [47], [37]] (by decide)
  simp only [List.map_cons, List.map_nil] at hs
  cases hk : List.any [[42], [47], [37]] r2.is with
  | false =>
    rw [hk] at hs
    refine ⟨e2, r2, ?_, h1, h2⟩
    simp (maxSteps := 4000000) (disch := first | (intros; contradiction) | omega) only [go_sem, hs]
    done
  | true =>
    rw [hk] at hs
    have hbd := (any_is hk).2
    obtain ⟨k1, k2⟩ := h2 hbd
    have ha2 := adv_next h1.ok (any_is hk).1
    have ht2 := rtok_e hx r2 h1.ok
    unfold Tok.av at ht2
    have hn2 := rnext_obj r2
    have hw2 := rnext_wrap h1.ok
    obtain ⟨x, r3, c1, c2, c3⟩ := hC r2.next ha2.ok
    unfold Ex0.agg at c1
    have h3a := c2.ok.at_
    have h3f := c2.ok.few
    obtain ⟨e', r4, q1, q2, q3⟩ := rbuilt_x hx c2.ok 4 0 [] r2.tok.text [e2, x] r2.tok.pos.1 r2.tok.pos.2 (fun h => by have := (c3 h).2; rw [next_i] at this; simp only [cntEs]; omega)
    rw [two_row] at q1
    have h24 := ha2.trans (c2.trans q2)
    have h14 := h1.trans h24
    have hres : r4.bad = false → okE e' ∧ r.i + cntE e' ≤ r4.i := fun h => by
      obtain ⟨rfl, rfl⟩ := q3 h
      obtain ⟨a1, a2⟩ := c3 h
      rw [next_i] at a2
      exact ⟨okE_two ⟨n0, t0, (tok_tx h1.ok).1⟩ k1 a1, by simp only [cntE, cntEs]; omega⟩
    simp (maxSteps := 4000000) (disch := first | (intros; contradiction) | omega) only [go_sem, hs, ht2, hw2, hn2, hdw, c1, q1]
    refine ih (e', r4) _ ⟨h14, hres⟩ ?_ (by simp (maxSteps := 4000000) (disch := first | (intros; contradiction) | omega) only [go_sem] <;> rfl)
    simp only [hbd, Bool.false_eq_true, if_false]
    cases hb4 : r4.bad with
    | true => simp only [if_true]; omega
    | false =>
      obtain ⟨rfl, rfl⟩ := q3 hb4
      have := (c3 hb4).2
      rw [next_i] at this
      have h4a := h14.ok.at_
      rw [h14.L] at h4a
      simp only [Bool.false_eq_true, if_false]
      omega
set_option maxHeartbeats 4000000 in
theorem rchain1_e (hx : T0 ext) (d : Nat) (hd0 : d ≤ 200) (hC : ReadsE ext 91 [.d (.int .i64 (0)), .d (.int .i64 (d : Int))]) : ReadsE ext 91 [.d (.int .i64 1), .d (.int .i64 (d : Int))] := by
  intro r hr
  have hdw : IntKind.wrap .i64 (0) = (0 : Int) := wrap64 (by omega) (by omega)
  have hfew := hr.few
  obtain ⟨e, r1, p1, p2, p3⟩ := hC r hr
  unfold Ex0.agg at p1 ⊢
  rw [G_body hx.clear rfl Tryd.func91 rfl Tryd.results91 hv_91 rfl]
  simp (maxSteps := 4000000) (disch := first | (intros; contradiction) | omega) only [go_sem, hdw, p1]
  generalize hL : loopA _ _ _ = L
  apply loop_upd hL (by simp (maxSteps := 4000000) (disch := first | (intros; contradiction) | omega) only [go_sem] <;> rfl) (fun x : Ex0 × Rd => Adv r x.2 ∧ (x.2.bad = false → okE x.1 ∧ r.i + cntE x.1 ≤ x.2.i)) (fun x => if x.2.bad then 0 else 1 + (r.L.length - x.2.i)) (fun x => []) (fun x => [(0, x.2.obj), (4, .cells [.d (.int .i64 x.1.kind), .d (.int .i64 x.1.n), .d (.str x.1.name), .d (.str x.1.op), .d (.sl (x.1.kids.map Ex0.row)), .d (.int .i64 x.1.pos.line), .d (.int .i64 x.1.pos.col)])]) (e, r1) (by simp (maxSteps := 4000000) (disch := first | (intros; contradiction) | omega) only [go_sem] <;> rfl) ⟨p2, p3⟩ ?_
  clear hL
  rintro ⟨e2, r2⟩ ⟨h1, h2⟩ next ih
  simp only at h1 h2 ih ⊢
  have hs := rany_e hx r2 h1.ok [[43], [45]] (by decide)
  simp only [List.map_cons, List.map_nil] at hs
  cases hk : List.any [[43], [45]] r2.is with
  | false =>
    rw [hk] at hs
    refine ⟨e2, r2, ?_, h1, h2⟩
    simp (maxSteps := 4000000) (disch := first | (intros; contradiction) | omega) only [go_sem, hs]
    done
  | true =>
    rw [hk] at hs
    have hbd := (any_is hk).2
    obtain ⟨k1, k2⟩ := h2 hbd
    have ha2 := adv_next h1.ok (any_is hk).1
    have ht2 := rtok_e hx r2 h1.ok
    unfold Tok.av at ht2
    have hn2 := rnext_obj r2
    have hw2 := rnext_wrap h1.ok
    obtain ⟨x, r3, c1, c2, c3⟩ := hC r2.next ha2.ok
    unfold Ex0.agg at c1
    have h3a := c2.ok.at_
    have h3f := c2.ok.few
    obtain ⟨e', r4, q1, q2, q3⟩ := rbuilt_x hx c2.ok 4 0 [] r2.tok.text [e2, x] r2.tok.pos.1 r2.tok.pos.2 (fun h => by have := (c3 h).2; rw [next_i] at this; simp only [cntEs]; omega)
    rw [two_row] at q1
    have h24 := ha2.trans (c2.trans q2)
    have h14 := h1.trans h24
    have hres : r4.bad = false → okE e' ∧ r.i + cntE e' ≤ r4.i := fun h => by
      obtain ⟨rfl, rfl⟩ := q3 h
      obtain ⟨a1, a2⟩ := c3 h
      rw [next_i] at a2
      exact ⟨okE_two ⟨n0, t0, (tok_tx h1.ok).1⟩ k1 a1, by simp only [cntE, cntEs]; omega⟩
    simp (maxSteps := 4000000) (disch := first | (intros; contradiction) | omega) only [go_sem, hs, ht2, hw2, hn2, hdw, c1, q1]
    refine ih (e', r4) _ ⟨h14, hres⟩ ?_ (by simp (maxSteps := 4000000) (disch := first | (intros; contradiction) | omega) only [go_sem] <;> rfl)
    simp only [hbd, Bool.false_eq_true, if_false]
    cases hb4 : r4.bad with
    | true => simp only [if_true]; omega
    | false =>
      obtain ⟨rfl, rfl⟩ := q3 hb4
      have := (c3 hb4).2
      rw [next_i] at this
      have h4a := h14.ok.at_
      rw [h14.L] at h4a
      simp only [Bool.false_eq_true, if_false]
      omega
set_option maxHeartbeats 4000000 in
theorem rchain2_e (hx : T0 ext) (d : Nat) (hd0 : d ≤ 200) (hC : ReadsE ext 91 [.d (.int .i64 (1)), .d (.int .i64 (d : Int))]) : ReadsE ext 91 [.d (.int .i64 2), .d (.int .i64 (d : Int))] := by
  intro r hr
  have hdw : IntKind.wrap .i64 (1) = (1 : Int) := wrap64 (by omega) (by omega)
  have hfew := hr.few
  obtain ⟨e, r1, p1, p2, p3⟩ := hC r hr
  unfold Ex0.agg at p1 ⊢
  rw [G_body hx.clear rfl Tryd.func91 rfl Tryd.results91 hv_91 rfl]
  simp (maxSteps := 4000000) (disch := first | (intros; contradiction) | omega) only [go_sem, hdw, p1]
  generalize hL : loopA _ _ _ = L
  apply loop_upd hL (by simp (maxSteps := 4000000) (disch := first | (intros; contradiction) | omega) only [go_sem] <;> rfl) (fun x : Ex0 × Rd => Adv r x.2 ∧ (x.2.bad = false → okE x.1 ∧ r.i + cntE x.1 ≤ x.2.i)) (fun x => if x.2.bad then 0 else 1 + (r.L.length - x.2.i)) (fun x => []) (fun x => [(0, x.2.obj), (4, .cells [.d (.int .i64 x.1.kind), .d (.int .i64 x.1.n), .d (.str x.1.name), .d (.str x.1.op), .d (.sl (x.1.kids.map Ex0.row)), .d (.int .i64 x.1.pos.line), .d (.int .i64 x.1.pos.col)])]) (e, r1) (by simp (maxSteps := 4000000) (disch := first | (intros; contradiction) | omega) only [go_sem] <;> rfl) ⟨p2, p3⟩ ?_
  clear hL
  rintro ⟨e2, r2⟩ ⟨h1, h2⟩ next ih
  simp only at h1 h2 ih ⊢
  have hs := rany_e hx r2 h1.ok [[61, 61], [33, 61], [60], [60, 61], [62], [62, 61]] (by decide)
  simp only [List.map_cons, List.map_nil] at hs
  cases hk : List.any [[61, 61], [33, 61], [60], [60, 61], [62], [62, 61]] r2.is with
  | false =>
    rw [hk] at hs
    refine ⟨e2, r2, ?_, h1, h2⟩
    simp (maxSteps := 4000000) (disch := first | (intros; contradiction) | omega) only [go_sem, hs]
    done
  | true =>
    rw [hk] at hs
    have hbd := (any_is hk).2
    obtain ⟨k1, k2⟩ := h2 hbd
    have ha2 := adv_next h1.ok (any_is hk).1
    have ht2 := rtok_e hx r2 h1.ok
    unfold Tok.av at ht2
    have hn2 := rnext_obj r2
    have hw2 := rnext_wrap h1.ok
    obtain ⟨x, r3, c1, c2, c3⟩ := hC r2.next ha2.ok
    unfold Ex0.agg at c1
    have h3a := c2.ok.at_
    have h3f := c2.ok.few
    obtain ⟨e', r4, q1, q2, q3⟩ := rbuilt_x hx c2.ok 4 0 [] r2.tok.text [e2, x] r2.tok.pos.1 r2.tok.pos.2 (fun h => by have := (c3 h).2; rw [next_i] at this; simp only [cntEs]; omega)
    rw [two_row] at q1
    have h24 := ha2.trans (c2.trans q2)
    have h14 := h1.trans h24
    have hres : r4.bad = false → okE e' ∧ r.i + cntE e' ≤ r4.i := fun h => by
      obtain ⟨rfl, rfl⟩ := q3 h
      obtain ⟨a1, a2⟩ := c3 h
      rw [next_i] at a2
      exact ⟨okE_two ⟨n0, t0, (tok_tx h1.ok).1⟩ k1 a1, by simp only [cntE, cntEs]; omega⟩
    simp (maxSteps := 4000000) (disch := first | (intros; contradiction) | omega) only [go_sem, hs, ht2, hw2, hn2, hdw, c1, q1]
    exact ⟨e', r4, by rfl, h14, hres⟩
theorem rexpr1_e (hx : T0 ext) (d : Nat) (hC : ReadsE ext 91 [.d (.int .i64 2), .d (.int .i64 (d : Int))]) : ReadsE ext 87 [.d (.int .i64 (d : Int))] := by
  intro r hr
  obtain ⟨e, r1, p1, p2, p3⟩ := hC r hr
  refine ⟨e, r1, ?_, p2, p3⟩
  unfold Ex0.agg at p1 ⊢
  rw [G_body hx.clear rfl Tryd.func87 rfl Tryd.results87 hv_87 rfl]
  simp (maxSteps := 4000000) (disch := first | (intros; contradiction) | omega) only [go_sem, p1]
  done
/-- All of an expression's readers, at any depth. -/
theorem rexprs_e (hx : T0 ext) : ∀ (m d : Nat), d + m = 200 → ReadsE ext 87 [.d (.int .i64 (d : Int))] ∧ ReadsE ext 94 [.d (.int .i64 (d : Int))]
  | 0, d, h => by
    have hP := rprimary_e hx d (by omega) (fun h => by omega)
    have hU := runary_e hx d (by omega) (fun h => by omega) hP
    exact ⟨rexpr1_e hx d (rchain2_e hx d (by omega) (rchain1_e hx d (by omega) (rchain0_e hx d (by omega) (rchainm_e hx d hU)))), hU⟩
  | m + 1, d, h => by
    obtain ⟨i1, i2⟩ := rexprs_e hx m (d + 1) (by omega)
    have hP := rprimary_e hx d (by omega) (fun _ => i1)
    have hU := runary_e hx d (by omega) (fun _ => i2) hP
    exact ⟨rexpr1_e hx d (rchain2_e hx d (by omega) (rchain1_e hx d (by omega) (rchain0_e hx d (by omega) (rchainm_e hx d hU)))), hU⟩
theorem rexpr_e (hx : T0 ext) (d : Nat) (h : d ≤ 200) : ReadsE ext 87 [.d (.int .i64 (d : Int))] := (rexprs_e hx (200 - d) d (by omega)).1
end Go.Proofs.YtdpkdeimliohmaaDoor
namespace Go.Proofs.YtdpkdeimliohmaaDoor
open Go Go.Ab
variable {ext : Sem'}
def arS (k : Int) (n : Nat) : Prop := (k = 1 ∨ k = 2 ∨ k = 4 ∨ k = 5 ∨ k = 8 ∨ k = 10 ∨ k = 11 → n = 1) ∧ (k = 3 → n = 2) ∧ (k = 6 ∨ k = 7 ∨ k = 9 → n = 0) ∧ 1 ≤ k ∧ k ≤ 11
mutual
/-- Each statement has its parts. -/
def okS : St0 → Prop
  | .mk k t n e b l _ => (okT t.to ∧ okT n) ∧ arS k e.length ∧ okEs e ∧ (k = 5 → l = []) ∧ okSs b ∧ okSs l
def okSs : List St0 → Prop
  | [] => True
  | s :: l => okS s ∧ okSs l
end
mutual
/-- How many statements and expressions. -/
def sizS : St0 → Nat
  | .mk _ _ _ e b l _ => 1 + cntEs e + sizL b + sizL l
def sizL : List St0 → Nat
  | [] => 0
  | s :: l => sizS s + sizL l
end
theorem okS_eq (s : St0) : okS s = ((okT s.t.to ∧ okT s.name) ∧ arS s.kind s.e.length ∧ okEs s.e ∧ (s.kind = 5 → s.els = []) ∧ okSs s.body ∧ okSs s.els) := by cases s; rfl
theorem sizS_eq (s : St0) : sizS s = 1 + cntEs s.e + sizL s.body + sizL s.els := by cases s; rfl
theorem sizL_append : ∀ (a b : List St0), sizL (a ++ b) = sizL a + sizL b
  | [], b => by simp [sizL]
  | e :: a, b => by simp only [List.cons_append, sizL, sizL_append a b]; omega
theorem okSs_append : ∀ {a b : List St0}, okSs a → okSs b → okSs (a ++ b)
  | [], b, _, h => h
  | e :: a, b, h, h' => ⟨h.1, okSs_append h.2 h'⟩
theorem okSs_mem : ∀ {l : List St0} {e : St0}, okSs l → e ∈ l → okS e
  | [], _, _, h => by cases h
  | x :: l, e, h, he => by
    rcases List.mem_cons.1 he with rfl | he
    · exact h.1
    · exact okSs_mem h.2 he
theorem sizL_mem : ∀ {l : List St0} {e : St0}, e ∈ l → sizS e ≤ sizL l
  | [], _, h => by cases h
  | x :: l, e, h => by
    simp only [sizL]
    rcases List.mem_cons.1 h with rfl | h
    · omega
    · have := sizL_mem h; omega
theorem sizL_len : ∀ l : List St0, l.length ≤ sizL l
  | [] => Nat.le_refl _
  | x :: l => by
    have := sizL_len l
    have := sizS_eq x
    simp only [sizL, List.length_cons]; omega
mutual
theorem cntS_siz : ∀ s : St0, cntS s ≤ sizS s
  | .mk _ _ _ e b l _ => by have := cntL_siz b; have := cntL_siz l; simp only [cntS, sizS]; omega
theorem cntL_siz : ∀ l : List St0, cntL l ≤ sizL l
  | [] => Nat.le_refl _
  | s :: l => by have := cntS_siz s; have := cntL_siz l; simp only [cntL, sizL]; omega
end
/-- A function that reads a statement. -/
def ReadsS (ext : Sem') (f : Nat) (xs : Rd → List AV) (C : Rd → Prop) (c : Nat) : Prop := ∀ r : Rd, r.ok → C r → ∃ (s : St0) (r' : Rd), G ext f (.ptr 0 0 :: xs r) [r.obj] = some (.ret s.agg, [r'.obj]) ∧ Adv r r' ∧ (r'.bad = false → okS s ∧ r.i + sizS s + c ≤ r'.i)
def ReadsSs (ext : Sem') (f : Nat) (xs : List AV) (c : Nat) : Prop := ∀ r : Rd, r.ok → ∃ (l : List St0) (r' : Rd), G ext f (.ptr 0 0 :: xs) [r.obj] = some (.ret (.d (.sl (l.map St0.row))), [r'.obj]) ∧ Adv r r' ∧ (r'.bad = false → okSs l ∧ r.i + sizL l + c ≤ r'.i)
def s0A (r : Rd) : AV := .agg [.d (.int .i64 0), .d (.bool false), .d (.str []), .d (.str []), .d (.sl []), .d (.sl []), .d (.sl []), .d (.int .i64 r.tok.pos.1), .d (.int .i64 r.tok.pos.2)]
theorem rtyp_e (hx : T0 ext) (r : Rd) (hr : r.ok) : ∃ (t : Tp) (r' : Rd), G ext 59 [.ptr 0 0] [r.obj] = some (.ret t.av, [r'.obj]) ∧ Adv r r' ∧ (r'.bad = false → r.i + 1 ≤ r'.i) ∧ okT t.to := by
  have hs := ris_e hx r hr [105, 110, 116]
  have hn := rnext_obj r
  have hw := rnext_wrap hr
  unfold Tp.av
  cases hk : r.is [105, 110, 116] with
  | true =>
    rw [hk] at hs
    refine ⟨⟨false, []⟩, r.next, ?_, adv_is hr hk, fun _ => by rw [next_i]; omega, t0⟩
    rw [G_body hx.clear rfl Tryd.func59 rfl Tryd.results59 hv_59 rfl]
    simp (maxSteps := 4000000) (disch := first | (intros; contradiction) | omega) only [go_sem, hs, hw, hn]
    done
  | false =>
    rw [hk] at hs
    have hnm := rname_e hx r hr
    have han := adv_name hr
    have hgn := @name_good r
    have htn := name_tx hr
    generalize r.name = nm at hnm han hgn htn
    obtain ⟨nm1, nm2, r2⟩ := nm
    simp only at hnm han hgn htn
    have he := reat_e hx r2 han.ok [42]
    have ha := adv_eat han.ok [42]
    refine ⟨⟨true, nm1⟩, r2.eat [42], ?_, han.trans ha, fun h => ?_, htn⟩
    · generalize r2.eat [42] = r3 at he
      rw [G_body hx.clear rfl Tryd.func59 rfl Tryd.results59 hv_59 rfl]
      simp (maxSteps := 4000000) (disch := first | (intros; contradiction) | omega) only [go_sem, hs, hnm, he]
      done
    · have := hgn (ha.good h)
      have := (eat_good h).1
      omega
/-- How far a statement that begins with a name has been read: no arrow; one; more. -/
inductive NPh where
  | a
  | b (n : Str) (p q : Int)
  | c (n : Str) (e : Ex0) (p q : Int)
def leafN (t : Tok) : Ex0 := .mk 2 0 t.text [] [] ⟨t.pos.1, t.pos.2⟩
def NPh.ex (t : Tok) : NPh → Ex0
  | .a => leafN t
  | .b _ _ _ => leafN t
  | .c _ e _ _ => e
def NPh.nm : NPh → Str
  | .a => []
  | .b n _ _ => n
  | .c n _ _ _ => n
def NPh.st : NPh → Nat
  | .a => 0
  | _ => 1
def s3O (t : Tok) (n : Str) : AObj := .cells [.d (.int .i64 3), .d (.bool false), .d (.str []), .d (.str n), .d (.sl []), .d (.sl []), .d (.sl []), .d (.int .i64 t.pos.1), .d (.int .i64 t.pos.2)]
def NPh.W (t : Tok) : NPh → List (Nat × AObj)
  | .a => []
  | .b n p q => [(1, s3O t n), (9, .cells [.d (.int .i64 p), .d (.int .i64 q)])]
  | .c n e p q => [(1, s3O t n), (7, .cells [.d (.int .i64 e.kind), .d (.int .i64 e.n), .d (.str e.name), .d (.str e.op), .d (.sl (e.kids.map Ex0.row)), .d (.int .i64 e.pos.line), .d (.int .i64 e.pos.col)]), (9, .cells [.d (.int .i64 p), .d (.int .i64 q)])]
theorem nph_a (t : Tok) : NPh.W t .a = [] := rfl
theorem nph_b (t : Tok) (n : Str) (p q : Int) : NPh.W t (.b n p q) = [(1, s3O t n), (9, .cells [.d (.int .i64 p), .d (.int .i64 q)])] := rfl
theorem nph_c (t : Tok) (n : Str) (e : Ex0) (p q : Int) : NPh.W t (.c n e p q) = [(1, s3O t n), (7, .cells [.d (.int .i64 e.kind), .d (.int .i64 e.n), .d (.str e.name), .d (.str e.op), .d (.sl (e.kids.map Ex0.row)), .d (.int .i64 e.pos.line), .d (.int .i64 e.pos.col)]), (9, .cells [.d (.int .i64 p), .d (.int .i64 q)])] := rfl
theorem s3O_eq (t : Tok) (n : Str) : s3O t n = .cells [.d (.int .i64 3), .d (.bool false), .d (.str []), .d (.str n), .d (.sl []), .d (.sl []), .d (.sl []), .d (.int .i64 t.pos.1), .d (.int .i64 t.pos.2)] := rfl
theorem okS_set {n : Str} {x : Ex0} {p : Po} (hn : okT n) (hx : okE x) : okS (.mk 2 ⟨false, []⟩ n [x] [] [] p) := ⟨⟨t0, hn⟩, ⟨fun _ => rfl, fun h => by omega, fun h => by omega, by omega⟩, ⟨hx, trivial⟩, fun h => by omega, trivial, trivial⟩
theorem okS_put {n : Str} {e x : Ex0} {p : Po} (hn : okT n) (he : okE e) (hx : okE x) : okS (.mk 3 ⟨false, []⟩ n [e, x] [] [] p) := ⟨⟨t0, hn⟩, ⟨fun h => by omega, fun _ => rfl, fun h => by omega, by omega⟩, ⟨he, hx, trivial⟩, fun h => by omega, trivial, trivial⟩
set_option maxHeartbeats 4000000 in
theorem rnamed_e (hx : T0 ext) (d : Nat) (hd0 : d ≤ 200) : ReadsS ext 88 (fun r => [s0A r, .d (.int .i64 (d : Int))]) (fun r => r.tok.kind = 1) 0 := by
  intro r hr k1
  have hE := rexpr_e hx d hd0
  have hA := rargs_e hx d hd0 (fun h => rexpr_e hx (d + 1) h)
  have ht := rtok_e hx r hr
  unfold Tok.av at ht
  have hn := rnext_obj r
  have hw := rnext_wrap hr
  have ha := adv_next hr (by rw [k1]; decide)
  have hs := ris_e hx r.next ha.ok [40]
  unfold s0A
  cases hk : r.next.is [40] with
  | true =>
    rw [hk] at hs
    obtain ⟨l, r2, p1, p2, p3⟩ := hA r.next ha.ok
    have h2a := p2.ok.at_
    have h2f := p2.ok.few
    obtain ⟨e', r', q1, q2, q3⟩ := rbuilt_x hx p2.ok 9 0 r.tok.text [] l r.tok.pos.1 r.tok.pos.2 (fun h => by have := (p3 h).2; omega)
    refine ⟨.mk 11 ⟨false, []⟩ [] [e'] [] [] ⟨r.tok.pos.1, r.tok.pos.2⟩, r', ?_, ha.trans (p2.trans q2), fun h => ?_⟩
    · unfold St0.agg
      simp only [St0.kind, St0.t, St0.name, St0.e, St0.body, St0.els, St0.pos, one_row, List.map_nil]
      rw [G_body hx.clear rfl Tryd.func88 rfl Tryd.results88 hv_88 rfl]
      simp (maxSteps := 4000000) (disch := first | (intros; contradiction) | omega) only [go_sem, ht, hw, hn, hs, p1, q1]
      done
    · obtain ⟨rfl, rfl⟩ := q3 h
      obtain ⟨a1, a2⟩ := p3 h
      rw [next_i] at a2
      exact ⟨⟨⟨t0, t0⟩, ⟨fun _ => rfl, fun h => by omega, fun h => by omega, by omega⟩, ⟨okE_call (by decide) ⟨n0, (tok_tx hr).1, t0⟩ a1, trivial⟩, fun h => by omega, trivial, trivial⟩, by simp only [sizS, cntEs, cntE, sizL]; omega⟩
  | false =>
    rw [hk] at hs
    rw [G_body hx.clear rfl Tryd.func88 rfl Tryd.results88 hv_88 rfl]
    simp (maxSteps := 4000000) (disch := first | (intros; contradiction) | omega) only [go_sem, ht, hw, hn, hs]
    generalize hL : loopA _ _ _ = L
    have hbn := next_bad r
    apply loop_upd hL (by simp (maxSteps := 4000000) (disch := first | (intros; contradiction) | omega) only [go_sem] <;> rfl) (fun x : NPh × Rd => Adv r.next x.2 ∧ (x.2.bad = false → (okE (x.1.ex r.tok) ∧ okT x.1.nm) ∧ r.i + cntE (x.1.ex r.tok) + x.1.st ≤ x.2.i)) (fun x => if x.2.bad then 0 else 1 + (r.L.length - x.2.i)) (fun x => [(10, .any), (11, .any)]) (fun x => (0, x.2.obj) :: x.1.W r.tok) (.a, r.next) (by simp (maxSteps := 4000000) (disch := first | (intros; contradiction) | omega) only [go_sem] <;> rfl) ⟨Adv.refl ha.ok, fun _ => ⟨⟨okE_leaf (by decide) ⟨n0, (tok_tx hr).1, t0⟩, t0⟩, by simp only [NPh.ex, leafN, cntE, cntEs, NPh.st, next_i]; omega⟩⟩ ?_
    clear hL
    rintro ⟨ph, r2⟩ ⟨h1, h2⟩ next ih
    simp only at h1 h2 ih ⊢
    have hL2 : r2.L = r.L := h1.L
    have hs2 := ris_e hx r2 h1.ok [45, 62]
    cases hk2 : r2.is [45, 62] with
    | false =>
      rw [hk2] at hs2
      have he := reat_e hx r2 h1.ok [61]
      have ae := adv_eat h1.ok [61]
      obtain ⟨x, r3, p1, p2, p3⟩ := hE (r2.eat [61]) ae.ok
      unfold Ex0.agg at p1
      have hall := ha.trans (h1.trans (ae.trans p2))
      have hfin : r3.bad = false → (okE (ph.ex r.tok) ∧ okT ph.nm) ∧ okE x ∧ r.i + cntE (ph.ex r.tok) + cntE x + ph.st + 1 ≤ r3.i := fun h => by
        obtain ⟨a1, a2⟩ := p3 h
        have hg := p2.good h
        have := (eat_good hg).1
        obtain ⟨b1, b2⟩ := h2 (ae.good hg)
        exact ⟨b1, a1, by omega⟩
      cases ph with
      | a =>
        refine ⟨.mk 2 ⟨false, []⟩ r.tok.text [x] [] [] ⟨r.tok.pos.1, r.tok.pos.2⟩, r3, ?_, hall, fun h => ?_⟩
        · generalize r2.eat [61] = r4 at he p1
          unfold St0.agg
          simp only [St0.kind, St0.t, St0.name, St0.e, St0.body, St0.els, St0.pos, one_row, List.map_nil]
          simp (maxSteps := 4000000) (disch := first | (intros; contradiction) | omega) only [go_sem, nph_a, hs2, he, p1]
          done
        · obtain ⟨b1, b2, b3⟩ := hfin h
          exact ⟨okS_set (tok_tx hr).1 b2, by simp only [sizS, cntEs, sizL, NPh.ex, leafN, cntE, NPh.st] at *; omega⟩
      | b n p q =>
        refine ⟨.mk 3 ⟨false, []⟩ n [leafN r.tok, x] [] [] ⟨r.tok.pos.1, r.tok.pos.2⟩, r3, ?_, hall, fun h => ?_⟩
        · generalize r2.eat [61] = r4 at he p1
          unfold St0.agg
          simp only [St0.kind, St0.t, St0.name, St0.e, St0.body, St0.els, St0.pos, two_row, List.map_nil, leafN, Ex0.kind, Ex0.n, Ex0.name, Ex0.op, Ex0.kids, Ex0.pos]
          simp (maxSteps := 4000000) (disch := first | (intros; contradiction) | omega) only [go_sem, nph_b, s3O_eq, hs2, he, p1]
          rfl
        · obtain ⟨b1, b2, b3⟩ := hfin h
          exact ⟨okS_put b1.2 b1.1 b2, by simp only [sizS, cntEs, sizL, NPh.ex, NPh.st] at *; omega⟩
      | c n e p q =>
        refine ⟨.mk 3 ⟨false, []⟩ n [e, x] [] [] ⟨r.tok.pos.1, r.tok.pos.2⟩, r3, ?_, hall, fun h => ?_⟩
        · generalize r2.eat [61] = r4 at he p1
          unfold St0.agg
          simp only [St0.kind, St0.t, St0.name, St0.e, St0.body, St0.els, St0.pos, two_row, List.map_nil]
          simp (maxSteps := 4000000) (disch := first | (intros; contradiction) | omega) only [go_sem, nph_c, s3O_eq, hs2, he, p1]
          done
        · obtain ⟨b1, b2, b3⟩ := hfin h
          exact ⟨okS_put b1.2 b1.1 b2, by simp only [sizS, cntEs, sizL, NPh.ex, NPh.st] at *; omega⟩
    | true =>
      rw [hk2] at hs2
      have hbd := (is_kind hk2).2
      obtain ⟨k2, k3⟩ := h2 hbd
      have ha2 := adv_is h1.ok hk2
      have ht2 := rtok_e hx r2 h1.ok
      unfold Tok.av at ht2
      have hn2 := rnext_obj r2
      have hw2 := rnext_wrap h1.ok
      have hnm := rname_e hx r2.next ha2.ok
      have han := adv_name ha2.ok
      have hgn := @name_good r2.next
      have htn := name_tx ha2.ok
      generalize r2.next.name = nm at hnm han hgn htn
      obtain ⟨nm1, nm2, r3⟩ := nm
      simp only at hnm han hgn htn
      have h3a := han.ok.at_
      have h3f := han.ok.few
      have h23 := ha2.trans han
      have h13 := h1.trans h23
      have hms : ∀ (q : NPh) (r4 : Rd), Adv r3 r4 → (r4.bad = false → r2.i + 2 ≤ r4.i) → (if r4.bad = true then 0 else 1 + (r.L.length - r4.i)) < (if r2.bad = true then 0 else 1 + (r.L.length - r2.i)) := fun q r4 h34 hi => by
        simp only [hbd, Bool.false_eq_true, if_false]
        cases hb4 : r4.bad with
        | true => simp only [if_true]; omega
        | false =>
          have := hi hb4
          have h4a := h34.ok.at_
          rw [(h13.trans h34).L, next_L] at h4a
          simp only [Bool.false_eq_true, if_false]
          omega
      have hg3 : r3.bad = false → r3.i = r2.i + 2 := fun h => by have := hgn h; rw [next_i] at this; omega
      cases ph with
      | a =>
        simp (maxSteps := 4000000) (disch := first | (intros; contradiction) | omega) only [go_sem, nph_a, hs2, ht2, hw2, hn2, hnm]
        exact ih (.b nm1 r2.tok.pos.1 r2.tok.pos.2, r3) _ ⟨h13, fun h => ⟨⟨okE_leaf (by decide) ⟨n0, (tok_tx hr).1, t0⟩, htn⟩, by have := hg3 h; simp only [NPh.ex, NPh.st] at *; omega⟩⟩ (hms .a r3 (Adv.refl han.ok) (fun h => by have := hg3 h; omega)) (by simp (maxSteps := 4000000) (disch := first | (intros; contradiction) | omega) only [go_sem, nph_b, s3O_eq] <;> rfl)
      | b n p q =>
        obtain ⟨e', r4, q1, q2, q3⟩ := rbuilt_x hx han.ok 3 0 n [] [leafN r.tok] p q (fun h => by have := hg3 h; simp only [cntEs, leafN, cntE, NPh.ex] at *; omega)
        simp only [one_row, List.map_nil, leafN, Ex0.kind, Ex0.n, Ex0.name, Ex0.op, Ex0.kids, Ex0.pos] at q1
        simp (maxSteps := 4000000) (disch := first | (intros; contradiction) | omega) only [go_sem, nph_b, s3O_eq, hs2, ht2, hw2, hn2, hnm, q1]
        refine ih (.c nm1 e' r2.tok.pos.1 r2.tok.pos.2, r4) _ ⟨h13.trans q2, fun h => ?_⟩ (hms .a r4 q2 (fun h => by obtain ⟨_, rfl⟩ := q3 h; have := hg3 h; omega)) (by simp (maxSteps := 4000000) (disch := first | (intros; contradiction) | omega) only [go_sem, nph_c, s3O_eq] <;> rfl)
        obtain ⟨rfl, rfl⟩ := q3 h
        have := hg3 h
        exact ⟨⟨okE_one (.inl rfl) ⟨n0, k2.2, t0⟩ (okE_leaf (by decide) ⟨n0, (tok_tx hr).1, t0⟩), htn⟩, by simp only [NPh.ex, NPh.st, cntE, cntEs, leafN] at *; omega⟩
      | c n e p q =>
        obtain ⟨e', r4, q1, q2, q3⟩ := rbuilt_x hx han.ok 3 0 n [] [e] p q (fun h => by have := hg3 h; simp only [cntEs, NPh.ex] at *; omega)
        simp only [one_row] at q1
        simp (maxSteps := 4000000) (disch := first | (intros; contradiction) | omega) only [go_sem, nph_c, s3O_eq, hs2, ht2, hw2, hn2, hnm, q1]
        refine ih (.c nm1 e' r2.tok.pos.1 r2.tok.pos.2, r4) _ ⟨h13.trans q2, fun h => ?_⟩ (hms .a r4 q2 (fun h => by obtain ⟨_, rfl⟩ := q3 h; have := hg3 h; omega)) (by simp (maxSteps := 4000000) (disch := first | (intros; contradiction) | omega) only [go_sem, nph_c, s3O_eq] <;> rfl)
        obtain ⟨rfl, rfl⟩ := q3 h
        have := hg3 h
        exact ⟨⟨okE_one (.inl rfl) ⟨n0, k2.2, t0⟩ k2.1, htn⟩, by simp only [NPh.ex, NPh.st, cntE, cntEs] at *; omega⟩
end Go.Proofs.YtdpkdeimliohmaaDoor
namespace Go.Proofs.YtdpkdeimliohmaaDoor
open Go Go.Ab
variable {ext : Sem'}
theorem is_text {r : Rd} {s : Str} (h : r.is s = true) : r.tok.text = s := by
  unfold Rd.is at h
  simp only [Bool.and_eq_true, decide_eq_true_eq] at h
  exact h.2
theorem sts_snoc (l : List St0) (e : St0) : (l ++ [e]).map St0.row = l.map St0.row ++ [[.int .i64 e.kind, .bool e.t.ptr, .str e.t.to, .str e.name, .sl (e.e.map Ex0.row), .sl (e.body.map St0.row), .sl (e.els.map St0.row), .int .i64 e.pos.line, .int .i64 e.pos.col]] := by
  rw [List.map_append, List.map_cons, List.map_nil, St0.row_eq]
def words7 : List Str := [[105, 102], [119, 104, 105, 108, 101], [98, 114, 101, 97, 107], [99, 111, 110, 116, 105, 110, 117, 101], [114, 101, 116, 117, 114, 110], [102, 114, 101, 101], [112, 117, 116]]
set_option maxHeartbeats 2000000 in
theorem rblock_e (hx : T0 ext) (d : Nat) (hd0 : d ≤ 200) (hS : d + 1 ≤ 200 → ReadsS ext 73 (fun _ => [.d (.int .i64 ((d + 1 : Nat) : Int))]) (fun _ => True) 0) : ReadsSs ext 60 [.d (.int .i64 (d : Int))] 2 := by
  intro r hr
  have hi := ris_e hx r hr [123]
  have hdw : IntKind.wrap .i64 ((d : Int) + 1) = ((d + 1 : Nat) : Int) := by rw [wrap64 (by omega) (by omega)]; omega
  cases hk : r.is [123] with
  | false =>
    rw [hk] at hi
    have ht := rtok_e hx r hr
    unfold Tok.av at ht
    have hf := rfail_e hx r 3 r.tok.pos
    have hb : (r.fail 3 r.tok.pos).bad = true := fail_bad (by decide)
    have ha := adv_fail hr 3 (by decide) r.tok.pos
    have hl := rlevel_e hx (r.fail 3 r.tok.pos) ha.ok ((d + 1 : Nat) : Int)
    have hlv : ((r.fail 3 r.tok.pos).level ((d + 1 : Nat) : Int)).1 = false := by
      cases h : ((r.fail 3 r.tok.pos).level ((d + 1 : Nat) : Int)).1 with
      | false => rfl
      | true => have := (level_true h).2.1; rw [hb] at this; cases this
    rw [hlv] at hl
    have ha2 := adv_level ha.ok ((d + 1 : Nat) : Int)
    refine ⟨[], ((r.fail 3 r.tok.pos).level ((d + 1 : Nat) : Int)).2, ?_, ha.trans ha2, fun h => ?_⟩
    · generalize ((r.fail 3 r.tok.pos).level ((d + 1 : Nat) : Int)).2 = r2 at hl
      generalize r.fail 3 r.tok.pos = r1 at hf hl
      rw [G_body hx.clear rfl Tryd.func60 rfl Tryd.results60 hv_60 rfl]
      simp (maxSteps := 4000000) (disch := first | (intros; contradiction) | omega) only [go_sem, hi, ht, hf, hl, hdw]
      done
    · rw [level_false hlv] at h; cases h
  | true =>
    rw [hk] at hi
    have hl := rlevel_e hx r hr ((d + 1 : Nat) : Int)
    cases hlv : (r.level ((d + 1 : Nat) : Int)).1 with
    | false =>
      rw [hlv] at hl
      refine ⟨[], (r.level ((d + 1 : Nat) : Int)).2, ?_, adv_level hr _, fun h => ?_⟩
      · generalize (r.level ((d + 1 : Nat) : Int)).2 = r2 at hl
        rw [G_body hx.clear rfl Tryd.func60 rfl Tryd.results60 hv_60 rfl]
        simp (maxSteps := 4000000) (disch := first | (intros; contradiction) | omega) only [go_sem, hi, hl, hdw]
        done
      · rw [level_false hlv] at h; cases h
    | true =>
      obtain ⟨e1, e2, e3⟩ := level_true hlv
      rw [e1] at hl
      have hE' := hS (by omega)
      have hn := rnext_obj r
      have hw := rnext_wrap hr
      have ha := adv_is hr hk
      have hnb : r.next.bad = false := e2
      have hni : r.next.i = r.i + 1 := rfl
      rw [G_body hx.clear rfl Tryd.func60 rfl Tryd.results60 hv_60 rfl]
      simp (maxSteps := 4000000) (disch := first | (intros; contradiction) | omega) only [go_sem, hi, hl, hdw, hw, hn]
      generalize r.next = r1 at ha hnb hni ⊢
      generalize hL : loopA _ _ _ = L
      apply loop_upd hL (by simp (maxSteps := 4000000) (disch := first | (intros; contradiction) | omega) only [go_sem] <;> rfl) (fun x : List St0 × Rd × Nat => Adv r1 x.2.1 ∧ (x.2.1.bad = false → okSs x.1 ∧ r1.i + sizL x.1 ≤ x.2.1.i)) (fun x => if x.2.1.bad then 0 else 1 + (r1.L.length - x.2.1.i)) (fun x => [(5, .grow 2 x.2.2 (x.1.map St0.row))]) (fun x => [(0, x.2.1.obj), (2, .grow x.2.2 9)]) ([], r1, 0) (by simp (maxSteps := 4000000) (disch := first | (intros; contradiction) | omega) only [go_sem] <;> rfl) ⟨Adv.refl ha.ok, fun _ => ⟨trivial, Nat.le_refl _⟩⟩ ?_
      clear hL
      rintro ⟨l, r2, k⟩ ⟨h1, h2⟩ next ih
      simp only at h1 h2 ih ⊢
      have h41 := ris_e hx r2 h1.ok [125]
      have he41 := reat_e hx r2 h1.ok [125]
      have hll : (l.map St0.row).length = l.length := List.length_map _
      cases hk2 : r2.is [125] with
      | true =>
        rw [hk2] at h41
        have e4 : r2.eat [125] = r2.next := by unfold Rd.eat; rw [if_pos hk2]
        rw [e4] at he41
        refine ⟨l, r2.next, ?_, ha.trans (h1.trans (adv_is h1.ok hk2)), fun h => ?_⟩
        · simp (maxSteps := 4000000) (disch := first | (intros; contradiction) | omega) only [go_sem, h41, he41]
          done
        · obtain ⟨k1, k2⟩ := h2 h
          exact ⟨k1, by show r.i + sizL l + 2 ≤ r2.i + 1; omega⟩
      | false =>
        rw [hk2] at h41
        have hb2 := rbad_e hx r2
        cases hbd : r2.bad with
        | true =>
          rw [hbd] at hb2
          refine ⟨l, r2.eat [125], ?_, ha.trans (h1.trans (adv_eat h1.ok _)), fun h => ?_⟩
          · generalize r2.eat [125] = r3 at he41
            simp (maxSteps := 4000000) (disch := first | (intros; contradiction) | omega) only [go_sem, h41, he41, hb2]
            done
          · rw [(adv_eat h1.ok _).bad hbd] at h; cases h
        | false =>
          rw [hbd] at hb2
          obtain ⟨k1, k2⟩ := h2 hbd
          have hlen := sizL_len l
          have h2a := h1.ok.at_
          have h2f := h1.ok.few
          have hroom : ∀ b : Nat, b ≤ 1000 → room (l.length + 1) b := fun b hb => room_few (by omega) hb
          obtain ⟨e, r4, q1, q2, q3⟩ := hE' r2 h1.ok trivial
          have h14 := h1.trans q2
          unfold St0.agg at q1
          have hs := sts_snoc l e
          simp (maxSteps := 4000000) (disch := first | (intros; contradiction) | omega) only [go_sem, h41, hb2, q1, hdw, hll, hroom]
          refine ih (l ++ [e], r4, k + 1) _ ⟨h14, fun h => ?_⟩ ?_ (by simp (maxSteps := 4000000) (disch := first | (intros; contradiction) | omega) only [go_sem, hs] <;> rfl)
          · obtain ⟨a1, a2⟩ := q3 h
            exact ⟨okSs_append k1 ⟨a1, trivial⟩, by rw [sizL_append]; simp only [sizL]; omega⟩
          · simp only [hbd, Bool.false_eq_true, if_false]
            cases hb4 : r4.bad with
            | true => simp only [if_true]; omega
            | false =>
              obtain ⟨a1, a2⟩ := q3 hb4
              have := sizS_eq e
              have h4a := q2.ok.at_
              rw [h14.L] at h4a
              simp only [Bool.false_eq_true, if_false]
              omega
theorem okS_leaf {k : Int} {n : Str} {p : Po} (hn : okT n) (h : k = 6 ∨ k = 7 ∨ k = 9) : okS (.mk k ⟨false, []⟩ n [] [] [] p) := ⟨⟨t0, hn⟩, ⟨fun h => by omega, fun h => by omega, fun _ => rfl, by omega⟩, trivial, fun h => by omega, trivial, trivial⟩
theorem okS_one {k : Int} {n : Str} {p : Po} {x : Ex0} {t : Tp} (ht : okT t.to) (hn : okT n) (h : k = 1 ∨ k = 8 ∨ k = 10) (hx : okE x) : okS (.mk k t n [x] [] [] p) := ⟨⟨ht, hn⟩, ⟨fun _ => rfl, fun h => by omega, fun h => by omega, by omega⟩, ⟨hx, trivial⟩, fun h => by omega, trivial, trivial⟩
theorem okS_ctl {k : Int} {n : Str} {p : Po} {x : Ex0} {b l : List St0} (hn : okT n) (h : k = 4 ∨ k = 5) (hx : okE x) (hb : okSs b) (hl : okSs l) (h5 : k = 5 → l = []) : okS (.mk k ⟨false, []⟩ n [x] b l p) := ⟨⟨t0, hn⟩, ⟨fun _ => rfl, fun h => by omega, fun h => by omega, by omega⟩, ⟨hx, trivial⟩, h5, hb, hl⟩
set_option maxHeartbeats 4000000 in
theorem rsimple_e (hx : T0 ext) (d : Nat) (hd0 : d ≤ 200) (hB : ReadsSs ext 60 [.d (.int .i64 (d : Int))] 2) : ReadsS ext 85 (fun r => [s0A r, .d (.int .i64 (d : Int))]) (fun r => words7.any r.is = true) 0 := by
  intro r hr hany
  have hE := rexpr_e hx d hd0
  have ht := rtok_e hx r hr
  unfold Tok.av at ht
  have hn := rnext_obj r
  have hw := rnext_wrap hr
  have ha := adv_next hr (any_is hany).1
  have hni := next_i r
  obtain ⟨w, hmem, his⟩ := List.any_eq_true.1 hany
  have htx := is_text his
  unfold s0A
  have hctl : ∃ (x : Ex0) (b : List St0) (r1 r2 r3 r4 : Rd), G ext 57 [.ptr 0 0, .d (.str [40])] [r.next.obj] = some (.ret (.tuple []), [r1.obj]) ∧ G ext 87 [.ptr 0 0, .d (.int .i64 (d : Int))] [r1.obj] = some (.ret x.agg, [r2.obj]) ∧ G ext 57 [.ptr 0 0, .d (.str [41])] [r2.obj] = some (.ret (.tuple []), [r3.obj]) ∧ G ext 60 [.ptr 0 0, .d (.int .i64 (d : Int))] [r3.obj] = some (.ret (.d (.sl (b.map St0.row))), [r4.obj]) ∧ Adv r r4 ∧ (r4.bad = false → okE x ∧ okSs b ∧ r.i + cntE x + sizL b + 5 ≤ r4.i) := by
    have e40 := reat_e hx r.next ha.ok [40]
    have a40 := adv_eat ha.ok [40]
    obtain ⟨x, r2, p1, p2, p3⟩ := hE (r.next.eat [40]) a40.ok
    have e41 := reat_e hx r2 p2.ok [41]
    have a41 := adv_eat p2.ok [41]
    obtain ⟨b, r4, q1, q2, q3⟩ := hB (r2.eat [41]) a41.ok
    refine ⟨x, b, r.next.eat [40], r2, r2.eat [41], r4, e40, p1, e41, q1, ha.trans (a40.trans (p2.trans (a41.trans q2))), fun h => ?_⟩
    have g3 := q2.good h
    have g2 := a41.good g3
    have g1 := p2.good g2
    have := (eat_good g3).1
    have := (eat_good g1).1
    obtain ⟨c1, c2⟩ := q3 h
    obtain ⟨d1, d2⟩ := p3 g2
    exact ⟨d1, c1, by omega⟩
  simp only [words7, List.mem_cons, List.mem_nil_iff, or_false] at hmem
  rcases hmem with rfl | rfl | rfl | rfl | rfl | rfl | rfl
  · have tt := eq_true htx
    have n1 : ¬ r.tok.text = [119, 104, 105, 108, 101] := by rw [htx]; decide
    have n2 : ¬ r.tok.text = [98, 114, 101, 97, 107] := by rw [htx]; decide
    have n3 : ¬ r.tok.text = [99, 111, 110, 116, 105, 110, 117, 101] := by rw [htx]; decide
    have n4 : ¬ r.tok.text = [114, 101, 116, 117, 114, 110] := by rw [htx]; decide
    have n5 : ¬ r.tok.text = [102, 114, 101, 101] := by rw [htx]; decide
    have n6 : ¬ r.tok.text = [112, 117, 116] := by rw [htx]; decide
    obtain ⟨x, b, r1, r2, r3, r4, f1, f2, f3, f4, f5, f6⟩ := hctl
    unfold Ex0.agg at f2
    have hel := ris_e hx r4 f5.ok [101, 108, 115, 101]
    cases hke : r4.is [101, 108, 115, 101] with
    | false =>
      rw [hke] at hel
      refine ⟨.mk 4 ⟨false, []⟩ [] [x] b [] ⟨r.tok.pos.1, r.tok.pos.2⟩, r4, ?_, f5, fun h => ?_⟩
      · unfold St0.agg
        simp only [St0.kind, St0.t, St0.name, St0.e, St0.body, St0.els, St0.pos, one_row, List.map_nil]
        rw [G_body hx.clear rfl Tryd.func85 rfl Tryd.results85 hv_85 rfl]
        simp (maxSteps := 4000000) (disch := first | (intros; contradiction) | omega) only [go_sem, ht, tt, n1, n2, n3, n4, n5, n6, hw, hn, f1, f2, f3, f4, hel]
        done
      · obtain ⟨g1, g2, g3⟩ := f6 h
        exact ⟨okS_ctl t0 (.inl rfl) g1 g2 trivial (fun _ => rfl), by simp only [sizS, cntEs, sizL]; omega⟩
    | true =>
      rw [hke] at hel
      have hn4 := rnext_obj r4
      have hw4 := rnext_wrap f5.ok
      have a4 := adv_is f5.ok hke
      have hni4 := next_i r4
      obtain ⟨l, r5, q1, q2, q3⟩ := hB r4.next a4.ok
      have hall := f5.trans (a4.trans q2)
      refine ⟨.mk 4 ⟨false, []⟩ [] [x] b l ⟨r.tok.pos.1, r.tok.pos.2⟩, r5, ?_, hall, fun h => ?_⟩
      · unfold St0.agg
        simp only [St0.kind, St0.t, St0.name, St0.e, St0.body, St0.els, St0.pos, one_row, List.map_nil]
        rw [G_body hx.clear rfl Tryd.func85 rfl Tryd.results85 hv_85 rfl]
        simp (maxSteps := 4000000) (disch := first | (intros; contradiction) | omega) only [go_sem, ht, tt, n1, n2, n3, n4, n5, n6, hw, hn, f1, f2, f3, f4, hel, hw4, hn4, q1]
        done
      · obtain ⟨c1, c2⟩ := q3 h
        obtain ⟨g1, g2, g3⟩ := f6 ((a4.trans q2).good h)
        exact ⟨okS_ctl t0 (.inl rfl) g1 g2 c1 (fun h => by omega), by simp only [sizS, cntEs, sizL]; omega⟩
  · have tt := eq_true htx
    have n0 : ¬ r.tok.text = [105, 102] := by rw [htx]; decide
    have n2 : ¬ r.tok.text = [98, 114, 101, 97, 107] := by rw [htx]; decide
    have n3 : ¬ r.tok.text = [99, 111, 110, 116, 105, 110, 117, 101] := by rw [htx]; decide
    have n4 : ¬ r.tok.text = [114, 101, 116, 117, 114, 110] := by rw [htx]; decide
    have n5 : ¬ r.tok.text = [102, 114, 101, 101] := by rw [htx]; decide
    have n6 : ¬ r.tok.text = [112, 117, 116] := by rw [htx]; decide
    obtain ⟨x, b, r1, r2, r3, r4, f1, f2, f3, f4, f5, f6⟩ := hctl
    unfold Ex0.agg at f2
    refine ⟨.mk 5 ⟨false, []⟩ [] [x] b [] ⟨r.tok.pos.1, r.tok.pos.2⟩, r4, ?_, f5, fun h => ?_⟩
    · unfold St0.agg
      simp only [St0.kind, St0.t, St0.name, St0.e, St0.body, St0.els, St0.pos, one_row, List.map_nil]
      rw [G_body hx.clear rfl Tryd.func85 rfl Tryd.results85 hv_85 rfl]
      simp (maxSteps := 4000000) (disch := first | (intros; contradiction) | omega) only [go_sem, ht, tt, n0, n2, n3, n4, n5, n6, hw, hn, f1, f2, f3, f4]
      done
    · obtain ⟨g1, g2, g3⟩ := f6 h
      exact ⟨okS_ctl t0 (.inr rfl) g1 g2 trivial (fun _ => rfl), by simp only [sizS, cntEs, sizL]; omega⟩
  · have tt := eq_true htx
    have n0 : ¬ r.tok.text = [105, 102] := by rw [htx]; decide
    have n1 : ¬ r.tok.text = [119, 104, 105, 108, 101] := by rw [htx]; decide
    have n3 : ¬ r.tok.text = [99, 111, 110, 116, 105, 110, 117, 101] := by rw [htx]; decide
    have n4 : ¬ r.tok.text = [114, 101, 116, 117, 114, 110] := by rw [htx]; decide
    have n5 : ¬ r.tok.text = [102, 114, 101, 101] := by rw [htx]; decide
    have n6 : ¬ r.tok.text = [112, 117, 116] := by rw [htx]; decide
    clear hctl
    have e59 := reat_e hx r.next ha.ok [59]
    have a59 := adv_eat ha.ok [59]
    refine ⟨.mk 6 ⟨false, []⟩ [] [] [] [] ⟨r.tok.pos.1, r.tok.pos.2⟩, r.next.eat [59], ?_, ha.trans a59, fun h => ?_⟩
    · generalize r.next.eat [59] = r3 at e59
      unfold St0.agg
      simp only [St0.kind, St0.t, St0.name, St0.e, St0.body, St0.els, St0.pos, one_row, List.map_nil]
      rw [G_body hx.clear rfl Tryd.func85 rfl Tryd.results85 hv_85 rfl]
      simp (maxSteps := 4000000) (disch := first | (intros; contradiction) | omega) only [go_sem, ht, tt, n0, n1, n3, n4, n5, n6, hw, hn, e59]
      done
    · have := (eat_good h).1
      exact ⟨okS_leaf t0 (.inl rfl), by simp only [sizS, cntEs, sizL]; omega⟩
  · have tt := eq_true htx
    have n0 : ¬ r.tok.text = [105, 102] := by rw [htx]; decide
    have n1 : ¬ r.tok.text = [119, 104, 105, 108, 101] := by rw [htx]; decide
    have n2 : ¬ r.tok.text = [98, 114, 101, 97, 107] := by rw [htx]; decide
    have n4 : ¬ r.tok.text = [114, 101, 116, 117, 114, 110] := by rw [htx]; decide
    have n5 : ¬ r.tok.text = [102, 114, 101, 101] := by rw [htx]; decide
    have n6 : ¬ r.tok.text = [112, 117, 116] := by rw [htx]; decide
    clear hctl
    have e59 := reat_e hx r.next ha.ok [59]
    have a59 := adv_eat ha.ok [59]
    refine ⟨.mk 7 ⟨false, []⟩ [] [] [] [] ⟨r.tok.pos.1, r.tok.pos.2⟩, r.next.eat [59], ?_, ha.trans a59, fun h => ?_⟩
    · generalize r.next.eat [59] = r3 at e59
      unfold St0.agg
      simp only [St0.kind, St0.t, St0.name, St0.e, St0.body, St0.els, St0.pos, one_row, List.map_nil]
      rw [G_body hx.clear rfl Tryd.func85 rfl Tryd.results85 hv_85 rfl]
      simp (maxSteps := 4000000) (disch := first | (intros; contradiction) | omega) only [go_sem, ht, tt, n0, n1, n2, n4, n5, n6, hw, hn, e59]
      done
    · have := (eat_good h).1
      exact ⟨okS_leaf t0 (.inr (.inl rfl)), by simp only [sizS, cntEs, sizL]; omega⟩
  · have tt := eq_true htx
    have n0 : ¬ r.tok.text = [105, 102] := by rw [htx]; decide
    have n1 : ¬ r.tok.text = [119, 104, 105, 108, 101] := by rw [htx]; decide
    have n2 : ¬ r.tok.text = [98, 114, 101, 97, 107] := by rw [htx]; decide
    have n3 : ¬ r.tok.text = [99, 111, 110, 116, 105, 110, 117, 101] := by rw [htx]; decide
    have n5 : ¬ r.tok.text = [102, 114, 101, 101] := by rw [htx]; decide
    have n6 : ¬ r.tok.text = [112, 117, 116] := by rw [htx]; decide
    clear hctl
    obtain ⟨x, r2, p1, p2, p3⟩ := hE r.next ha.ok
    unfold Ex0.agg at p1
    have e59 := reat_e hx r2 p2.ok [59]
    have a59 := adv_eat p2.ok [59]
    refine ⟨.mk 8 ⟨false, []⟩ [] [x] [] [] ⟨r.tok.pos.1, r.tok.pos.2⟩, r2.eat [59], ?_, ha.trans (p2.trans a59), fun h => ?_⟩
    · generalize r2.eat [59] = r3 at e59
      unfold St0.agg
      simp only [St0.kind, St0.t, St0.name, St0.e, St0.body, St0.els, St0.pos, one_row, List.map_nil]
      rw [G_body hx.clear rfl Tryd.func85 rfl Tryd.results85 hv_85 rfl]
      simp (maxSteps := 4000000) (disch := first | (intros; contradiction) | omega) only [go_sem, ht, tt, n0, n1, n2, n3, n5, n6, hw, hn, p1, e59]
      done
    · have := (eat_good h).1
      obtain ⟨c1, c2⟩ := p3 (a59.good h)
      exact ⟨okS_one t0 t0 (.inr (.inl rfl)) c1, by simp only [sizS, cntEs, sizL]; omega⟩
  · have tt := eq_true htx
    have n0 : ¬ r.tok.text = [105, 102] := by rw [htx]; decide
    have n1 : ¬ r.tok.text = [119, 104, 105, 108, 101] := by rw [htx]; decide
    have n2 : ¬ r.tok.text = [98, 114, 101, 97, 107] := by rw [htx]; decide
    have n3 : ¬ r.tok.text = [99, 111, 110, 116, 105, 110, 117, 101] := by rw [htx]; decide
    have n4 : ¬ r.tok.text = [114, 101, 116, 117, 114, 110] := by rw [htx]; decide
    have n6 : ¬ r.tok.text = [112, 117, 116] := by rw [htx]; decide
    clear hctl
    have e40 := reat_e hx r.next ha.ok [40]
    have a40 := adv_eat ha.ok [40]
    have hnm := rname_e hx (r.next.eat [40]) a40.ok
    have han := adv_name a40.ok
    have htn := name_tx a40.ok
    generalize hq : (r.next.eat [40]).name = nm at hnm han htn
    obtain ⟨nm1, nm2, r3⟩ := nm
    simp only at hnm han htn
    have e41 := reat_e hx r3 han.ok [41]
    have a41 := adv_eat han.ok [41]
    have e59 := reat_e hx (r3.eat [41]) a41.ok [59]
    have a59 := adv_eat a41.ok [59]
    have hall := a40.trans (han.trans a41)
    refine ⟨.mk 9 ⟨false, []⟩ nm1 [] [] [] ⟨r.tok.pos.1, r.tok.pos.2⟩, (r3.eat [41]).eat [59], ?_, ha.trans (hall.trans a59), fun h => ?_⟩
    · clear hall a59 hq
      generalize (r3.eat [41]).eat [59] = r5 at e59
      generalize r3.eat [41] = r4 at e59 e41
      generalize r.next.eat [40] = r2 at e40 hnm
      unfold St0.agg
      simp only [St0.kind, St0.t, St0.name, St0.e, St0.body, St0.els, St0.pos, one_row, List.map_nil]
      rw [G_body hx.clear rfl Tryd.func85 rfl Tryd.results85 hv_85 rfl]
      simp (maxSteps := 4000000) (disch := first | (intros; contradiction) | omega) only [go_sem, ht, tt, n0, n1, n2, n3, n4, n6, hw, hn, e40, hnm, e41, e59]
      done
    · have := (eat_good h).1
      have := hall.le
      exact ⟨okS_leaf htn (.inr (.inr rfl)), by simp only [sizS, cntEs, sizL]; omega⟩
  · have tt := eq_true htx
    have n0 : ¬ r.tok.text = [105, 102] := by rw [htx]; decide
    have n1 : ¬ r.tok.text = [119, 104, 105, 108, 101] := by rw [htx]; decide
    have n2 : ¬ r.tok.text = [98, 114, 101, 97, 107] := by rw [htx]; decide
    have n3 : ¬ r.tok.text = [99, 111, 110, 116, 105, 110, 117, 101] := by rw [htx]; decide
    have n4 : ¬ r.tok.text = [114, 101, 116, 117, 114, 110] := by rw [htx]; decide
    have n5 : ¬ r.tok.text = [102, 114, 101, 101] := by rw [htx]; decide
    clear hctl
    have e40 := reat_e hx r.next ha.ok [40]
    have a40 := adv_eat ha.ok [40]
    obtain ⟨x, r2, p1, p2, p3⟩ := hE (r.next.eat [40]) a40.ok
    unfold Ex0.agg at p1
    have e41 := reat_e hx r2 p2.ok [41]
    have a41 := adv_eat p2.ok [41]
    have e59 := reat_e hx (r2.eat [41]) a41.ok [59]
    have a59 := adv_eat a41.ok [59]
    refine ⟨.mk 10 ⟨false, []⟩ [] [x] [] [] ⟨r.tok.pos.1, r.tok.pos.2⟩, (r2.eat [41]).eat [59], ?_, ha.trans (a40.trans (p2.trans (a41.trans a59))), fun h => ?_⟩
    · clear p2 p3 a41 a59 a40
      generalize (r2.eat [41]).eat [59] = r5 at e59
      generalize r2.eat [41] = r4 at e59 e41
      generalize r.next.eat [40] = r6 at e40 p1
      unfold St0.agg
      simp only [St0.kind, St0.t, St0.name, St0.e, St0.body, St0.els, St0.pos, one_row, List.map_nil]
      rw [G_body hx.clear rfl Tryd.func85 rfl Tryd.results85 hv_85 rfl]
      simp (maxSteps := 4000000) (disch := first | (intros; contradiction) | omega) only [go_sem, ht, tt, n0, n1, n2, n3, n4, n5, hw, hn, e40, p1, e41, e59]
      done
    · have := (eat_good h).1
      have := a40.le
      have := a41.le
      obtain ⟨c1, c2⟩ := p3 ((a41.trans a59).good h)
      exact ⟨okS_one t0 t0 (.inr (.inr rfl)) c1, by simp only [sizS, cntEs, sizL]; omega⟩
end Go.Proofs.YtdpkdeimliohmaaDoor
namespace Go.Proofs.YtdpkdeimliohmaaDoor
open Go Go.Ab
variable {ext : Sem'}
set_option maxHeartbeats 4000000 in
theorem rstmt_e (hx : T0 ext) (d : Nat) (hd0 : d ≤ 200) (hB : ReadsSs ext 60 [.d (.int .i64 (d : Int))] 2) : ReadsS ext 73 (fun _ => [.d (.int .i64 (d : Int))]) (fun _ => True) 0 := by
  intro r hr _
  have hE := rexpr_e hx d hd0
  have hP := rsimple_e hx d hd0 hB
  have hN := rnamed_e hx d hd0
  have ht := rtok_e hx r hr
  unfold Tok.av at ht
  have hb := rbad_e hx r
  cases hbd : r.bad with
  | true =>
    rw [hbd] at hb
    refine ⟨.mk 0 ⟨false, []⟩ [] [] [] [] ⟨0, 0⟩, r, ?_, Adv.refl hr, fun h => by rw [hbd] at h; cases h⟩
    unfold St0.agg
    simp only [St0.kind, St0.t, St0.name, St0.e, St0.body, St0.els, St0.pos, List.map_nil]
    rw [G_body hx.clear rfl Tryd.func73 rfl Tryd.results73 hv_73 rfl]
    simp (maxSteps := 4000000) (disch := first | (intros; contradiction) | omega) only [go_sem, ht, hb]
    done
  | false =>
    rw [hbd] at hb
    have hany := rany_e hx r hr words7 (by decide)
    cases hk : words7.any r.is with
    | true =>
      rw [hk] at hany
      simp only [words7, List.map_cons, List.map_nil] at hany
      obtain ⟨s, r', p1, p2, p3⟩ := hP r hr hk
      refine ⟨s, r', ?_, p2, p3⟩
      unfold St0.agg at p1 ⊢
      unfold s0A at p1
      rw [G_body hx.clear rfl Tryd.func73 rfl Tryd.results73 hv_73 rfl]
      simp (maxSteps := 4000000) (disch := first | (intros; contradiction) | omega) only [go_sem, ht, hb, hany, p1]
      done
    | false =>
      rw [hk] at hany
      simp only [words7, List.map_cons, List.map_nil] at hany
      have hi := ris_e hx r hr [105, 110, 116]
      have hst := rstar_e hx r hr
      have hdec : r.is [105, 110, 116] = true ∨ (r.tok.kind = 1 ∧ r.star = true) → ∃ (s : St0) (r' : Rd), G ext 73 [.ptr 0 0, .d (.int .i64 (d : Int))] [r.obj] = some (.ret s.agg, [r'.obj]) ∧ Adv r r' ∧ (r'.bad = false → okS s ∧ r.i + sizS s + 0 ≤ r'.i) := fun hc => by
        obtain ⟨t, r1, y1, y2, y3, y4⟩ := rtyp_e hx r hr
        unfold Tp.av at y1
        have hnm := rname_e hx r1 y2.ok
        have han := adv_name y2.ok
        have hgn := @name_good r1
        have htn := name_tx y2.ok
        generalize r1.name = nm at hnm han hgn htn
        obtain ⟨nm1, nm2, r2⟩ := nm
        simp only at hnm han hgn htn
        have e61 := reat_e hx r2 han.ok [61]
        have a61 := adv_eat han.ok [61]
        obtain ⟨x, r4, p1, p2, p3⟩ := hE (r2.eat [61]) a61.ok
        unfold Ex0.agg at p1
        have e59 := reat_e hx r4 p2.ok [59]
        have a59 := adv_eat p2.ok [59]
        refine ⟨.mk 1 t nm1 [x] [] [] ⟨r.tok.pos.1, r.tok.pos.2⟩, r4.eat [59], ?_, y2.trans (han.trans (a61.trans (p2.trans a59))), fun h => ?_⟩
        · clear p3 hgn a59 a61
          generalize r4.eat [59] = r5 at e59
          generalize r2.eat [61] = r3 at e61 p1
          unfold St0.agg
          simp only [St0.kind, St0.t, St0.name, St0.e, St0.body, St0.els, St0.pos, one_row, List.map_nil]
          rw [G_body hx.clear rfl Tryd.func73 rfl Tryd.results73 hv_73 rfl]
          cases hi0 : r.is [105, 110, 116] with
          | true =>
            rw [hi0] at hi
            simp (maxSteps := 4000000) (disch := first | (intros; contradiction) | omega) only [go_sem, ht, hb, hany, hi, y1, hnm, e61, p1, e59]
            done
          | false =>
            rw [hi0] at hi hc
            obtain ⟨hc1, hc2⟩ := hc.resolve_left (by decide)
            rw [hc2] at hst
            simp (maxSteps := 4000000) (disch := first | (intros; contradiction) | omega) only [go_sem, ht, hb, hany, hi, hc1, hst, y1, hnm, e61, p1, e59]
            done
        · have g4 := a59.good h
          have g3 := p2.good g4
          have g2 := a61.good g3
          have := (eat_good h).1
          have := (eat_good g3).1
          have := y2.le
          have := han.le
          obtain ⟨c1, c2⟩ := p3 g4
          exact ⟨okS_one y4 htn (.inl rfl) c1, by simp only [sizS, cntEs, sizL]; omega⟩
      by_cases hd1 : r.is [105, 110, 116] = true ∨ (r.tok.kind = 1 ∧ r.star = true)
      · exact hdec hd1
      · clear hdec
        have hi0 : r.is [105, 110, 116] = false := by
          cases h : r.is [105, 110, 116] with
          | false => rfl
          | true => exact absurd (.inl h) hd1
        rw [hi0] at hi
        by_cases k1 : r.tok.kind = 1
        · have hs0 : r.star = false := by
            cases h : r.star with
            | false => rfl
            | true => exact absurd (.inr ⟨k1, h⟩) hd1
          rw [hs0] at hst
          obtain ⟨s, r1, p1, p2, p3⟩ := hN r hr k1
          have e59 := reat_e hx r1 p2.ok [59]
          have a59 := adv_eat p2.ok [59]
          refine ⟨s, r1.eat [59], ?_, p2.trans a59, fun h => ?_⟩
          · clear p3 a59
            generalize r1.eat [59] = r5 at e59
            unfold St0.agg at p1 ⊢
            unfold s0A at p1
            rw [G_body hx.clear rfl Tryd.func73 rfl Tryd.results73 hv_73 rfl]
            simp (maxSteps := 4000000) (disch := first | (intros; contradiction) | omega) only [go_sem, ht, hb, hany, hi, k1, hst, p1, e59]
            done
          · obtain ⟨c1, c2⟩ := p3 (a59.good h)
            have := a59.le
            exact ⟨c1, by omega⟩
        · have hf := rfail_e hx r 3 r.tok.pos
          have af := adv_fail hr 3 (by decide) r.tok.pos
          have e59 := reat_e hx (r.fail 3 r.tok.pos) af.ok [59]
          have a59 := adv_eat af.ok [59]
          refine ⟨.mk 0 ⟨false, []⟩ [] [] [] [] ⟨r.tok.pos.1, r.tok.pos.2⟩, (r.fail 3 r.tok.pos).eat [59], ?_, af.trans a59, fun h => ?_⟩
          · clear af a59
            generalize (r.fail 3 r.tok.pos).eat [59] = r5 at e59
            generalize r.fail 3 r.tok.pos = r4 at e59 hf
            unfold St0.agg
            simp only [St0.kind, St0.t, St0.name, St0.e, St0.body, St0.els, St0.pos, List.map_nil]
            rw [G_body hx.clear rfl Tryd.func73 rfl Tryd.results73 hv_73 rfl]
            simp (maxSteps := 4000000) (disch := first | (intros; contradiction) | omega) only [go_sem, ht, hb, hany, hi, k1, hf, e59]
            done
          · rw [a59.bad (fail_bad (by decide))] at h; cases h
theorem rblocks_e (hx : T0 ext) : ∀ (m d : Nat), d + m = 200 → ReadsSs ext 60 [.d (.int .i64 (d : Int))] 2
  | 0, d, h => rblock_e hx d (by omega) (fun h => by omega)
  | m + 1, d, h => rblock_e hx d (by omega) (fun _ => rstmt_e hx (d + 1) (by omega) (rblocks_e hx m (d + 1) (by omega)))
theorem fls_snoc (l : List Fl0) (n : Str) (t : Tp) (p q : Int) : (l ++ [(⟨n, t, ⟨p, q⟩⟩ : Fl0)]).map Fl0.row = l.map Fl0.row ++ [[.str n, .bool t.ptr, .str t.to, .int .i64 p, .int .i64 q]] := by
  rw [List.map_append, List.map_cons, List.map_nil, Fl0.row]
theorem len_snoc {α : Type} (l : List α) (x : α) : (l ++ [x]).length = l.length + 1 := by simp
def okF (f : Fl0) : Prop := okT f.name ∧ okT f.t.to
theorem okF_snoc {l : List Fl0} {f : Fl0} (h : ∀ q, q ∈ l → okF q) (hf : okF f) : ∀ q, q ∈ l ++ [f] → okF q := fun q hq => by
  rcases List.mem_append.1 hq with hq | hq
  · exact h q hq
  · cases List.mem_singleton.1 hq; exact hf
set_option maxHeartbeats 4000000 in
theorem rstructure_e (hx : T0 ext) (r : Rd) (hr : r.ok) : ∃ (s : Sr0) (r' : Rd), G ext 44 [.ptr 0 0] [r.obj] = some (.ret (.agg [.d (.str s.name), .d (.sl (s.fields.map Fl0.row)), .d (.int .i64 s.at_.line), .d (.int .i64 s.at_.col)]), [r'.obj]) ∧ Adv r r' ∧ (r'.bad = false → r.i + s.fields.length + 1 ≤ r'.i) ∧ okT s.name ∧ ∀ f, f ∈ s.fields → okF f := by
  have ht := rtok_e hx r hr
  unfold Tok.av at ht
  have e1 := reat_e hx r hr [115, 116, 114, 117, 99, 116]
  have a1 := adv_eat hr [115, 116, 114, 117, 99, 116]
  have hg1 := @eat_good r [115, 116, 114, 117, 99, 116]
  generalize r.eat [115, 116, 114, 117, 99, 116] = r1 at e1 a1 hg1
  have hnm := rname_e hx r1 a1.ok
  have han := adv_name a1.ok
  have htn := name_tx a1.ok
  generalize r1.name = nm at hnm han htn
  obtain ⟨nm1, nm2, r2⟩ := nm
  simp only at hnm han htn
  have e2 := reat_e hx r2 han.ok [123]
  have a2 := adv_eat han.ok [123]
  generalize r2.eat [123] = r3 at e2 a2
  rw [G_body hx.clear rfl Tryd.func44 rfl Tryd.results44 hv_44 rfl]
  simp (maxSteps := 4000000) (disch := first | (intros; contradiction) | omega) only [go_sem, ht, e1, hnm, e2]
  have h03 := a1.trans (han.trans a2)
  have hi03 : r3.bad = false → r.i + 1 ≤ r3.i := fun h => by
    have := (hg1 ((han.trans a2).good h)).1
    have := (han.trans a2).le
    omega
  clear e1 hnm e2 a1 hg1 han a2
  generalize hL : loopA _ _ _ = L
  apply loop_upd hL (by simp (maxSteps := 4000000) (disch := first | (intros; contradiction) | omega) only [go_sem] <;> rfl) (fun x : List Fl0 × Rd × Nat => Adv r x.2.1 ∧ (x.2.1.bad = false → r.i + x.1.length + 1 ≤ x.2.1.i) ∧ ∀ f, f ∈ x.1 → okF f) (fun x => if x.2.1.bad then 0 else 1 + (r.L.length - x.2.1.i)) (fun x => [(4, .any)]) (fun x => [(0, x.2.1.obj), (3, .cells [.d (.str nm1), .grow 4 x.2.2 (x.1.map Fl0.row), .d (.int .i64 r.tok.pos.1), .d (.int .i64 r.tok.pos.2)]), (4, .grow x.2.2 5)]) ([], r3, 0) (by simp (maxSteps := 4000000) (disch := first | (intros; contradiction) | omega) only [go_sem] <;> rfl) ⟨h03, fun h => by have := hi03 h; simp only [List.length_nil]; omega, fun f hf => by cases hf⟩ ?_
  clear hL
  rintro ⟨l, r4, k⟩ ⟨h1, h2, hF⟩ next ih
  simp only at h1 h2 hF ih ⊢
  have hb := rbad_e hx r4
  have hs := ris_e hx r4 h1.ok [125]
  have e3 := reat_e hx r4 h1.ok [125]
  have a3 := adv_eat h1.ok [125]
  have hg3 := @eat_good r4 [125]
  have e4 := reat_e hx (r4.eat [125]) a3.ok [59]
  have a4 := adv_eat a3.ok [59]
  have hend : ((r4.eat [125]).eat [59]).bad = false → r.i + l.length + 1 ≤ ((r4.eat [125]).eat [59]).i := fun h => by
    have := h2 ((a3.trans a4).good h)
    have := (a3.trans a4).le
    omega
  by_cases hgo : r4.is [125] = false ∧ r4.bad = false
  · obtain ⟨g1, g2⟩ := hgo
    rw [g1] at hs
    rw [g2] at hb
    clear e3 a3 hg3 e4 a4 hend
    have hlen := h2 g2
    have h4a := h1.ok.at_
    have h4f := h1.ok.few
    have hroom : ∀ b : Nat, b ≤ 1000 → room (l.length + 1) b := fun b hb => room_few (by omega) hb
    have hll : (l.map Fl0.row).length = l.length := List.length_map _
    obtain ⟨t, r5, y1, y2, y3, y4⟩ := rtyp_e hx r4 h1.ok
    unfold Tp.av at y1
    have hnm := rname_e hx r5 y2.ok
    have han := adv_name y2.ok
    have htn2 := name_tx y2.ok
    generalize r5.name = nm at hnm han htn2
    obtain ⟨nm2, ⟨pp, pq⟩, r6⟩ := nm
    simp only at hnm han htn2
    have e5 := reat_e hx r6 han.ok [59]
    have a5 := adv_eat han.ok [59]
    generalize r6.eat [59] = r7 at e5 a5
    have h47 := y2.trans (han.trans a5)
    have hi7 : r7.bad = false → r4.i + 1 ≤ r7.i := fun h => by
      have := y3 ((han.trans a5).good h)
      have := (han.trans a5).le
      omega
    have hsn := fls_snoc l nm2 t pp pq
    simp (maxSteps := 4000000) (disch := first | (intros; contradiction) | omega) only [go_sem, hs, hb, y1, hnm, e5, hll, hroom]
    refine ih (l ++ [⟨nm2, t, ⟨pp, pq⟩⟩], r7, k + 1) _ ⟨h1.trans h47, fun h => by have := hi7 h; simp only [len_snoc]; omega, okF_snoc hF ⟨htn2, y4⟩⟩ ?_ (by simp (maxSteps := 4000000) (disch := first | (intros; contradiction) | omega) only [go_sem, hsn] <;> rfl)
    simp only [g2, Bool.false_eq_true, if_false]
    cases hb7 : r7.bad with
    | true => simp only [if_true]; omega
    | false =>
      have := hi7 hb7
      have h7a := h47.ok.at_
      rw [(h1.trans h47).L] at h7a
      simp only [Bool.false_eq_true, if_false]
      omega
  · refine ⟨⟨nm1, l, ⟨r.tok.pos.1, r.tok.pos.2⟩⟩, (r4.eat [125]).eat [59], ?_, h1.trans (a3.trans a4), hend, htn, hF⟩
    clear a3 a4 hend hg3 ih
    generalize (r4.eat [125]).eat [59] = r6 at e4
    generalize r4.eat [125] = r5 at e3 e4
    cases g1 : r4.is [125] with
    | true =>
      rw [g1] at hs
      simp (maxSteps := 4000000) (disch := first | (intros; contradiction) | omega) only [go_sem, hs, e3, e4]
      done
    | false =>
      have g2 : r4.bad = true := by
        cases h : r4.bad with
        | true => rfl
        | false => exact absurd ⟨g1, h⟩ hgo
      rw [g1] at hs
      rw [g2] at hb
      simp (maxSteps := 4000000) (disch := first | (intros; contradiction) | omega) only [go_sem, hs, hb, e3, e4]
      done
set_option maxHeartbeats 4000000 in
theorem rfunction_e (hx : T0 ext) (r : Rd) (hr : r.ok) : ∃ (s : Fn0) (r' : Rd), G ext 45 [.ptr 0 0] [r.obj] = some (.ret (.agg [.d (.str s.name), .d (.sl (s.params.map Fl0.row)), .d (.bool s.ret.ptr), .d (.str s.ret.to), .d (.sl (s.body.map St0.row)), .d (.int .i64 s.at_.line), .d (.int .i64 s.at_.col)]), [r'.obj]) ∧ Adv r r' ∧ (r'.bad = false → r.i + s.params.length + sizL s.body + 1 ≤ r'.i ∧ okSs s.body) ∧ okT s.name ∧ okT s.ret.to ∧ ∀ f, f ∈ s.params → okF f := by
  have ht := rtok_e hx r hr
  unfold Tok.av at ht
  obtain ⟨t, r1, y1, y2, y3, yT⟩ := rtyp_e hx r hr
  unfold Tp.av at y1
  have hnm := rname_e hx r1 y2.ok
  have han := adv_name y2.ok
  have htn := name_tx y2.ok
  generalize r1.name = nm at hnm han htn
  obtain ⟨nm1, nm2, r2⟩ := nm
  simp only at hnm han htn
  have e2 := reat_e hx r2 han.ok [40]
  have a2 := adv_eat han.ok [40]
  generalize r2.eat [40] = r3 at e2 a2
  rw [G_body hx.clear rfl Tryd.func45 rfl Tryd.results45 hv_45 rfl]
  simp (maxSteps := 4000000) (disch := first | (intros; contradiction) | omega) only [go_sem, ht, y1, hnm, e2]
  have h03 := y2.trans (han.trans a2)
  have hi03 : r3.bad = false → r.i + 1 ≤ r3.i := fun h => by
    have := y3 ((han.trans a2).good h)
    have := (han.trans a2).le
    omega
  clear y1 hnm e2 y2 y3 han a2
  generalize hL : loopA _ _ _ = L
  apply loop_upd hL (by simp (maxSteps := 4000000) (disch := first | (intros; contradiction) | omega) only [go_sem] <;> rfl) (fun x : List Fl0 × Rd × Nat => Adv r x.2.1 ∧ (x.2.1.bad = false → r.i + x.1.length + 1 ≤ x.2.1.i) ∧ ∀ f, f ∈ x.1 → okF f) (fun x => if x.2.1.bad then 0 else 1 + (r.L.length - x.2.1.i)) (fun x => [(4, .any)]) (fun x => [(0, x.2.1.obj), (4, .cells [.d (.str nm1), .grow 5 x.2.2 (x.1.map Fl0.row), .d (.bool t.ptr), .d (.str t.to), .grow 6 0 [], .d (.int .i64 r.tok.pos.1), .d (.int .i64 r.tok.pos.2)]), (5, .grow x.2.2 5)]) ([], r3, 0) (by simp (maxSteps := 4000000) (disch := first | (intros; contradiction) | omega) only [go_sem] <;> rfl) ⟨h03, fun h => by have := hi03 h; simp only [List.length_nil]; omega, fun f hf => by cases hf⟩ ?_
  clear hL
  rintro ⟨l, r4, k⟩ ⟨h1, h2, hF⟩ next ih
  simp only at h1 h2 hF ih ⊢
  have hb := rbad_e hx r4
  have hs := ris_e hx r4 h1.ok [41]
  have hll : (l.map Fl0.row).length = l.length := List.length_map _
  by_cases hgo : r4.is [41] = false ∧ r4.bad = false
  · obtain ⟨g1, g2⟩ := hgo
    rw [g1] at hs
    rw [g2] at hb
    have hlen := h2 g2
    have h4a := h1.ok.at_
    have h4f := h1.ok.few
    have hroom : ∀ b : Nat, b ≤ 1000 → room (l.length + 1) b := fun b hb => room_few (by omega) hb
    have go : ∀ r8 : Rd, Adv r4 r8 → ∃ (t2 : Tp) (nm2 : Str) (pp pq : Int) (r5 r6 : Rd), G ext 59 [.ptr 0 0] [r8.obj] = some (.ret (.agg [.d (.bool t2.ptr), .d (.str t2.to)]), [r5.obj]) ∧ G ext 58 [.ptr 0 0] [r5.obj] = some (.ret (.tuple [.d (.str nm2), .agg [.d (.int .i64 pp), .d (.int .i64 pq)]]), [r6.obj]) ∧ Adv r4 r6 ∧ (r6.bad = false → r4.i + 1 ≤ r6.i) ∧ okT nm2 ∧ okT t2.to := fun r8 h48 => by
      obtain ⟨t2, r5, y1, y2, y3, yT2⟩ := rtyp_e hx r8 h48.ok
      have hnm := rname_e hx r5 y2.ok
      have han := adv_name y2.ok
      have htn2 := name_tx y2.ok
      generalize r5.name = nm at hnm han htn2
      obtain ⟨nm2, ⟨pp, pq⟩, r6⟩ := nm
      refine ⟨t2, nm2, pp, pq, r5, r6, y1, hnm, h48.trans (y2.trans han), fun h => ?_, htn2, yT2⟩
      have := y3 (han.good h)
      have := han.le
      have := h48.le
      simp only at *
      omega
    have hms : ∀ r6 : Rd, Adv r4 r6 → (r6.bad = false → r4.i + 1 ≤ r6.i) → (if r6.bad = true then 0 else 1 + (r.L.length - r6.i)) < (if r4.bad = true then 0 else 1 + (r.L.length - r4.i)) := fun r6 h46 hi => by
      simp only [g2, Bool.false_eq_true, if_false]
      cases hb6 : r6.bad with
      | true => simp only [if_true]; omega
      | false =>
        have := hi hb6
        have h6a := h46.ok.at_
        rw [(h1.trans h46).L] at h6a
        simp only [Bool.false_eq_true, if_false]
        omega
    by_cases hl0 : (0 : Int) < (l.length : Int)
    · have e5 := reat_e hx r4 h1.ok [44]
      have a5 := adv_eat h1.ok [44]
      obtain ⟨t2, nm2, pp, pq, r5, r6, y1, y2, y3, y4, y5, y6⟩ := go (r4.eat [44]) a5
      clear a5
      generalize r4.eat [44] = r8 at e5 y1
      have hsn := fls_snoc l nm2 t2 pp pq
      simp (maxSteps := 4000000) (disch := first | (intros; contradiction) | omega) only [go_sem, hs, hb, hl0, e5, y1, y2, hll, hroom]
      exact ih (l ++ [⟨nm2, t2, ⟨pp, pq⟩⟩], r6, k + 1) _ ⟨h1.trans y3, fun h => by have := y4 h; simp only [len_snoc]; omega, okF_snoc hF ⟨y5, y6⟩⟩ (hms r6 y3 y4) (by simp (maxSteps := 4000000) (disch := first | (intros; contradiction) | omega) only [go_sem, hsn] <;> rfl)
    · obtain ⟨t2, nm2, pp, pq, r5, r6, y1, y2, y3, y4, y5, y6⟩ := go r4 (Adv.refl h1.ok)
      have hsn := fls_snoc l nm2 t2 pp pq
      simp (maxSteps := 4000000) (disch := first | (intros; contradiction) | omega) only [go_sem, hs, hb, hl0, y1, y2, hll, hroom]
      exact ih (l ++ [⟨nm2, t2, ⟨pp, pq⟩⟩], r6, k + 1) _ ⟨h1.trans y3, fun h => by have := y4 h; simp only [len_snoc]; omega, okF_snoc hF ⟨y5, y6⟩⟩ (hms r6 y3 y4) (by simp (maxSteps := 4000000) (disch := first | (intros; contradiction) | omega) only [go_sem, hsn] <;> rfl)
  · have e3 := reat_e hx r4 h1.ok [41]
    have a3 := adv_eat h1.ok [41]
    obtain ⟨b, r6, q1, q2, q3⟩ := rblocks_e hx 200 0 rfl (r4.eat [41]) a3.ok
    refine ⟨⟨nm1, l, t, b, ⟨r.tok.pos.1, r.tok.pos.2⟩⟩, r6, ?_, h1.trans (a3.trans q2), fun h => ?_, htn, yT, hF⟩
    · clear a3 q3 q2 ih
      generalize r4.eat [41] = r5 at e3 q1
      simp only [Int.ofNat_zero, Int.natCast_zero] at q1
      cases g1 : r4.is [41] with
      | true =>
        rw [g1] at hs
        simp (maxSteps := 4000000) (disch := first | (intros; contradiction) | omega) only [go_sem, hs, e3, q1]
        done
      | false =>
        have g2 : r4.bad = true := by
          cases h : r4.bad with
          | true => rfl
          | false => exact absurd ⟨g1, h⟩ hgo
        rw [g1] at hs
        rw [g2] at hb
        simp (maxSteps := 4000000) (disch := first | (intros; contradiction) | omega) only [go_sem, hs, hb, e3, q1]
        done
    · obtain ⟨c1, c2⟩ := q3 h
      have := h2 ((a3.trans q2).good h)
      have := a3.le
      exact ⟨by show r.i + l.length + sizL b + 1 ≤ r6.i; omega, c1⟩
end Go.Proofs.YtdpkdeimliohmaaDoor
namespace Go.Proofs.YtdpkdeimliohmaaDoor
open Go Go.Ab
variable {ext : Sem'}
/-- How great a program is. -/
def szSr (l : List Sr0) : Nat := (l.map fun s => 1 + s.fields.length).sum
def szFn (l : List Fn0) : Nat := (l.map fun f => 1 + f.params.length + sizL f.body).sum
def szP (p : Pr0) : Nat := szSr p.structs + szFn p.funcs
/-- What is asked of a program that was read. -/
structure OkP (p : Pr0) : Prop where
  structs : p.structs.length ≤ 1000000
  funcs : p.funcs.length ≤ 1000000
  fields : ∀ s, s ∈ p.structs → s.fields.length ≤ 1000000
  params : ∀ f, f ∈ p.funcs → f.params.length ≤ 1000000
  size : ∀ f, f ∈ p.funcs → sizL f.body + f.params.length ≤ 1000000
  ok : ∀ f, f ∈ p.funcs → okSs f.body
  snm : ∀ s, s ∈ p.structs → okT s.name ∧ ∀ f, f ∈ s.fields → okF f
  fnm : ∀ f, f ∈ p.funcs → okT f.name ∧ okT f.ret.to ∧ ∀ q, q ∈ f.params → okF q
  total : szP p ≤ 3001
theorem okP_nil : OkP ⟨[], []⟩ := ⟨by decide, by decide, by simp, by simp, by simp, by simp, by simp, by simp, by decide⟩
theorem len_szS : ∀ l : List Sr0, l.length ≤ szSr l := fun l => by
  induction l with
  | nil => exact Nat.zero_le _
  | cons s l ih => simp only [szSr, List.map_cons, List.sum_cons, List.length_cons] at *; omega
theorem len_szF : ∀ l : List Fn0, l.length ≤ szFn l := fun l => by
  induction l with
  | nil => exact Nat.zero_le _
  | cons s l ih => simp only [szFn, List.map_cons, List.sum_cons, List.length_cons] at *; omega
theorem szSr_snoc (l : List Sr0) (s : Sr0) : szSr (l ++ [s]) = szSr l + (1 + s.fields.length) := by simp [szSr]
theorem szFn_snoc (l : List Fn0) (f : Fn0) : szFn (l ++ [f]) = szFn l + (1 + f.params.length + sizL f.body) := by simp [szFn]
set_option maxHeartbeats 1000000 in
theorem rended_e (hx : T0 ext) (l : List Tok) (hl : l.length ≤ 1000000) : ∃ b, G ext 40 [.d (.sl (l.map Tok.row))] [] = some (.ret (.d (.bool b)), []) ∧ (b = true → l ≠ [] ∧ ∀ t, l[l.length - 1]? = some t → t.kind = 5) := by
  have hll : (l.map Tok.row).length = l.length := List.length_map _
  rw [G_body hx.clear rfl Tryd.func40 rfl Tryd.results40 hv_40 rfl]
  simp (maxSteps := 4000000) (disch := first | (intros; contradiction) | omega) only [go_sem]
  generalize hL : loopA _ _ _ = L
  apply range_upd hL (by simp (maxSteps := 4000000) (disch := first | (intros; contradiction) | omega) only [go_sem] <;> rfl) l Tok.row (α := Unit) (fun rest k _ => ∀ j t, j < k → l[j]? = some t → j = l.length - 1 → t.kind = 5) (fun k _ => [(3, .d (.int .i64 k))]) (fun _ _ => []) () (by simp (maxSteps := 4000000) (disch := first | (intros; contradiction) | omega) only [go_sem] <;> rfl) (fun j t h => by omega) ?_ ?_
  · intro x rest k _ hi hlt hr hxx hk _ next ih
    clear hL
    simp only [Tok.row] at hr
    have hk0 : (0 : Int) ≤ (k : Int) := by omega
    have hwk : IntKind.wrap .i64 ((k : Int) + 1) = ((k + 1 : Nat) : Int) := by rw [wrap64 (by omega) (by omega)]; omega
    have hwl : IntKind.wrap .i64 ((l.length : Int) - 1) = (l.length : Int) - 1 := wrap64 (by omega) (by omega)
    have hlt2 : (k : Int) < (l.length : Int) := by omega
    by_cases k5 : x.kind = 5
    · have k5' := eq_true k5
      by_cases he : (k : Int) = (l.length : Int) - 1
      · have he' := eq_true he
        simp (maxSteps := 4000000) (disch := first | (intros; contradiction) | omega) only [go_sem, hlt, hr, hk0, hll, hwl, k5', he', hwk, hlt2]
        refine ih () _ (fun j t hj ht hjl => ?_) (by simp (maxSteps := 4000000) (disch := first | (intros; contradiction) | omega) only [go_sem] <;> rfl)
        by_cases hjk : j < k
        · exact hi j t hjk ht hjl
        · have : j = k := by omega
          subst this
          rw [hxx] at ht
          cases ht
          exact k5
      · refine ⟨false, ?_, fun h => by cases h⟩
        simp (maxSteps := 4000000) (disch := first | (intros; contradiction) | omega) only [go_sem, hlt, hr, hk0, hll, hwl, k5', he, hwk, hlt2]
        done
    · by_cases he : (k : Int) = (l.length : Int) - 1
      · refine ⟨false, ?_, fun h => by cases h⟩
        have he' := eq_true he
        simp (maxSteps := 4000000) (disch := first | (intros; contradiction) | omega) only [go_sem, hlt, hr, hk0, hll, hwl, k5, he', hwk, hlt2]
        done
      · simp (maxSteps := 4000000) (disch := first | (intros; contradiction) | omega) only [go_sem, hlt, hr, hk0, hll, hwl, k5, he, hwk, hlt2]
        refine ih () _ (fun j t hj ht hjl => ?_) (by simp (maxSteps := 4000000) (disch := first | (intros; contradiction) | omega) only [go_sem] <;> rfl)
        exact hi j t (by omega) ht hjl
  · intro k _ hi hlt hk next
    clear hL
    have hlt2 : ¬ (k : Int) < (l.length : Int) := by omega
    refine ⟨decide ((0 : Int) < (l.length : Int)), ?_, fun h => ?_⟩
    · simp (maxSteps := 4000000) (disch := first | (intros; contradiction) | omega) only [go_sem, hlt, hll, hlt2]
      done
    · have h := of_decide_eq_true h
      exact ⟨by rintro rfl; simp at h, fun t ht => hi _ t (by omega) ht rfl⟩
theorem srs_snoc (l : List Sr0) (s : Sr0) : (l ++ [s]).map Sr0.row = l.map Sr0.row ++ [[.str s.name, .sl (s.fields.map Fl0.row), .int .i64 s.at_.line, .int .i64 s.at_.col]] := by
  rw [List.map_append, List.map_cons, List.map_nil, Sr0.row]
theorem fns_snoc (l : List Fn0) (s : Fn0) : (l ++ [s]).map Fn0.row = l.map Fn0.row ++ [[.str s.name, .sl (s.params.map Fl0.row), .bool s.ret.ptr, .str s.ret.to, .sl (s.body.map St0.row), .int .i64 s.at_.line, .int .i64 s.at_.col]] := by
  rw [List.map_append, List.map_cons, List.map_nil, Fn0.row]
theorem okP_struct {p : Pr0} {s : Sr0} (h : OkP p) (hn : p.structs.length + 1 ≤ 1000000) (hs : s.fields.length ≤ 1000000) (h4 : okT s.name ∧ ∀ f, f ∈ s.fields → okF f) (h5 : szP p + (1 + s.fields.length) ≤ 3001) : OkP ⟨p.structs ++ [s], p.funcs⟩ := by
  refine ⟨by simpa using hn, h.funcs, fun q hq => ?_, h.params, h.size, h.ok, fun q hq => ?_, h.fnm, by unfold szP at *; rw [szSr_snoc]; simp only; omega⟩
  rcases List.mem_append.1 hq with hq | hq
  · exact h.fields q hq
  · cases List.mem_singleton.1 hq; exact hs
  rcases List.mem_append.1 hq with hq | hq
  · exact h.snm q hq
  · cases List.mem_singleton.1 hq; exact h4
theorem okP_func {p : Pr0} {s : Fn0} (h : OkP p) (hn : p.funcs.length + 1 ≤ 1000000) (h1 : s.params.length ≤ 1000000) (h2 : sizL s.body + s.params.length ≤ 1000000) (h3 : okSs s.body) (h4 : okT s.name ∧ okT s.ret.to ∧ ∀ q, q ∈ s.params → okF q) (h5 : szP p + (1 + s.params.length + sizL s.body) ≤ 3001) : OkP ⟨p.structs, p.funcs ++ [s]⟩ := by
  refine ⟨h.structs, by simpa using hn, h.fields, fun q hq => ?_, fun q hq => ?_, fun q hq => ?_, h.snm, fun q hq => ?_, by unfold szP at *; rw [szFn_snoc]; simp only; omega⟩
  all_goals
    rcases List.mem_append.1 hq with hq | hq
    first | exact h.params q hq | exact h.size q hq | exact h.ok q hq | exact h.fnm q hq
    cases List.mem_singleton.1 hq
    first | exact h1 | exact h2 | exact h3 | exact h4
set_option maxHeartbeats 4000000 in
theorem rparse_e (hx : T0 ext) (l : List Tok) (hl3 : l.length ≤ 3001) (htx : ∀ t, t ∈ l → okT t.text ∧ okN t.num) : ∃ (p : Pr0) (d : Dg), G ext 19 [.d (.sl (l.map Tok.row))] [] = some (.ret (.tuple [p.av, d.av]), []) ∧ OkP p := by
  have hl : l.length ≤ 1000000 := by omega
  obtain ⟨b, q1, q2⟩ := rended_e hx l hl
  cases hb : b with
  | false =>
    rw [hb] at q1
    refine ⟨⟨[], []⟩, ⟨2, 1, (0, 0)⟩, ?_, okP_nil⟩
    unfold Pr0.av Dg.av
    rw [G_body hx.clear rfl Tryd.func19 rfl Tryd.results19 hv_19 rfl]
    simp (maxSteps := 4000000) (disch := first | (intros; contradiction) | omega) only [go_sem, q1]
    try rfl
  | true =>
    rw [hb] at q1
    obtain ⟨hne, hlast⟩ := q2 hb
    have h0 : (⟨l, 0, Dg.zero⟩ : Rd).ok := ⟨List.length_pos_iff.2 hne, hl, hlast, htx⟩
    unfold Pr0.av Dg.av
    rw [G_body hx.clear rfl Tryd.func19 rfl Tryd.results19 hv_19 rfl]
    simp (maxSteps := 4000000) (disch := first | (intros; contradiction) | omega) only [go_sem, q1]
    generalize hL : loopA _ _ _ = L
    apply loop_upd hL (by simp (maxSteps := 4000000) (disch := first | (intros; contradiction) | omega) only [go_sem] <;> rfl) (fun x : Pr0 × Rd × Nat × Nat => Adv ⟨l, 0, Dg.zero⟩ x.2.1 ∧ (x.2.1.bad = false → OkP x.1 ∧ szP x.1 ≤ x.2.1.i)) (fun x => if x.2.1.bad then 0 else 1 + (l.length - x.2.1.i)) (fun x => []) (fun x => [(4, x.2.1.obj), (5, .cells [.grow 6 x.2.2.1 (x.1.structs.map Sr0.row), .grow 7 x.2.2.2 (x.1.funcs.map Fn0.row)]), (6, .grow x.2.2.1 4), (7, .grow x.2.2.2 7)]) (⟨[], []⟩, ⟨l, 0, Dg.zero⟩, 0, 0) (by simp (maxSteps := 4000000) (disch := first | (intros; contradiction) | omega) only [go_sem] <;> rfl) ⟨Adv.refl h0, fun _ => ⟨okP_nil, Nat.le_refl _⟩⟩ ?_
    clear hL
    rintro ⟨p, r, k, m⟩ ⟨h1, h2⟩ next ih
    simp only at h1 h2 ih ⊢
    have ht := rtok_e hx r h1.ok
    unfold Tok.av at ht
    have hbd := rbad_e hx r
    have hLr : r.L = l := h1.L
    by_cases hgo : r.tok.kind ≠ 5 ∧ r.bad = false
    · obtain ⟨g1, g2⟩ := hgo
      rw [g2] at hbd
      obtain ⟨k1, k2⟩ := h2 g2
      have kS := len_szS p.structs
      have kF := len_szF p.funcs
      have k2' := k2
      unfold szP at k2
      have hra := h1.ok.at_
      rw [hLr] at hra
      have hs := ris_e hx r h1.ok [115, 116, 114, 117, 99, 116]
      have hms : ∀ r2 : Rd, Adv r r2 → (r2.bad = false → r.i + 1 ≤ r2.i) → (if r2.bad = true then 0 else 1 + (l.length - r2.i)) < (if r.bad = true then 0 else 1 + (l.length - r.i)) := fun r2 h12 hi => by
        simp only [g2, Bool.false_eq_true, if_false]
        cases hb2 : r2.bad with
        | true => simp only [if_true]; omega
        | false =>
          have := hi hb2
          have h2a := h12.ok.at_
          rw [h12.L, hLr] at h2a
          simp only [Bool.false_eq_true, if_false]
          omega
      have hroom1 : ∀ b : Nat, b ≤ 1000 → room (p.structs.length + 1) b := fun b hb => room_few (by omega) hb
      have hroom2 : ∀ b : Nat, b ≤ 1000 → room (p.funcs.length + 1) b := fun b hb => room_few (by omega) hb
      have hl1 : (p.structs.map Sr0.row).length = p.structs.length := List.length_map _
      have hl2 : (p.funcs.map Fn0.row).length = p.funcs.length := List.length_map _
      cases hk : r.is [115, 116, 114, 117, 99, 116] with
      | true =>
        rw [hk] at hs
        obtain ⟨s, r2, y1, y2, y3, y4⟩ := rstructure_e hx r h1.ok
        have hsn := srs_snoc p.structs s
        simp (maxSteps := 4000000) (disch := first | (intros; contradiction) | omega) only [go_sem, ht, hbd, g1, hs, y1, hl1, hroom1]
        refine ih (⟨p.structs ++ [s], p.funcs⟩, r2, k + 1, m) _ ⟨h1.trans y2, fun h => ?_⟩ (hms r2 y2 (fun h => by have := y3 h; omega)) (by simp (maxSteps := 4000000) (disch := first | (intros; contradiction) | omega) only [go_sem, hsn] <;> rfl)
        have := y3 h
        have h2a := y2.ok.at_
        rw [y2.L, hLr] at h2a
        exact ⟨okP_struct k1 (by omega) (by omega) y4 (by omega), by unfold szP; rw [szSr_snoc]; simp only; omega⟩
      | false =>
        rw [hk] at hs
        obtain ⟨s, r2, y1, y2, y3, y4⟩ := rfunction_e hx r h1.ok
        have hsn := fns_snoc p.funcs s
        simp (maxSteps := 4000000) (disch := first | (intros; contradiction) | omega) only [go_sem, ht, hbd, g1, hs, y1, hl2, hroom2]
        refine ih (⟨p.structs, p.funcs ++ [s]⟩, r2, k, m + 1) _ ⟨h1.trans y2, fun h => ?_⟩ (hms r2 y2 (fun h => by have := (y3 h).1; omega)) (by simp (maxSteps := 4000000) (disch := first | (intros; contradiction) | omega) only [go_sem, hsn] <;> rfl)
        obtain ⟨this, hok⟩ := y3 h
        have h2a := y2.ok.at_
        rw [y2.L, hLr] at h2a
        exact ⟨okP_func k1 (by omega) (by omega) (by omega) hok y4 (by omega), by unfold szP; rw [szFn_snoc]; simp only; omega⟩
    · cases hb2 : r.bad with
      | true =>
        rw [hb2] at hbd
        refine ⟨⟨[], []⟩, r.d, ?_, okP_nil⟩
        by_cases k5 : r.tok.kind = 5
        · simp (maxSteps := 4000000) (disch := first | (intros; contradiction) | omega) only [go_sem, ht, hbd, k5]
          try rfl
        · simp (maxSteps := 4000000) (disch := first | (intros; contradiction) | omega) only [go_sem, ht, hbd, k5]
          try rfl
      | false =>
        rw [hb2] at hbd
        have k5 : r.tok.kind = 5 := by
          by_cases h : r.tok.kind = 5
          · exact h
          · exact absurd ⟨h, hb2⟩ hgo
        refine ⟨p, Dg.zero, ?_, (h2 hb2).1⟩
        simp (maxSteps := 4000000) (disch := first | (intros; contradiction) | omega) only [go_sem, ht, hbd, k5]
        try rfl
theorem eachL_few (s : Str) (hs : s.length ≤ 3000) : (eachL s).length ≤ 1000000 := by
  unfold eachL
  rw [if_neg (by omega)]
  have := eachF_len s (1, 1) (s.length + 1)
  omega
theorem refR_len (l : List (Tok × Dg)) : (refR l).1.length ≤ l.length := by
  unfold refR
  simp only [List.length_map]
  exact List.length_filter_le _ _
theorem eachL_few1 (s : Str) (hs : s.length ≤ 3000) : (eachL s).length ≤ 3001 := by
  unfold eachL
  rw [if_neg (by omega)]
  have := eachF_len s (1, 1) (s.length + 1)
  omega
theorem lexR_num {l : List UInt8} {k v : Int} {n : Nat} (h : lexR l = .tok k n v) : okN v := by
  cases l with
  | nil => simp only [lexR] at h; cases h; exact n0
  | cons c t =>
    simp only [lexR] at h
    split at h
    · unfold wordR at h
      split at h
      · cases h
      · cases h; exact n0
    · split at h
      · unfold numberR at h
        split at h
        · cases h
        · split at h
          · cases h
          · rename_i hv
            cases h
            exact ⟨by omega, by omega⟩
      · unfold signR at h
        split at h
        · cases h; exact n0
        · split at h
          · cases h; exact n0
          · cases h
theorem spanL_mem {p : UInt8 → Bool} : ∀ {l : List UInt8} {c : UInt8}, c ∈ l.take (spanL p l) → p c = true
  | [], c, h => by simp at h
  | a :: l, c, h => by
    by_cases hp : p a = true
    · simp only [spanL, hp, if_true, List.take_succ_cons, List.mem_cons] at h
      rcases h with rfl | h
      · exact hp
      · exact spanL_mem h
    · simp [spanL, hp] at h
theorem lexR_nl {l : List UInt8} {k v : Int} {n : Nat} (h : lexR l = .tok k n v) : (10 : UInt8) ∉ l.take n := by
  cases l with
  | nil => simp
  | cons c t =>
    simp only [lexR] at h
    split at h
    · unfold wordR at h
      split at h
      · cases h
      · cases h
        intro hm
        have := spanL_mem hm
        exact absurd this (by decide)
    · split at h
      · unfold numberR at h
        split at h
        · cases h
        · split at h
          · cases h
          · cases h
            intro hm
            have := spanL_mem hm
            exact absurd this (by decide)
      · unfold signR at h
        split at h
        · rename_i h2
          cases h
          intro hm
          generalize (c :: t).take 2 = q at h2 hm
          have h3 := h2.2
          simp only [signs2, List.mem_cons, List.mem_nil_iff, or_false] at h3
          rcases h3 with rfl | rfl | rfl | rfl | rfl <;> simp at hm
        · split at h
          · rename_i h2
            cases h
            simp only [List.take_succ_cons, List.take_zero, List.mem_singleton]
            rintro rfl
            simp [oneSign, signs1] at h2
          · cases h
theorem eachF_tx (n : Nat) : ∀ (g : Nat) (l : List UInt8) (p : Int × Int), l.length ≤ n → ∀ x, x ∈ eachF g l p → (x.1.text.length ≤ n ∧ (10 : UInt8) ∉ x.1.text) ∧ okN x.1.num := by
  intro g
  induction g with
  | zero => intro l p _ x hx; cases hx
  | succ g ih =>
    intro l p hl x hx
    have hd : (l.drop (skipN false l)).length ≤ n := by rw [List.length_drop]; omega
    simp only [eachF] at hx
    split at hx
    · rename_i f hf
      cases List.mem_singleton.1 hx
      exact ⟨⟨Nat.zero_le _, by simp [Tok.zero]⟩, n0⟩
    · rename_i k m v hf
      rcases List.mem_cons.1 hx with rfl | hx
      · refine ⟨⟨?_, lexR_nl hf⟩, lexR_num hf⟩
        simp only [List.length_take]
        omega
      · split at hx
        · cases hx
        · exact ih _ _ (by rw [List.length_drop]; omega) x hx
theorem refR_tx (s : Str) (hs : s.length ≤ 3000) : ∀ t, t ∈ (refR (eachL s)).1 → okT t.text ∧ okN t.num := by
  intro t ht
  unfold refR at ht
  simp only [List.mem_map] at ht
  obtain ⟨x, hx, rfl⟩ := ht
  have hx' := (List.mem_filter.1 hx).1
  unfold eachL at hx'
  rw [if_neg (by omega)] at hx'
  exact eachF_tx 3000 _ _ _ hs x hx'
theorem rtext_e (hx : T0 ext) (s : Str) (hs : s.length ≤ 3000) : ∃ (p : Pr0) (d : Dg), G ext 7 [.d (.str s)] [] = some (.ret (.tuple [p.av, d.av]), []) ∧ OkP p := by
  have hsc := rscan_e hx.tx s hs
  unfold rowsT at hsc
  obtain ⟨p, d, q1, q2⟩ := rparse_e hx (refR (eachL s)).1 (Nat.le_trans (refR_len _) (eachL_few1 s hs)) (refR_tx s hs)
  unfold Pr0.av Dg.av at *
  by_cases hw : (refR (eachL s)).2.what = 0
  · refine ⟨p, d, ?_, q2⟩
    rw [G_body hx.clear rfl Tryd.func7 rfl Tryd.results7 hv_7 rfl]
    simp (maxSteps := 4000000) (disch := first | (intros; contradiction) | omega) only [go_sem, hsc, q1, hw]
    try rfl
  · refine ⟨⟨[], []⟩, (refR (eachL s)).2, ?_, okP_nil⟩
    rw [G_body hx.clear rfl Tryd.func7 rfl Tryd.results7 hv_7 rfl]
    simp (maxSteps := 4000000) (disch := first | (intros; contradiction) | omega) only [go_sem, hsc, hw]
    try rfl
end Go.Proofs.YtdpkdeimliohmaaDoor
