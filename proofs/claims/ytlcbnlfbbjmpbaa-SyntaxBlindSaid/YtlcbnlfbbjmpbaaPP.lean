/- Programs, their sizes, and what is asked of them; of tokens. Conditions: none. -/
import Derived.Test.YtlcbnlfbbjmpbaaPA
set_option linter.unusedSimpArgs false
set_option linter.unusedVariables false
namespace Go.Proofs.Ytlcbnlfbbjmpbaa
open Go Go.Ab
/-- It stands ahead of the last token, or at it; that alone has kind 5. -/
def okT (s : Str) : Prop := s.length ≤ 3000 ∧ (10 : UInt8) ∉ s
def okN (n : Int) : Prop := 0 ≤ n ∧ n ≤ 2147483647
theorem t0 : okT [] := ⟨Nat.zero_le _, by simp⟩
theorem n0 : okN 0 := ⟨by decide, by decide⟩
def Ex0.agg (e : Ex0) : AV := .agg [.d (.int .i64 e.kind), .d (.int .i64 e.n), .d (.str e.name), .d (.str e.op), .d (.sl (e.kids.map Ex0.row)), .d (.int .i64 e.pos.line), .d (.int .i64 e.pos.col)]
def Ex0.zero : Ex0 := .mk 0 0 [] [] [] ⟨0, 0⟩
mutual
/-- How many expressions. -/
def cntE : Ex0 → Nat
  | .mk _ _ _ _ ks _ => 1 + cntEs ks
def cntEs : List Ex0 → Nat
  | [] => 0
  | e :: l => cntE e + cntEs l
end
mutual
/-- How high. -/
def hgtE : Ex0 → Nat
  | .mk _ _ _ _ ks _ => hgtEs ks + 1
def hgtEs : List Ex0 → Nat
  | [] => 0
  | e :: l => max (hgtE e) (hgtEs l)
end
/-- How many parts an expression has, by its kind. -/
def arity (k : Int) (n : Nat) : Prop := (k = 3 → n = 1) ∧ (k = 4 → n = 2) ∧ (k = 5 → n = 1)
mutual
/-- Each expression has its parts. -/
def okE : Ex0 → Prop
  | .mk k n s o ks _ => (okN n ∧ okT s ∧ okT o) ∧ arity k ks.length ∧ okEs ks
def okEs : List Ex0 → Prop
  | [] => True
  | e :: l => okE e ∧ okEs l
end
theorem cntE_eq (e : Ex0) : cntE e = 1 + cntEs e.kids := by cases e; rfl
theorem hgtE_eq (e : Ex0) : hgtE e = hgtEs e.kids + 1 := by cases e; rfl
theorem okE_eq (e : Ex0) : okE e = ((okN e.n ∧ okT e.name ∧ okT e.op) ∧ arity e.kind e.kids.length ∧ okEs e.kids) := by cases e; rfl
theorem cntEs_append : ∀ (a b : List Ex0), cntEs (a ++ b) = cntEs a + cntEs b
  | [], b => by simp [cntEs]
  | e :: a, b => by simp only [List.cons_append, cntEs, cntEs_append a b]; omega
theorem okEs_append : ∀ {a b : List Ex0}, okEs a → okEs b → okEs (a ++ b)
  | [], b, _, h => h
  | e :: a, b, h, h' => ⟨h.1, okEs_append h.2 h'⟩
theorem okEs_mem : ∀ {l : List Ex0} {e : Ex0}, okEs l → e ∈ l → okE e
  | [], _, _, h => by cases h
  | x :: l, e, h, he => by
    rcases List.mem_cons.1 he with rfl | he
    · exact h.1
    · exact okEs_mem h.2 he
theorem cntEs_mem : ∀ {l : List Ex0} {e : Ex0}, e ∈ l → cntE e ≤ cntEs l
  | [], _, h => by cases h
  | x :: l, e, h => by
    simp only [cntEs]
    rcases List.mem_cons.1 h with rfl | h
    · omega
    · have := cntEs_mem h; omega
theorem cntEs_len : ∀ l : List Ex0, l.length ≤ cntEs l
  | [] => Nat.le_refl _
  | x :: l => by
    have := cntEs_len l
    have := cntE_eq x
    simp only [cntEs, List.length_cons]; omega
mutual
theorem hgtE_le : ∀ e : Ex0, hgtE e ≤ cntE e
  | .mk _ _ _ _ ks _ => by have := hgtEs_le ks; simp only [hgtE, cntE]; omega
theorem hgtEs_le : ∀ l : List Ex0, hgtEs l ≤ cntEs l
  | [] => Nat.le_refl _
  | e :: l => by have := hgtE_le e; have := hgtEs_le l; simp only [hgtEs, cntEs]; omega
end
theorem exs_snoc (l : List Ex0) (e : Ex0) : (l ++ [e]).map Ex0.row = l.map Ex0.row ++ [[.int .i64 e.kind, .int .i64 e.n, .str e.name, .str e.op, .sl (e.kids.map Ex0.row), .int .i64 e.pos.line, .int .i64 e.pos.col]] := by
  rw [List.map_append, List.map_cons, List.map_nil, Ex0.row_eq]
theorem room_few {n b : Nat} (h : n ≤ 1000001) (hb : b ≤ 1000) : room n b := by
  unfold room
  have h2 : max b 1 ≤ 1000 := by omega
  have := Nat.mul_le_mul h h2
  omega
theorem okE_leaf {k n : Int} {s o : Str} {p : Po} (h : k ≠ 3 ∧ k ≠ 4 ∧ k ≠ 5) (ht : okN n ∧ okT s ∧ okT o) : okE (.mk k n s o [] p) := ⟨ht, ⟨fun e => absurd e h.1, fun e => absurd e h.2.1, fun e => absurd e h.2.2⟩, trivial⟩
theorem okE_call {k n : Int} {s o : Str} {p : Po} {l : List Ex0} (h : k ≠ 3 ∧ k ≠ 4 ∧ k ≠ 5) (ht : okN n ∧ okT s ∧ okT o) (hl : okEs l) : okE (.mk k n s o l p) := ⟨ht, ⟨fun e => absurd e h.1, fun e => absurd e h.2.1, fun e => absurd e h.2.2⟩, hl⟩
theorem one_row (e : Ex0) : [e].map Ex0.row = [[.int .i64 e.kind, .int .i64 e.n, .str e.name, .str e.op, .sl (e.kids.map Ex0.row), .int .i64 e.pos.line, .int .i64 e.pos.col]] := by
  rw [List.map_cons, List.map_nil, Ex0.row_eq]
theorem two_row (e x : Ex0) : [e, x].map Ex0.row = [[.int .i64 e.kind, .int .i64 e.n, .str e.name, .str e.op, .sl (e.kids.map Ex0.row), .int .i64 e.pos.line, .int .i64 e.pos.col], [.int .i64 x.kind, .int .i64 x.n, .str x.name, .str x.op, .sl (x.kids.map Ex0.row), .int .i64 x.pos.line, .int .i64 x.pos.col]] := by
  rw [List.map_cons, List.map_cons, List.map_nil, Ex0.row_eq, Ex0.row_eq]
theorem okE_one {n : Int} {s o : Str} {p : Po} {e : Ex0} {k : Int} (hk : k = 3 ∨ k = 5) (ht : okN n ∧ okT s ∧ okT o) (he : okE e) : okE (.mk k n s o [e] p) := ⟨ht, ⟨fun _ => rfl, fun h => by omega, fun _ => rfl⟩, he, trivial⟩
theorem okE_two {n : Int} {s o : Str} {p : Po} {e x : Ex0} (ht : okN n ∧ okT s ∧ okT o) (he : okE e) (hx : okE x) : okE (.mk 4 n s o [e, x] p) := ⟨ht, ⟨fun h => by omega, fun _ => rfl, fun h => by omega⟩, he, hx, trivial⟩
def arS (k : Int) (n : Nat) : Prop := (k = 1 ∨ k = 2 ∨ k = 4 ∨ k = 5 ∨ k = 8 ∨ k = 10 ∨ k = 11 → n = 1) ∧ (k = 3 → n = 2) ∧ (k = 6 ∨ k = 7 ∨ k = 9 → n = 0) ∧ 1 ≤ k ∧ k ≤ 11
mutual
/-- Each statement has its parts. -/
def okS : St0 → Prop
  | .mk k t n e b l _ => (okT t.to ∧ okT n) ∧ arS k e.length ∧ okEs e ∧ (k = 5 → l = []) ∧ okSs b ∧ okSs l
def okSs : List St0 → Prop
  | [] => True
  | s :: l => okS s ∧ okSs l
end
mutual
/-- How many statements and expressions. -/
def sizS : St0 → Nat
  | .mk _ _ _ e b l _ => 1 + cntEs e + sizL b + sizL l
def sizL : List St0 → Nat
  | [] => 0
  | s :: l => sizS s + sizL l
end
theorem okS_eq (s : St0) : okS s = ((okT s.t.to ∧ okT s.name) ∧ arS s.kind s.e.length ∧ okEs s.e ∧ (s.kind = 5 → s.els = []) ∧ okSs s.body ∧ okSs s.els) := by cases s; rfl
theorem sizS_eq (s : St0) : sizS s = 1 + cntEs s.e + sizL s.body + sizL s.els := by cases s; rfl
theorem sizL_append : ∀ (a b : List St0), sizL (a ++ b) = sizL a + sizL b
  | [], b => by simp [sizL]
  | e :: a, b => by simp only [List.cons_append, sizL, sizL_append a b]; omega
theorem okSs_append : ∀ {a b : List St0}, okSs a → okSs b → okSs (a ++ b)
  | [], b, _, h => h
  | e :: a, b, h, h' => ⟨h.1, okSs_append h.2 h'⟩
theorem okSs_mem : ∀ {l : List St0} {e : St0}, okSs l → e ∈ l → okS e
  | [], _, _, h => by cases h
  | x :: l, e, h, he => by
    rcases List.mem_cons.1 he with rfl | he
    · exact h.1
    · exact okSs_mem h.2 he
theorem sizL_mem : ∀ {l : List St0} {e : St0}, e ∈ l → sizS e ≤ sizL l
  | [], _, h => by cases h
  | x :: l, e, h => by
    simp only [sizL]
    rcases List.mem_cons.1 h with rfl | h
    · omega
    · have := sizL_mem h; omega
theorem sizL_len : ∀ l : List St0, l.length ≤ sizL l
  | [] => Nat.le_refl _
  | x :: l => by
    have := sizL_len l
    have := sizS_eq x
    simp only [sizL, List.length_cons]; omega
mutual
theorem cntS_siz : ∀ s : St0, cntS s ≤ sizS s
  | .mk _ _ _ e b l _ => by have := cntL_siz b; have := cntL_siz l; simp only [cntS, sizS]; omega
theorem cntL_siz : ∀ l : List St0, cntL l ≤ sizL l
  | [] => Nat.le_refl _
  | s :: l => by have := cntS_siz s; have := cntL_siz l; simp only [cntL, sizL]; omega
end
theorem okS_set {n : Str} {x : Ex0} {p : Po} (hn : okT n) (hx : okE x) : okS (.mk 2 ⟨false, []⟩ n [x] [] [] p) := ⟨⟨t0, hn⟩, ⟨fun _ => rfl, fun h => by omega, fun h => by omega, by omega⟩, ⟨hx, trivial⟩, fun h => by omega, trivial, trivial⟩
theorem okS_put {n : Str} {e x : Ex0} {p : Po} (hn : okT n) (he : okE e) (hx : okE x) : okS (.mk 3 ⟨false, []⟩ n [e, x] [] [] p) := ⟨⟨t0, hn⟩, ⟨fun h => by omega, fun _ => rfl, fun h => by omega, by omega⟩, ⟨he, hx, trivial⟩, fun h => by omega, trivial, trivial⟩
theorem sts_snoc (l : List St0) (e : St0) : (l ++ [e]).map St0.row = l.map St0.row ++ [[.int .i64 e.kind, .bool e.t.ptr, .str e.t.to, .str e.name, .sl (e.e.map Ex0.row), .sl (e.body.map St0.row), .sl (e.els.map St0.row), .int .i64 e.pos.line, .int .i64 e.pos.col]] := by
  rw [List.map_append, List.map_cons, List.map_nil, St0.row_eq]
theorem okS_leaf {k : Int} {n : Str} {p : Po} (hn : okT n) (h : k = 6 ∨ k = 7 ∨ k = 9) : okS (.mk k ⟨false, []⟩ n [] [] [] p) := ⟨⟨t0, hn⟩, ⟨fun h => by omega, fun h => by omega, fun _ => rfl, by omega⟩, trivial, fun h => by omega, trivial, trivial⟩
theorem okS_one {k : Int} {n : Str} {p : Po} {x : Ex0} {t : Tp} (ht : okT t.to) (hn : okT n) (h : k = 1 ∨ k = 8 ∨ k = 10) (hx : okE x) : okS (.mk k t n [x] [] [] p) := ⟨⟨ht, hn⟩, ⟨fun _ => rfl, fun h => by omega, fun h => by omega, by omega⟩, ⟨hx, trivial⟩, fun h => by omega, trivial, trivial⟩
theorem okS_ctl {k : Int} {n : Str} {p : Po} {x : Ex0} {b l : List St0} (hn : okT n) (h : k = 4 ∨ k = 5) (hx : okE x) (hb : okSs b) (hl : okSs l) (h5 : k = 5 → l = []) : okS (.mk k ⟨false, []⟩ n [x] b l p) := ⟨⟨t0, hn⟩, ⟨fun _ => rfl, fun h => by omega, fun h => by omega, by omega⟩, ⟨hx, trivial⟩, h5, hb, hl⟩
theorem fls_snoc (l : List Fl0) (n : Str) (t : Tp) (p q : Int) : (l ++ [(⟨n, t, ⟨p, q⟩⟩ : Fl0)]).map Fl0.row = l.map Fl0.row ++ [[.str n, .bool t.ptr, .str t.to, .int .i64 p, .int .i64 q]] := by
  rw [List.map_append, List.map_cons, List.map_nil, Fl0.row]
theorem len_snoc {α : Type} (l : List α) (x : α) : (l ++ [x]).length = l.length + 1 := by simp
def okF (f : Fl0) : Prop := okT f.name ∧ okT f.t.to
theorem okF_snoc {l : List Fl0} {f : Fl0} (h : ∀ q, q ∈ l → okF q) (hf : okF f) : ∀ q, q ∈ l ++ [f] → okF q := fun q hq => by
  rcases List.mem_append.1 hq with hq | hq
  · exact h q hq
  · cases List.mem_singleton.1 hq; exact hf
/-- How great a program is. -/
def szSr (l : List Sr0) : Nat := (l.map fun s => 1 + s.fields.length).sum
def szFn (l : List Fn0) : Nat := (l.map fun f => 1 + f.params.length + sizL f.body).sum
def szP (p : Pr0) : Nat := szSr p.structs + szFn p.funcs
/-- What is asked of a program that was read. -/
structure OkP (p : Pr0) : Prop where
  structs : p.structs.length ≤ 1000000
  funcs : p.funcs.length ≤ 1000000
  fields : ∀ s, s ∈ p.structs → s.fields.length ≤ 1000000
  params : ∀ f, f ∈ p.funcs → f.params.length ≤ 1000000
  size : ∀ f, f ∈ p.funcs → sizL f.body + f.params.length ≤ 1000000
  ok : ∀ f, f ∈ p.funcs → okSs f.body
  snm : ∀ s, s ∈ p.structs → okT s.name ∧ ∀ f, f ∈ s.fields → okF f
  fnm : ∀ f, f ∈ p.funcs → okT f.name ∧ okT f.ret.to ∧ ∀ q, q ∈ f.params → okF q
  total : szP p ≤ 3001
theorem okP_nil : OkP ⟨[], []⟩ := ⟨by decide, by decide, by simp, by simp, by simp, by simp, by simp, by simp, by decide⟩
theorem len_szS : ∀ l : List Sr0, l.length ≤ szSr l := fun l => by
  induction l with
  | nil => exact Nat.zero_le _
  | cons s l ih => simp only [szSr, List.map_cons, List.sum_cons, List.length_cons] at *; omega
theorem len_szF : ∀ l : List Fn0, l.length ≤ szFn l := fun l => by
  induction l with
  | nil => exact Nat.zero_le _
  | cons s l ih => simp only [szFn, List.map_cons, List.sum_cons, List.length_cons] at *; omega
theorem szSr_snoc (l : List Sr0) (s : Sr0) : szSr (l ++ [s]) = szSr l + (1 + s.fields.length) := by simp [szSr]
theorem szFn_snoc (l : List Fn0) (f : Fn0) : szFn (l ++ [f]) = szFn l + (1 + f.params.length + sizL f.body) := by simp [szFn]
theorem srs_snoc (l : List Sr0) (s : Sr0) : (l ++ [s]).map Sr0.row = l.map Sr0.row ++ [[.str s.name, .sl (s.fields.map Fl0.row), .int .i64 s.at_.line, .int .i64 s.at_.col]] := by
  rw [List.map_append, List.map_cons, List.map_nil, Sr0.row]
theorem fns_snoc (l : List Fn0) (s : Fn0) : (l ++ [s]).map Fn0.row = l.map Fn0.row ++ [[.str s.name, .sl (s.params.map Fl0.row), .bool s.ret.ptr, .str s.ret.to, .sl (s.body.map St0.row), .int .i64 s.at_.line, .int .i64 s.at_.col]] := by
  rw [List.map_append, List.map_cons, List.map_nil, Fn0.row]
theorem okP_struct {p : Pr0} {s : Sr0} (h : OkP p) (hn : p.structs.length + 1 ≤ 1000000) (hs : s.fields.length ≤ 1000000) (h4 : okT s.name ∧ ∀ f, f ∈ s.fields → okF f) (h5 : szP p + (1 + s.fields.length) ≤ 3001) : OkP ⟨p.structs ++ [s], p.funcs⟩ := by
  refine ⟨by simpa using hn, h.funcs, fun q hq => ?_, h.params, h.size, h.ok, fun q hq => ?_, h.fnm, by unfold szP at *; rw [szSr_snoc]; simp only; omega⟩
  rcases List.mem_append.1 hq with hq | hq
  · exact h.fields q hq
  · cases List.mem_singleton.1 hq; exact hs
  rcases List.mem_append.1 hq with hq | hq
  · exact h.snm q hq
  · cases List.mem_singleton.1 hq; exact h4
theorem okP_func {p : Pr0} {s : Fn0} (h : OkP p) (hn : p.funcs.length + 1 ≤ 1000000) (h1 : s.params.length ≤ 1000000) (h2 : sizL s.body + s.params.length ≤ 1000000) (h3 : okSs s.body) (h4 : okT s.name ∧ okT s.ret.to ∧ ∀ q, q ∈ s.params → okF q) (h5 : szP p + (1 + s.params.length + sizL s.body) ≤ 3001) : OkP ⟨p.structs, p.funcs ++ [s]⟩ := by
  refine ⟨h.structs, by simpa using hn, h.fields, fun q hq => ?_, fun q hq => ?_, fun q hq => ?_, h.snm, fun q hq => ?_, by unfold szP at *; rw [szFn_snoc]; simp only; omega⟩
  all_goals
    rcases List.mem_append.1 hq with hq | hq
    first | exact h.params q hq | exact h.size q hq | exact h.ok q hq | exact h.fnm q hq
    cases List.mem_singleton.1 hq
    first | exact h1 | exact h2 | exact h3 | exact h4
theorem eachL_few (s : Str) (hs : s.length ≤ 3000) : (eachL s).length ≤ 1000000 := by
  unfold eachL
  rw [if_neg (by omega)]
  have := eachF_len s (1, 1) (s.length + 1)
  omega
theorem refR_len (l : List (Tok × Dg)) : (refR l).1.length ≤ l.length := by
  unfold refR
  simp only [List.length_map]
  exact List.length_filter_le _ _
theorem eachL_few1 (s : Str) (hs : s.length ≤ 3000) : (eachL s).length ≤ 3001 := by
  unfold eachL
  rw [if_neg (by omega)]
  have := eachF_len s (1, 1) (s.length + 1)
  omega
theorem lexR_num {l : List UInt8} {k v : Int} {n : Nat} (h : lexR l = .tok k n v) : okN v := by
  cases l with
  | nil => simp only [lexR] at h; cases h; exact n0
  | cons c t =>
    simp only [lexR] at h
    split at h
    · unfold wordR at h
      split at h
      · cases h
      · cases h; exact n0
    · split at h
      · unfold numberR at h
        split at h
        · cases h
        · split at h
          · cases h
          · rename_i hv
            cases h
            exact ⟨by omega, by omega⟩
      · unfold signR at h
        split at h
        · cases h; exact n0
        · split at h
          · cases h; exact n0
          · cases h
theorem spanL_mem {p : UInt8 → Bool} : ∀ {l : List UInt8} {c : UInt8}, c ∈ l.take (spanL p l) → p c = true
  | [], c, h => by simp at h
  | a :: l, c, h => by
    by_cases hp : p a = true
    · simp only [spanL, hp, if_true, List.take_succ_cons, List.mem_cons] at h
      rcases h with rfl | h
      · exact hp
      · exact spanL_mem h
    · simp [spanL, hp] at h
theorem lexR_nl {l : List UInt8} {k v : Int} {n : Nat} (h : lexR l = .tok k n v) : (10 : UInt8) ∉ l.take n := by
  cases l with
  | nil => simp
  | cons c t =>
    simp only [lexR] at h
    split at h
    · unfold wordR at h
      split at h
      · cases h
      · cases h
        intro hm
        have := spanL_mem hm
        exact absurd this (by decide)
    · split at h
      · unfold numberR at h
        split at h
        · cases h
        · split at h
          · cases h
          · cases h
            intro hm
            have := spanL_mem hm
            exact absurd this (by decide)
      · unfold signR at h
        split at h
        · rename_i h2
          cases h
          intro hm
          generalize (c :: t).take 2 = q at h2 hm
          have h3 := h2.2
          simp only [signs2, List.mem_cons, List.mem_nil_iff, or_false] at h3
          rcases h3 with rfl | rfl | rfl | rfl | rfl <;> simp at hm
        · split at h
          · rename_i h2
            cases h
            simp only [List.take_succ_cons, List.take_zero, List.mem_singleton]
            rintro rfl
            simp [oneSign, signs1] at h2
          · cases h
theorem eachF_tx (n : Nat) : ∀ (g : Nat) (l : List UInt8) (p : Int × Int), l.length ≤ n → ∀ x, x ∈ eachF g l p → (x.1.text.length ≤ n ∧ (10 : UInt8) ∉ x.1.text) ∧ okN x.1.num := by
  intro g
  induction g with
  | zero => intro l p _ x hx; cases hx
  | succ g ih =>
    intro l p hl x hx
    have hd : (l.drop (skipN false l)).length ≤ n := by rw [List.length_drop]; omega
    simp only [eachF] at hx
    split at hx
    · rename_i f hf
      cases List.mem_singleton.1 hx
      exact ⟨⟨Nat.zero_le _, by simp [Tok.zero]⟩, n0⟩
    · rename_i k m v hf
      rcases List.mem_cons.1 hx with rfl | hx
      · refine ⟨⟨?_, lexR_nl hf⟩, lexR_num hf⟩
        simp only [List.length_take]
        omega
      · split at hx
        · cases hx
        · exact ih _ _ (by rw [List.length_drop]; omega) x hx
end Go.Proofs.Ytlcbnlfbbjmpbaa
