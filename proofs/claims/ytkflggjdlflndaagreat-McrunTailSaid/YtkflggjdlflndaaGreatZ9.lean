/- The machine: memory that is made goes into the region. Conditions: none. -/
import Derived.Test.YtkflggjdlflndaaGreatZ8
set_option linter.unusedSimpArgs false
set_option linter.unusedVariables false
namespace Go.Proofs.YtkflggjdlflndaaGreat
open Go Go.Ab
theorem absorb_eq {n : Nat} {R : List (List AV)} {mid news : List AObj} {out : Out} (hn : mid.length + 1 = n) (h1 : ∀ o, o ∈ news → newO n R.length o) (h2 : ∀ o, o ∈ mid → oldO n R.length o) (h3 : ∀ r, r ∈ refs (mvA n R.length (outC out)) → r < n) :
    absorbX n (some (out, .reg R :: (mid ++ news))) = some (mvOut n R.length out, .reg (R ++ news.map (mvC n R.length)) :: mid.map (mvO n R.length)) := by
  have e : n - 1 = mid.length := by omega
  have hd : (mid ++ news).drop (n - 1) = news := by rw [e]; simp
  have ht : (mid ++ news).take (n - 1) = mid := by rw [e]; simp
  unfold absorbX
  simp only
  unfold absorbK
  rw [if_pos ⟨by omega, by simp; omega, by rw [hd]; exact h1, by rw [ht]; exact h2, h3⟩, hd, ht]
theorem mv_ptrV (n m : Nat) (p : Option Nat) : mvA n m (ptrV p) = ptrV p := mv_none n m (ptrV_refs p)
theorem refs_nil_all : ∀ {l : List AV}, (l.map refs).flatten = [] → refsAL l = []
  | [], _ => rfl
  | c :: cs, h => by
    rw [List.map_cons, List.flatten_cons, List.append_eq_nil_iff] at h
    rw [refsAL, h.1, refs_nil_all h.2]; rfl
theorem mv_vals (n m : Nat) (l : List Vl) : mvL n m (valsA l) = valsA l := mvL_none n m (refs_nil_all (vals_refs l))
theorem mv_cells (n m : Nat) (l : List Nat) : mvL n m (l.map cellA) = l.map cellA := mvL_none n m (refs_nil_all (cell_refs l))
theorem rgA_len (R : List Blk) : (rgA R).length = R.length := List.length_map _
theorem rgA_app (R : List Blk) (a b : Blk) : rgA R ++ [a.av, b.av] = rgA (R ++ [a, b]) := by simp [rgA]
theorem in_vals {n m : Nat} {l : List Vl} {c : AV} (h : c ∈ valsA l) : refs (mvA n m c) = [] := by
  have h0 := refs_nil_all (vals_refs l)
  have : ∀ {l : List AV}, refsAL l = [] → c ∈ l → refs c = [] := by
    intro l
    induction l with
    | nil => intro _ h; cases h
    | cons x xs ih =>
      intro h hc
      rw [refsAL, List.append_eq_nil_iff] at h
      rcases List.mem_cons.1 hc with rfl | hc
      · exact h.1
      · exact ih h.2 hc
  have hr := this h0 h
  rw [mv_none n m hr, hr]
theorem in_cells {n m : Nat} {l : List Nat} {c : AV} (h : c ∈ l.map cellA) : refs (mvA n m c) = [] := by
  obtain ⟨k, _, rfl⟩ := List.mem_map.1 h
  rfl
theorem abs_enter0 (s : Mc) (c : Cd1) (tv : Int) :
    absorbX 4 (some (.ret (.tuple []), [.reg (rgA s.reg), .cells [.d s.m.sr, .d s.m.fr, .d (.sl (s.inp.map rowU)), .d (.sl (s.fails.map rowT)), .ptr 4 0, .stk 2 s.es s.cells.length, .d (.int .i64 s.asked), .d (.int .i64 s.kind), .d (.int .i64 s.code), .grow 3 s.eg (s.out.map rowU), .d (.int .i64 s.steps), .d (.int .i64 0)], .stk s.es 1 (s.cells.map cellA), .grow s.eg 1, .cells [.dp c.row, .d (.int .i64 0), .arr 5 0 c.vars.length 2, ptrV s.top, .d (.int .i64 tv)], .cells (valsA (List.replicate c.vars.length (0, none)))]))
      = some (.ret (.tuple []), (enterP s c [] tv).H) := by
  have h := absorb_eq (n := 4) (R := rgA s.reg) (out := .ret (.tuple []))
    (mid := [.cells [.d s.m.sr, .d s.m.fr, .d (.sl (s.inp.map rowU)), .d (.sl (s.fails.map rowT)), .ptr 4 0, .stk 2 s.es s.cells.length, .d (.int .i64 s.asked), .d (.int .i64 s.kind), .d (.int .i64 s.code), .grow 3 s.eg (s.out.map rowU), .d (.int .i64 s.steps), .d (.int .i64 0)], .stk s.es 1 (s.cells.map cellA), .grow s.eg 1])
    (news := [.cells [.dp c.row, .d (.int .i64 0), .arr 5 0 c.vars.length 2, ptrV s.top, .d (.int .i64 tv)], .cells (valsA (List.replicate c.vars.length (0, none)))]) rfl ?_ ?_ ?_
  · refine Eq.trans h ?_
    simp only [List.map_cons, List.map_nil, mvC, mvO, mvL, mvA, mv_vals, mv_cells, mv_ptrV, mvOut, rgA_len, Nat.reduceLeDiff, if_true, Nat.sub_self, Nat.add_zero, Nat.reduceSub, enterP, Mc.H, Mc.obj, ptrV_some, List.length_nil, Nat.sub_zero, List.nil_append, Nat.le_refl, if_false]
    rw [← rgA_app]
    rfl
  · intro o ho
    simp only [List.mem_cons, List.not_mem_nil, or_false] at ho
    rcases ho with rfl | rfl
    · intro x hx
      simp only [List.mem_cons, List.not_mem_nil, or_false] at hx
      rcases hx with rfl | rfl | rfl | rfl | rfl <;> simp [mvA, refs, mv_ptrV, ptrV_refs]
    · intro x hx; exact in_vals hx
  · intro o ho
    simp only [List.mem_cons, List.not_mem_nil, or_false] at ho
    rcases ho with rfl | rfl | rfl
    · intro x hx
      simp only [List.mem_cons, List.not_mem_nil, or_false] at hx
      rcases hx with rfl | rfl | rfl | rfl | rfl | rfl | rfl | rfl | rfl | rfl | rfl | rfl <;> simp [mvA, refs]
    · intro x hx r hr; rw [in_cells hx] at hr; cases hr
    · trivial
  · simp [outC, mvA, mvL, refs, refsAL]
theorem abs_enter1 (s : Mc) (c : Cd1) (tv : Int) (args : List Vl) (e : Nat) :
    absorbX 5 (some (.ret (.tuple []), [.reg (rgA s.reg), .cells [.d s.m.sr, .d s.m.fr, .d (.sl (s.inp.map rowU)), .d (.sl (s.fails.map rowT)), .ptr 5 0, .stk 2 s.es s.cells.length, .d (.int .i64 s.asked), .d (.int .i64 s.kind), .d (.int .i64 s.code), .grow 3 s.eg (s.out.map rowU), .d (.int .i64 s.steps), .d (.int .i64 0)], .stk s.es 1 (s.cells.map cellA), .grow s.eg 1, aO e args, .cells [.dp c.row, .d (.int .i64 0), .arr 6 0 c.vars.length 2, ptrV s.top, .d (.int .i64 tv)], .cells (valsA (args ++ List.replicate (c.vars.length - args.length) (0, none)))]))
      = some (.ret (.tuple []), (enterP s c args tv).H ++ [aO e args]) := by
  have h := absorb_eq (n := 5) (R := rgA s.reg) (out := .ret (.tuple []))
    (mid := [.cells [.d s.m.sr, .d s.m.fr, .d (.sl (s.inp.map rowU)), .d (.sl (s.fails.map rowT)), .ptr 5 0, .stk 2 s.es s.cells.length, .d (.int .i64 s.asked), .d (.int .i64 s.kind), .d (.int .i64 s.code), .grow 3 s.eg (s.out.map rowU), .d (.int .i64 s.steps), .d (.int .i64 0)], .stk s.es 1 (s.cells.map cellA), .grow s.eg 1, aO e args])
    (news := [.cells [.dp c.row, .d (.int .i64 0), .arr 6 0 c.vars.length 2, ptrV s.top, .d (.int .i64 tv)], .cells (valsA (args ++ List.replicate (c.vars.length - args.length) (0, none)))]) rfl ?_ ?_ ?_
  · refine Eq.trans h ?_
    unfold aO
    simp only [List.map_cons, List.map_nil, mvC, mvO, mvL, mvA, mv_vals, mv_cells, mv_ptrV, mvOut, rgA_len, Nat.reduceLeDiff, if_true, Nat.sub_self, Nat.add_zero, Nat.reduceSub, Mc.H, Mc.obj, ptrV_some, List.length_nil, Nat.sub_zero, List.nil_append, Nat.le_refl, if_false, enterP, List.cons_append]
    rw [← rgA_app]
    rfl
  · intro o ho
    simp only [List.mem_cons, List.not_mem_nil, or_false] at ho
    rcases ho with rfl | rfl
    · intro x hx
      simp only [List.mem_cons, List.not_mem_nil, or_false] at hx
      rcases hx with rfl | rfl | rfl | rfl | rfl <;> simp [mvA, refs, mv_ptrV, ptrV_refs]
    · intro x hx; exact in_vals hx
  · intro o ho
    simp only [List.mem_cons, List.not_mem_nil, or_false] at ho
    rcases ho with rfl | rfl | rfl | rfl
    · intro x hx
      simp only [List.mem_cons, List.not_mem_nil, or_false] at hx
      rcases hx with rfl | rfl | rfl | rfl | rfl | rfl | rfl | rfl | rfl | rfl | rfl | rfl <;> simp [mvA, refs]
    · intro x hx r hr; rw [in_cells hx] at hr; cases hr
    · trivial
    · intro x hx r hr; rw [in_vals hx] at hr; cases hr
  · simp [outC, mvA, mvL, refs, refsAL]
theorem abs_fresh (s : Mc) (nf : Nat) (hf : failsAt s = false) :
    absorbX 4 (some (.ret (.agg [.d (.int .i64 0), .ptr 4 0]), [.reg (rgA s.reg), .cells [.d s.m.sr, .d s.m.fr, .d (.sl (s.inp.map rowU)), .d (.sl (s.fails.map rowT)), ptrV s.top, .stk 2 (s.es + 1) (s.cells.length + 1), .d (.int .i64 (IntKind.wrap .i64 (s.asked + 1))), .d (.int .i64 s.kind), .d (.int .i64 s.code), .grow 3 s.eg (s.out.map rowU), .d (.int .i64 s.steps), .d (.int .i64 0)], .stk (s.es + 1) 1 (s.cells.map cellA ++ [.ptr 4 0]), .grow s.eg 1, .cells [.d (.bool true), .arr 5 0 nf 2], .cells (valsA (List.replicate nf (0, none)))]))
      = some (.ret (.agg [.d (.int .i64 (freshP s nf).1.1), ptrV (freshP s nf).1.2]), (freshP s nf).2.H) := by
  have h := absorb_eq (n := 4) (R := rgA s.reg) (out := .ret (.agg [.d (.int .i64 0), .ptr 4 0]))
    (mid := [.cells [.d s.m.sr, .d s.m.fr, .d (.sl (s.inp.map rowU)), .d (.sl (s.fails.map rowT)), ptrV s.top, .stk 2 (s.es + 1) (s.cells.length + 1), .d (.int .i64 (IntKind.wrap .i64 (s.asked + 1))), .d (.int .i64 s.kind), .d (.int .i64 s.code), .grow 3 s.eg (s.out.map rowU), .d (.int .i64 s.steps), .d (.int .i64 0)], .stk (s.es + 1) 1 (s.cells.map cellA ++ [.ptr 4 0]), .grow s.eg 1])
    (news := [.cells [.d (.bool true), .arr 5 0 nf 2], .cells (valsA (List.replicate nf (0, none)))]) rfl ?_ ?_ ?_
  · refine Eq.trans h ?_
    have e1 : mvL 4 s.reg.length (s.cells.map cellA ++ [AV.ptr 4 0]) = (s.cells ++ [s.reg.length]).map cellA := by
      rw [mvL_map, List.map_append, ← mvL_map, mv_cells, List.map_append]
      rfl
    simp only [List.map_cons, List.map_nil, mvC, mvO, mvL, mvA, mv_vals, mv_cells, mv_ptrV, mvOut, rgA_len, Nat.reduceLeDiff, if_true, Nat.sub_self, Nat.add_zero, Nat.reduceSub, Mc.H, Mc.obj, ptrV_some, List.length_nil, Nat.sub_zero, List.nil_append, Nat.le_refl, if_false, freshP, hf, Bool.false_eq_true, e1]
    rw [← rgA_app, List.length_append]
    rfl
  · intro o ho
    simp only [List.mem_cons, List.not_mem_nil, or_false] at ho
    rcases ho with rfl | rfl
    · intro x hx
      simp only [List.mem_cons, List.not_mem_nil, or_false] at hx
      rcases hx with rfl | rfl <;> simp [mvA, refs]
    · intro x hx; exact in_vals hx
  · intro o ho
    simp only [List.mem_cons, List.not_mem_nil, or_false] at ho
    rcases ho with rfl | rfl | rfl
    · intro x hx
      simp only [List.mem_cons, List.not_mem_nil, or_false] at hx
      rcases hx with rfl | rfl | rfl | rfl | rfl | rfl | rfl | rfl | rfl | rfl | rfl | rfl <;> simp [mvA, refs, mv_ptrV, ptrV_refs]
    · intro x hx r hr
      rcases List.mem_append.1 hx with hx | hx
      · rw [in_cells hx] at hr; cases hr
      · simp only [List.mem_cons, List.not_mem_nil, or_false] at hx
        subst hx
        simp [mvA, refs] at hr
    · trivial
  · simp [outC, mvA, mvL, refs, refsAL]
/-- Nothing new: nothing goes. -/
theorem abs_none (s : Mc) (c : AV) (hc : refs c = []) : absorbX 4 (some (.ret c, s.H)) = some (.ret c, s.H) := by
  have h := absorb_eq (n := 4) (R := rgA s.reg) (out := .ret c) (mid := [s.obj, .stk s.es 1 (s.cells.map cellA), .grow s.eg 1]) (news := []) rfl ?_ ?_ ?_
  · refine Eq.trans h ?_
    have e1 : mvO 4 (rgA s.reg).length s.obj = s.obj := by
      simp only [Mc.obj, mvO, mvL, mvA, mv_ptrV]
    simp only [List.map_cons, List.map_nil, mvOut, mv_none _ _ hc, List.append_nil, Mc.H]
    rw [e1]
    simp only [mvO, mv_cells]
  · intro o ho; cases ho
  · intro o ho
    simp only [List.mem_cons, List.not_mem_nil, or_false] at ho
    rcases ho with rfl | rfl | rfl
    · intro x hx
      simp only [List.mem_cons, List.not_mem_nil, or_false] at hx
      rcases hx with rfl | rfl | rfl | rfl | rfl | rfl | rfl | rfl | rfl | rfl | rfl | rfl <;> simp [mvA, refs, mv_ptrV, ptrV_refs]
    · intro x hx r hr; rw [in_cells hx] at hr; cases hr
    · trivial
  · intro r hr
    simp only [outC, mv_none _ _ hc, hc] at hr
    cases hr
/-- What is known of the library. -/
noncomputable def extB : Sem' := fun f as0 H => if f = 116 then wordX as0 H else if f = 25 then bcloneX as0 H else none
theorem extB_ok : Sound Tryz.prog extB := by
  intro f as0 H out H' h
  unfold extB at h
  split at h
  · subst f
    exact word_sound as0 H out H' h
  · split at h
    · subst f
      exact bclone_sound as0 H out H' h
    · cases h
def isAb (f : Nat) : Bool := decide (f = 26) || decide (f = 53)
/-- And what makes memory that goes into the region. -/
noncomputable def extZ : Sem' := fun f as0 H => if isAb f = true then absorbX H.length (G extB f as0 H) else extB f as0 H
theorem extZ_ok : Sound Tryz.prog extZ := by
  intro f as0 H out H' h
  unfold extZ at h
  split at h
  · rename_i hf
    exact absS_ok (G_ok extB_ok) isAb f as0 H out H' (by unfold absS; rw [if_pos hf]; exact h)
  · exact extB_ok f as0 H out H' h
theorem t1_of {ext : Sem'} (h : ∀ f xs H, isExt f = false → ext f xs H = none) (hw : ∀ xs H, ext 116 xs H = wordX xs H) (hb : ∀ xs H, ext 25 xs H = bcloneX xs H) : T1 ext :=
  ⟨⟨⟨fun f xs H hf => h f xs H hf⟩, fun op => by rw [hw]; rfl⟩, fun l hl => by rw [hb]; exact bcloneX_d l hl⟩
theorem extB_t1 : T1 extB := by
  refine t1_of (fun f xs H h => ?_) (fun xs H => rfl) (fun xs H => ?_)
  · unfold extB
    rw [if_neg, if_neg]
    · rintro rfl
      cases h
    · rintro rfl
      cases h
  · unfold extB
    rw [if_neg (by decide), if_pos rfl]
theorem extB_no (f : Nat) (h : isAb f = true) (xs : List AV) (H : List AObj) : extB f xs H = none := by
  unfold extB
  rw [if_neg, if_neg]
  · rintro rfl; cases h
  · rintro rfl; cases h
theorem extZ_t3 : T3 extZ := by
  have h1 : T1 extZ := by
    refine t1_of (fun f xs H h => ?_) (fun xs H => rfl) (fun xs H => ?_)
    · unfold extZ
      rw [if_neg]
      · exact extB_t1.clear f xs H h
      · unfold isAb
        simp only [Bool.or_eq_true, decide_eq_true_eq]
        rintro (rfl | rfl) <;> cases h
    · unfold extZ
      rw [if_neg (by decide)]
      unfold extB
      rw [if_neg (by decide), if_pos rfl]
  refine ⟨⟨h1, fun s f k0 k1 k2 k3 k4 k5 => ?_⟩, fun s f tv c k0 k1 k2 => ?_, fun s f tv c args e k0 k1 k2 k3 => ?_⟩
  · unfold extZ
    rw [if_pos (show isAb 53 = true from rfl), fresh_base extB_t1 (extB_no _ rfl) s f k0 k1 k2 k3 k4]
    show absorbX 4 _ = _
    cases hf : failsAt s with
    | true =>
      rw [if_pos rfl, abs_none _ _ rfl]
      unfold freshP
      rw [hf]
      rfl
    | false =>
      rw [if_neg (by decide)]
      exact abs_fresh s _ hf
  · unfold extZ
    rw [if_pos (show isAb 26 = true from rfl), enter_base0 extB_t1 (extB_no _ rfl) s f tv c k0 k1 k2]
    exact abs_enter0 s c tv
  · unfold extZ
    rw [if_pos (show isAb 26 = true from rfl), enter_base1 extB_t1 (extB_no _ rfl) s f tv c args e k3 k0 k1 k2]
    exact abs_enter1 s c tv args e
end Go.Proofs.YtkflggjdlflndaaGreat
