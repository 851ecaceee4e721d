/- The machine goes right: a step. Conditions: none. -/
import Derived.Test.YtkflggjdlflndaaGreatZF
set_option linter.unusedSimpArgs false
set_option linter.unusedVariables false
namespace Go.Proofs.YtkflggjdlflndaaGreat
open Go Go.Ab
variable {ext : Sem'}
theorem Cnt.more {s : Mc} {n k : Int} (h : Cnt s n) (hk : n ≤ k) : Cnt s k := ⟨h.as0, by have := h.as1; omega, by have := h.ce1; omega, by have := h.ou1; omega⟩
theorem cnt_num {s : Mc} {n : Int} (h : Cnt s n) (i : In1) (vk : Nat) (l : List Vl) : Cnt (numbersP s i vk l).2 (n + 1) ∧ (numbersP s i vk l).2.m = s.m ∧ (numbersP s i vk l).2.fails = s.fails ∧ (numbersP s i vk l).2.steps = s.steps := by
  obtain ⟨h1, h2, h3, h4⟩ := h
  unfold numbersP
  split
  · exact ⟨⟨h1, by show s.asked ≤ _; omega, by show (s.cells.length : Int) ≤ _; omega, by show (s.out.length : Int) ≤ _; omega⟩, rfl, rfl, rfl⟩
  split
  · exact ⟨⟨h1, by show s.asked ≤ _; omega, by show (s.cells.length : Int) ≤ _; omega, by show (s.out.length : Int) ≤ _; omega⟩, rfl, rfl, rfl⟩
  split
  · unfold getP
    split
    · exact ⟨⟨h1, by show s.asked ≤ _; omega, by show (s.cells.length : Int) ≤ _; omega, by show (s.out.length : Int) ≤ _; omega⟩, rfl, rfl, rfl⟩
    · exact ⟨⟨h1, by show s.asked ≤ _; omega, by show (s.cells.length : Int) ≤ _; omega, by show (s.out.length : Int) ≤ _; omega⟩, rfl, rfl, rfl⟩
  split
  · exact ⟨⟨h1, by show s.asked ≤ _; omega, by show (s.cells.length : Int) ≤ _; omega, by show ((s.out ++ [_]).length : Int) ≤ _; rw [List.length_append]; simp; omega⟩, rfl, rfl, rfl⟩
  split
  · exact ⟨⟨h1, by show s.asked ≤ _; omega, by show (s.cells.length : Int) ≤ _; omega, by show (s.out.length : Int) ≤ _; omega⟩, rfl, rfl, rfl⟩
  · exact ⟨⟨h1, by show s.asked ≤ _; omega, by show (s.cells.length : Int) ≤ _; omega, by show (s.out.length : Int) ≤ _; omega⟩, rfl, rfl, rfl⟩
theorem cnt_fresh {s : Mc} {n : Int} (h : Cnt s n) (hn : n ≤ 1000000) (nf : Nat) : Cnt (freshP s nf).2 (n + 1) ∧ (freshP s nf).2.m = s.m ∧ (freshP s nf).2.fails = s.fails ∧ (freshP s nf).2.steps = s.steps := by
  obtain ⟨h1, h2, h3, h4⟩ := h
  have e : IntKind.wrap .i64 (s.asked + 1) = s.asked + 1 := wrap64 (by omega) (by omega)
  unfold freshP
  rw [e]
  split
  · exact ⟨⟨by show 0 ≤ s.asked + 1; omega, by show s.asked + 1 ≤ _; omega, by show (s.cells.length : Int) ≤ _; omega, by show (s.out.length : Int) ≤ _; omega⟩, rfl, rfl, rfl⟩
  · exact ⟨⟨by show 0 ≤ s.asked + 1; omega, by show s.asked + 1 ≤ _; omega, by show ((s.cells ++ [_]).length : Int) ≤ _; rw [List.length_append]; simp; omega, by show (s.out.length : Int) ≤ _; omega⟩, rfl, rfl, rfl⟩
theorem cnt_heap {s : Mc} {n : Int} (h : Cnt s n) (hn : n ≤ 1000000) (i : In1) (vk : Nat) (l : List Vl) : Cnt (heapM s i vk l).2 (n + 1) ∧ (heapM s i vk l).2.m = s.m ∧ (heapM s i vk l).2.fails = s.fails ∧ (heapM s i vk l).2.steps = s.steps := by
  have hf := cnt_fresh h hn (nFields s.m i.f)
  obtain ⟨h1, h2, h3, h4⟩ := h
  have hs : ∀ t : Mc, t.asked = s.asked → t.cells = s.cells → t.out = s.out → Cnt t (n + 1) := fun t e1 e2 e3 => ⟨by rw [e1]; exact h1, by rw [e1]; omega, by rw [e2]; omega, by rw [e3]; omega⟩
  unfold heapM
  split
  · exact ⟨hs _ rfl rfl rfl, rfl, rfl, rfl⟩
  split
  · exact ⟨hs _ rfl rfl rfl, rfl, rfl, rfl⟩
  split
  · obtain ⟨⟨a1, a2, a3, a4⟩, b1, b2, b3⟩ := hf
    exact ⟨⟨a1, a2, a3, a4⟩, b1, b2, b3⟩
  split
  · exact ⟨hs _ rfl rfl rfl, rfl, rfl, rfl⟩
  split
  · split
    · exact ⟨hs _ rfl rfl rfl, rfl, rfl, rfl⟩
    · exact ⟨hs _ rfl rfl rfl, rfl, rfl, rfl⟩
  split
  · split
    · exact ⟨hs _ rfl rfl rfl, rfl, rfl, rfl⟩
    · exact ⟨hs _ rfl rfl rfl, rfl, rfl, rfl⟩
  · exact ⟨hs _ rfl rfl rfl, rfl, rfl, rfl⟩
theorem args_types {c : Cd1} : ∀ {l : List Int} {vs : List Vr1}, argsP c l vs = true → ∀ (j : Nat) (a : Int) (v : Vr1), l[j]? = some a → vs[j]? = some v → varT c a = v.t
  | [], _, _, j, a, v, h, _ => by simp at h
  | _ :: _, [], _, j, a, v, _, h => by simp at h
  | a :: l, v :: vs, h, 0, a', v', h1, h2 => by
    simp only [argsP, Bool.and_eq_true, decide_eq_true_eq] at h
    simp only [List.getElem?_cons_zero, Option.some.injEq] at h1 h2
    rw [← h1, ← h2]; exact h.1
  | a :: l, v :: vs, h, j + 1, a', v', h1, h2 => by
    simp only [argsP, Bool.and_eq_true, decide_eq_true_eq] at h
    rw [List.getElem?_cons_succ] at h1 h2
    exact args_types h.2 j a' v' h1 h2
theorem call_parts {m : Md1} {c : Cd1} {i : In1} (h : callP m c i = 0) : ∃ g, 0 ≤ i.f ∧ m.funcs[i.f.toNat]? = some g ∧ i.args.length ≤ g.vars.length ∧ argsP c i.args g.vars = true ∧ varT c i.d = g.ret.t := by
  unfold callP at h
  split at h
  · cases h
  · split at h
    · cases h
    · rename_i h1 g hg
      split at h
      · cases h
      · split at h
        · cases h
        · rename_i h2 h3
          refine ⟨g, by omega, hg, by omega, by simpa using h3, by simpa using unl_zero (by decide) h⟩
/-- A function is entered. -/
theorem enter_wf {s : Mc} {T : Nat → Option (List UInt8)} {V : Nat → List Ty1} (w : Wf s T V) {g : Cd1} (hg : g ∈ s.m.funcs) {args : List Vl} (hlen : args.length ≤ g.vars.length) (hty : ∀ (j : Nat) (v : Vl) (x : Vr1), args[j]? = some v → g.vars[j]? = some x → vOk s.reg T x.t v) {tv : Int}
    (hup : ∀ u, s.top = some u → ∃ (c2 : Cd1) (pc2 : Int) (vk2 vn2 : Nat) (up2 : Option Nat) (tv2 : Int), s.reg[u]? = some (.fr c2 pc2 vk2 vn2 up2 tv2) ∧ inV c2 tv = true ∧ varT c2 tv = g.ret.t) : ∃ V', Wf (enterP s g args tv) T V' := by
  have hins := (code_parts ((right_parts w.right).code g hg)).2.1
  obtain ⟨V', hV'⟩ : ∃ V' : Nat → List Ty1, V' = fun j => if j = s.reg.length + 1 then g.vars.map (·.t) else V j := ⟨_, rfl⟩
  obtain ⟨zs, hzs⟩ : ∃ zs : List Vl, zs = args ++ List.replicate (g.vars.length - args.length) (0, none) := ⟨_, rfl⟩
  have hzl : zs.length = g.vars.length := by rw [hzs, List.length_append, List.length_replicate]; omega
  have hold : ∀ {j : Nat} {x : Blk}, s.reg[j]? = some x → j < s.reg.length := fun h => (List.getElem?_eq_some_iff.1 h).1
  have hVo : ∀ j l, s.reg[j]? = some (.vs l) → V' j = V j := fun j l h => by
    have := hold h
    rw [hV']; simp only; rw [if_neg (by omega)]
  obtain ⟨X, hX⟩ : ∃ X : List Blk, X = [.fr g 0 (s.reg.length + 1) g.vars.length s.top tv, .vs zs] := ⟨_, rfl⟩
  have hm : ∀ b, Mv s.reg (s.reg ++ X) b := fun b => mv_app _ _ b
  have hn0 : (s.reg ++ X)[s.reg.length]? = some (.fr g 0 (s.reg.length + 1) g.vars.length s.top tv) := by rw [List.getElem?_append_right (Nat.le_refl _), hX]; simp
  have hn1 : (s.reg ++ X)[s.reg.length + 1]? = some (.vs zs) := by rw [List.getElem?_append_right (by omega), hX]; simp
  have hcases : ∀ {j : Nat} {x : Blk}, (s.reg ++ X)[j]? = some x → s.reg[j]? = some x ∨ (j = s.reg.length ∧ x = .fr g 0 (s.reg.length + 1) g.vars.length s.top tv) ∨ (j = s.reg.length + 1 ∧ x = .vs zs) := by
    intro j x h
    rcases Nat.lt_or_ge j s.reg.length with hj | hj
    · rw [List.getElem?_append_left hj] at h; exact .inl h
    · rcases Nat.lt_or_ge j (s.reg.length + 1) with hj2 | hj2
      · have : j = s.reg.length := by omega
        subst this
        rw [hn0] at h; cases h; exact .inr (.inl ⟨rfl, rfl⟩)
      · rcases Nat.lt_or_ge j (s.reg.length + 2) with hj3 | hj3
        · have : j = s.reg.length + 1 := by omega
          subst this
          rw [hn1] at h; cases h; exact .inr (.inr ⟨rfl, rfl⟩)
        · rw [List.getElem?_eq_none (by rw [hX]; simp; omega)] at h; cases h
  have he : enterP s g args tv = { s with top := some s.reg.length, reg := s.reg ++ X } := by unfold enterP; rw [hX, hzs]
  rw [he]
  refine ⟨V', ⟨w.right, ⟨fun j l hj => ?_, fun k al fk fn nm hk hnm => ?_⟩, ?_, fun k hk => (hm 0).isCe (w.cells k hk), fun _ => by simp⟩⟩
  · rcases hcases hj with h | ⟨_, h⟩ | ⟨e, h⟩
    · rw [hVo j l h]
      exact (w.heap.vs j l h).mv (hm 0) (fun _ _ => rfl)
    · cases h
    · cases h
      have e2 : V' j = g.vars.map (·.t) := by rw [hV', e]; simp only [if_true]
      rw [e2]
      refine ⟨by rw [List.length_map, hzl], fun i t v ht hv => ?_⟩
      rw [List.getElem?_map] at ht
      cases hx : g.vars[i]? with
      | none => rw [hx] at ht; cases ht
      | some x =>
        rw [hx] at ht
        cases ht
        rw [hzs] at hv
        rcases Nat.lt_or_ge i args.length with hi | hi
        · rw [List.getElem?_append_left hi] at hv
          exact (hty i v x hv hx).mv (hm 0) (fun _ _ => rfl)
        · rw [List.getElem?_append_right hi] at hv
          have := (List.mem_replicate.1 (List.mem_of_getElem? hv)).2
          rw [this]
          exact vOk_null _ _ _ _
  · rcases hcases hk with h | ⟨_, h⟩ | ⟨_, h⟩
    · obtain ⟨⟨fl, h2, h3⟩, h4⟩ := w.heap.ce k al fk fn nm h hnm
      exact ⟨⟨fl, app_lt h2 _, h3⟩, (hVo fk fl h2).trans h4⟩
    · cases h
    · cases h
  · show Chain s.m (s.reg ++ X) V' (some s.reg.length)
    have hlow : ∀ u, s.top = some u → u < s.reg.length := fun u hu => by
      obtain ⟨c2, pc2, vk2, vn2, up2, tv2, h1, _⟩ := hup u hu
      exact hold h1
    refine .cons (c := g) (pc := 0) (vk := s.reg.length + 1) (vn := g.vars.length) (up := s.top) (tv := tv) ⟨hn0, ⟨zs, hn1, hzl⟩, hg, Int.le_refl _, by omega, by rw [hV']; simp only [if_true], fun u hu => ?_⟩ (w.chain.mv (hm s.reg.length) hlow hVo)
    obtain ⟨c2, pc2, vk2, vn2, up2, tv2, h1, h2, h3⟩ := hup u hu
    exact ⟨hlow u hu, c2, pc2, vk2, vn2, up2, tv2, app_lt h1 _, h2, h3⟩
end Go.Proofs.YtkflggjdlflndaaGreat
