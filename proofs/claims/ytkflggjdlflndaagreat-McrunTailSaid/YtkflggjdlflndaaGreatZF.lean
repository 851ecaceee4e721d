/- The machine goes right: pointers and fields. Conditions: none. -/
import Derived.Test.YtkflggjdlflndaaGreatZE
set_option linter.unusedSimpArgs false
set_option linter.unusedVariables false
namespace Go.Proofs.YtkflggjdlflndaaGreat
open Go Go.Ab
theorem names_nodup {m : Md1} (h : twiceP m = false) : (m.structs.map (·.name)).Nodup := by
  unfold twiceP at h
  simp only [Bool.or_eq_false_iff] at h
  have := h.2.1
  unfold dbl at this
  simpa using this
theorem structAt_ix {m : Md1} (hn : (m.structs.map (·.name)).Nodup) {f : Nat} (h : f < m.structs.length) : structAt m m.structs[f].name = m.structs[f] := by
  have hany : m.structs.any (fun s => decide (s.name = m.structs[f].name)) = true := List.any_eq_true.2 ⟨m.structs[f], List.getElem_mem h, by simp⟩
  rw [← idxP_any] at hany
  unfold structAt structIx idxN
  cases hi : idxP (fun s : Sc1 => decide (s.name = m.structs[f].name)) m.structs with
  | none => rw [hi] at hany; cases hany
  | some i =>
    obtain ⟨hlt, hp⟩ := idxP_some hi
    have hpi := hp _ (List.getElem?_eq_getElem hlt)
    simp only [decide_eq_true_eq] at hpi
    have hif : i = f := by
      rcases Nat.lt_trichotomy i f with h1 | h1 | h1
      · exact absurd (by rw [List.getElem_map, List.getElem_map]; exact hpi) (List.pairwise_iff_getElem.1 hn i f (by simpa using hlt) (by simpa using h) h1)
      · exact h1
      · exact absurd (by rw [List.getElem_map, List.getElem_map]; exact hpi.symm) (List.pairwise_iff_getElem.1 hn f i (by simpa using h) (by simpa using hlt) h1)
    subst hif
    simp only [Int.toNat_natCast]
    rw [List.getElem?_eq_getElem hlt]
    rfl
/-- A new cell of a struct. -/
theorem fresh_wf {s : Mc} {T : Nat → Option (List UInt8)} {V : Nat → List Ty1} (w : Wf s T V) {f : Int} (h0 : 0 ≤ f) (h1 : f < s.m.structs.length) :
    ∃ T' V', Wf (freshP s (nFields s.m f)).2 T' V' ∧ vOk (freshP s (nFields s.m f)).2.reg T' ⟨true, ((s.m.structs[f.toNat]?).map (·.name)).getD []⟩ (freshP s (nFields s.m f)).1 ∧ (∀ j l, s.reg[j]? = some (.vs l) → V' j = V j) := by
  unfold freshP
  split
  · exact ⟨T, V, ⟨w.right, w.heap, w.chain, w.cells, w.go⟩, vOk_null _ _ _ _, fun _ _ _ => rfl⟩
  · have hlt : f.toNat < s.m.structs.length := by omega
    have hat := structAt_ix (names_nodup (right_parts w.right).once) hlt
    have hnf : nFields s.m f = s.m.structs[f.toNat].fields.length := by unfold nFields; rw [List.getElem?_eq_getElem hlt]; rfl
    have hname : ((s.m.structs[f.toNat]?).map (·.name)).getD [] = s.m.structs[f.toNat].name := by rw [List.getElem?_eq_getElem hlt]; rfl
    rw [hname, hnf]
    generalize s.m.structs[f.toNat] = sc at hat
    obtain ⟨T', hT'⟩ : ∃ T' : Nat → Option (List UInt8), T' = fun k => if k = s.reg.length then some sc.name else T k := ⟨_, rfl⟩
    obtain ⟨V', hV'⟩ : ∃ V' : Nat → List Ty1, V' = fun j => if j = s.reg.length + 1 then fieldTys s.m sc.name else V j := ⟨_, rfl⟩
    have hft : fieldTys s.m sc.name = sc.fields.map (·.t) := by unfold fieldTys; rw [hat]
    have hold : ∀ {j : Nat} {x : Blk}, s.reg[j]? = some x → j < s.reg.length := fun h => (List.getElem?_eq_some_iff.1 h).1
    have hVo : ∀ j l, s.reg[j]? = some (.vs l) → V' j = V j := fun j l h => by
      have := hold h
      rw [hV']; simp only; rw [if_neg (by omega)]
    have hTo : ∀ k, isCe s.reg[k]? → T' k = T k := fun k h => by
      cases hb : s.reg[k]? with
      | none => rw [hb] at h; exact h.elim
      | some x => have := hold hb; rw [hT']; simp only; rw [if_neg (by omega)]
    have hm : ∀ b, Mv s.reg (s.reg ++ [.ce true (s.reg.length + 1) sc.fields.length, .vs (List.replicate sc.fields.length (0, none))]) b := fun b => mv_app _ _ b
    have hn0 : (s.reg ++ [.ce true (s.reg.length + 1) sc.fields.length, .vs (List.replicate sc.fields.length (0, none))])[s.reg.length]? = some (.ce true (s.reg.length + 1) sc.fields.length) := by
      rw [List.getElem?_append_right (Nat.le_refl _)]; simp
    have hn1 : (s.reg ++ [.ce true (s.reg.length + 1) sc.fields.length, .vs (List.replicate sc.fields.length (0, none))])[s.reg.length + 1]? = some (.vs (List.replicate sc.fields.length (0, none))) := by
      rw [List.getElem?_append_right (by omega)]; simp
    have hcases : ∀ {j : Nat} {x : Blk}, (s.reg ++ [Blk.ce true (s.reg.length + 1) sc.fields.length, .vs (List.replicate sc.fields.length (0, none))])[j]? = some x → s.reg[j]? = some x ∨ (j = s.reg.length ∧ x = .ce true (s.reg.length + 1) sc.fields.length) ∨ (j = s.reg.length + 1 ∧ x = .vs (List.replicate sc.fields.length (0, none))) := by
      intro j x h
      rcases Nat.lt_or_ge j s.reg.length with hj | hj
      · rw [List.getElem?_append_left hj] at h; exact .inl h
      · rcases Nat.lt_or_ge j (s.reg.length + 1) with hj2 | hj2
        · have : j = s.reg.length := by omega
          subst this
          rw [hn0] at h; cases h; exact .inr (.inl ⟨rfl, rfl⟩)
        · rcases Nat.lt_or_ge j (s.reg.length + 2) with hj3 | hj3
          · have : j = s.reg.length + 1 := by omega
            subst this
            rw [hn1] at h; cases h; exact .inr (.inr ⟨rfl, rfl⟩)
          · rw [List.getElem?_eq_none (by simp; omega)] at h; cases h
    refine ⟨T', V', ⟨w.right, ⟨fun j l hj => ?_, fun k al fk fn nm hk hnm => ?_⟩, ?_, fun k hk => ?_, w.go⟩, ?_, hVo⟩
    · rcases hcases hj with h | ⟨_, h⟩ | ⟨e, h⟩
      · rw [hVo j l h]
        exact (w.heap.vs j l h).mv (hm 0) hTo
      · cases h
      · cases h
        have e2 : V' j = sc.fields.map (·.t) := by rw [hV', e]; simp only [if_true]; exact hft
        rw [e2]
        refine ⟨by simp, fun i t v _ hv => ?_⟩
        have : v = (0, none) := by
          have := List.mem_of_getElem? hv
          exact (List.mem_replicate.1 this).2
        rw [this]
        exact vOk_null _ _ _ _
    · rcases hcases hk with h | ⟨e, h⟩ | ⟨_, h⟩
      · rw [hTo k (by rw [h]; trivial)] at hnm
        obtain ⟨⟨fl, h2, h3⟩, h4⟩ := w.heap.ce k al fk fn nm h hnm
        refine ⟨⟨fl, app_lt h2 _, h3⟩, ?_⟩
        rw [hVo fk fl h2]
        exact h4
      · cases h
        refine ⟨⟨_, hn1, by simp⟩, ?_⟩
        rw [hT', e] at hnm
        simp only [if_true, Option.some.injEq] at hnm
        rw [hV', ← hnm]
        simp only [if_true]
      · cases h
    · show Chain s.m _ V' s.top
      cases ht : s.top with
      | none => exact Chain.nil
      | some k =>
        have hc := w.chain
        rw [ht] at hc
        exact hc.mv (hm (k + 1)) (fun q hq => by cases hq; omega) hVo
    · rcases List.mem_append.1 hk with hk | hk
      · exact (hm 0).isCe (w.cells k hk)
      · rw [List.mem_singleton] at hk
        subst hk
        show isCe (s.reg ++ _)[s.reg.length]?
        rw [hn0]
        trivial
    · intro _ k hk
      cases hk
      refine ⟨?_, ?_⟩
      · show isCe (s.reg ++ _)[s.reg.length]?
        rw [hn0]
        trivial
      · rw [hT']; simp
theorem plain9 {m : Md1} {c : Cd1} {i : In1} (h : plainP m c i = 0) (ho : i.op = 9) : varT c i.a = varT c i.d := by
  unfold plainP at h
  rw [if_neg (by omega), if_neg (by omega), if_neg (by omega), if_neg (by omega), if_neg (by omega), if_neg (by omega), if_neg (by omega), if_pos ho] at h
  have := unl_zero (by decide) h
  simp only [Bool.and_eq_true, decide_eq_true_eq] at this
  exact this.2
theorem plain13 {m : Md1} {c : Cd1} {i : In1} (h : plainP m c i = 0) (ho : i.op = 13) : (varT c i.a).ptr = true := by
  unfold plainP at h
  rw [if_neg (by omega), if_neg (by omega), if_neg (by omega), if_neg (by omega), if_neg (by omega), if_pos ho] at h
  exact unl_zero (by decide) h
theorem plain12 {m : Md1} {c : Cd1} {i : In1} (h : plainP m c i = 0) (ho : i.op = 12) : 0 ≤ i.f ∧ i.f < m.structs.length ∧ varT c i.d = ⟨true, ((m.structs[i.f.toNat]?).map (·.name)).getD []⟩ := by
  unfold plainP at h
  rw [if_neg (by omega), if_neg (by omega), if_neg (by omega), if_neg (by omega), if_neg (by omega), if_neg (by omega), if_neg (by omega), if_neg (by omega), if_neg (by omega), if_neg (by omega)] at h
  split at h
  · cases h
  · rename_i h2
    exact ⟨by omega, by omega, by simpa using unl_zero (by decide) h⟩
theorem heap_zero {m : Md1} {c : Cd1} {i : In1} {o : Int} {p : Bool} (h : heapP m c i o p = 0) : (varT c i.a).ptr = true ∧ 0 ≤ i.f ∧ i.f < ((fieldTys m (varT c i.a).to).length : Nat) ∧ (fieldTys m (varT c i.a).to)[i.f.toNat]? = some (varT c o) := by
  unfold heapP at h
  split at h
  · rename_i h1
    have h2 := unl_zero (by decide) h
    simp only [Bool.and_eq_true, decide_eq_true_eq] at h2
    have h3 := h2.1
    unfold fieldP at h1 h3
    split at h1
    · rename_i hp
      rw [if_pos hp] at h3
      split at h1
      · cases h1
      · rename_i hr
        rw [if_neg hr] at h3
        have hlt : i.f.toNat < (structAt m (varT c i.a).to).fields.length := by omega
        refine ⟨hp, by omega, by unfold fieldTys; rw [List.length_map]; omega, ?_⟩
        unfold fieldTys
        rw [List.getElem?_map, List.getElem?_eq_getElem hlt]
        rw [List.getElem?_eq_getElem hlt] at h3
        simp only [Option.map_some, Option.getD_some] at h3 ⊢
        rw [h3]
    · cases h1
  · contradiction
theorem plain7 {m : Md1} {c : Cd1} {i : In1} (h : plainP m c i = 0) (ho : i.op = 7 ∨ i.op = 10) : (varT c i.a).ptr = true ∧ 0 ≤ i.f ∧ i.f < ((fieldTys m (varT c i.a).to).length : Nat) ∧ (fieldTys m (varT c i.a).to)[i.f.toNat]? = some (varT c i.d) := by
  unfold plainP at h
  rw [if_neg (by omega), if_neg (by omega), if_neg (by omega), if_neg (by omega), if_neg (by omega), if_neg (by omega), if_neg (by omega), if_neg (by omega), if_pos ho] at h
  exact heap_zero h
theorem plain8 {m : Md1} {c : Cd1} {i : In1} (h : plainP m c i = 0) (ho : i.op = 8 ∨ i.op = 11) : (varT c i.a).ptr = true ∧ 0 ≤ i.f ∧ i.f < ((fieldTys m (varT c i.a).to).length : Nat) ∧ (fieldTys m (varT c i.a).to)[i.f.toNat]? = some (varT c i.b) := by
  unfold plainP at h
  rw [if_neg (by omega), if_neg (by omega), if_neg (by omega), if_neg (by omega), if_neg (by omega), if_neg (by omega), if_neg (by omega), if_neg (by omega), if_neg (by omega), if_pos ho] at h
  exact heap_zero h
/-- A pointer's cell has the field. -/
theorem cell_ok {s : Mc} {T : Nat → Option (List UInt8)} {V : Nat → List Ty1} (w : Wf s T V) {t : Ty1} {v : Vl} (hv : vOk s.reg T t v) (hp : t.ptr = true) {f : Int} (h0 : 0 ≤ f) (h1 : f < ((fieldTys s.m t.to).length : Nat)) : CellOk s.reg f v.2 ∧ ∀ fk fl, fieldOf s.reg v.2 = some (fk, fl) → s.reg[fk]? = some (.vs fl) ∧ V fk = fieldTys s.m t.to := by
  cases hk : v.2 with
  | none => exact ⟨trivial, fun fk fl h => by cases h⟩
  | some k =>
    obtain ⟨k1, k2⟩ := hv hp k hk
    cases hb : s.reg[k]? with
    | none => rw [hb] at k1; exact k1.elim
    | some b =>
      rw [hb] at k1
      cases b with
      | ce al fk fn =>
        obtain ⟨⟨fl, h2, h3⟩, h4⟩ := w.heap.ce k al fk fn _ hb k2
        have hlen := (w.heap.vs fk fl h2).1
        rw [h4] at hlen
        refine ⟨⟨al, fk, fl, by rw [hb, h3], h2, h0, by omega⟩, fun fk' fl' h => ?_⟩
        simp only [fieldOf, hb] at h
        cases al with
        | true =>
          simp only [h2] at h
          cases h
          exact ⟨h2, h4⟩
        | false => cases h
      | _ => exact k1.elim
theorem fields_short {m : Md1} (hl : LightM m) (f : Int) : nFields m f ≤ 1000 := by
  unfold nFields
  cases h : m.structs[f.toNat]? with
  | none => simp
  | some sc => have := (hl.fields sc (List.mem_of_getElem? h)).1; simp; omega
theorem heap_wf {s : Mc} {T : Nat → Option (List UInt8)} {V : Nat → List Ty1} (w : Wf s T V) (hl : LightM s.m) {c : Cd1} {vk : Nat} {l : List Vl} (hv : Vk s V c vk l) {i : In1} (hi : InsOk s.m c i) (ho : i.op ≤ 14) (h1 : s.cells.length ≤ 100000) (h2 : 0 ≤ s.asked) (h3 : s.asked ≤ 1000000) :
    HeapOk s i vk l ∧ ∃ T' V', Wf (heapM s i vk l).2 T' V' := by
  have hp := hi.plain ho
  refine ⟨⟨hv.num hi.vars, fun e => ?_, fun e => ?_, fun e k hk => ?_⟩, ?_⟩
  · obtain ⟨q1, q2, _⟩ := plain12 hp e
    exact ⟨q1, q2, fields_short hl _, h1, h2, h3⟩
  · have ha := hi.vars.a (by rcases e with e | e | e | e <;> rw [e] <;> rfl)
    rcases e with e | e | e | e
    · obtain ⟨q1, q2, q3, _⟩ := plain7 hp (.inl e); exact (cell_ok w (hv.val w ha) q1 q2 q3).1
    · obtain ⟨q1, q2, q3, _⟩ := plain7 hp (.inr e); exact (cell_ok w (hv.val w ha) q1 q2 q3).1
    · obtain ⟨q1, q2, q3, _⟩ := plain8 hp (.inl e); exact (cell_ok w (hv.val w ha) q1 q2 q3).1
    · obtain ⟨q1, q2, q3, _⟩ := plain8 hp (.inr e); exact (cell_ok w (hv.val w ha) q1 q2 q3).1
  · have ha := hi.vars.a (by rw [e]; rfl)
    exact (hv.val w ha (plain13 hp e) k hk).1
  · unfold heapM
    by_cases c2 : i.op = 2
    · rw [if_pos c2]
      have hd := hi.vars.d (by rw [c2]; rfl)
      exact ⟨T, V, wf_put w hv.at_ (hv.t hd) (vOk_null _ _ _ _)⟩
    rw [if_neg c2]
    by_cases c3 : i.op = 3 ∨ i.op = 9
    · rw [if_pos c3]
      have hd := hi.vars.d (by rcases c3 with e | e <;> rw [e] <;> rfl)
      have ha := hi.vars.a (by rcases c3 with e | e <;> rw [e] <;> rfl)
      refine ⟨T, V, wf_put w hv.at_ (hv.t hd) ?_⟩
      rcases c3 with e | e
      · exact vOk_num _ _ (num_dst hp (.inr (.inr (.inr (.inr e))))) _
      · rw [← plain9 hp e]; exact hv.val w ha
    rw [if_neg c3]
    by_cases c12 : i.op = 12
    · rw [if_pos c12]
      have hd := hi.vars.d (by rw [c12]; rfl)
      obtain ⟨q1, q2, q3⟩ := plain12 hp c12
      obtain ⟨T', V', w', k1, k2⟩ := fresh_wf w q1 q2
      refine ⟨T', V', wf_put w' (fresh_at s _ vk hv.at_) (t := varT c i.d) ?_ (by rw [q3]; exact k1)⟩
      rw [k2 vk l hv.at_]
      exact hv.t hd
    rw [if_neg c12]
    by_cases c13 : i.op = 13
    · rw [if_pos c13]
      refine ⟨T, V, ?_⟩
      cases hk : (nthV l i.a).2 with
      | none => simp only [freeP]; exact w
      | some k =>
        simp only [freeP]
        cases hb : s.reg[k]? with
        | none => exact w
        | some b =>
          cases b with
          | ce al fk fn =>
            cases al with
            | false => exact w
            | true =>
              simp only
              have hm := fun b => mv_ce hb false b
              refine ⟨w.right, w.heap.free hb false, ?_, fun j hj => (hm 0).isCe (w.cells j hj), w.go⟩
              show Chain s.m (s.reg.set k (.ce false fk fn)) V s.top
              cases ht : s.top with
              | none => exact Chain.nil
              | some q =>
                have hc := w.chain
                rw [ht] at hc
                exact hc.mv (hm (q + 1)) (fun z hz => by cases hz; omega) (fun _ _ _ => rfl)
          | _ => exact w
    rw [if_neg c13]
    by_cases c7 : i.op = 7 ∨ i.op = 10
    · rw [if_pos c7]
      have hd := hi.vars.d (by rcases c7 with e | e <;> rw [e] <;> rfl)
      have ha := hi.vars.a (by rcases c7 with e | e <;> rw [e] <;> rfl)
      obtain ⟨q1, q2, q3, q4⟩ := plain7 hp c7
      obtain ⟨_, k2⟩ := cell_ok w (hv.val w ha) q1 q2 q3
      refine ⟨T, V, ?_⟩
      cases hf : fieldOf s.reg (nthV l i.a).2 with
      | none => exact w
      | some x =>
        obtain ⟨fk, fl⟩ := x
        obtain ⟨k3, k4⟩ := k2 fk fl hf
        simp only
        have hvs := w.heap.vs fk fl k3
        rw [k4] at hvs
        refine wf_put w hv.at_ (hv.t hd) (hvs.2 i.f.toNat _ _ q4 ?_)
        unfold nthV
        rw [List.getElem?_eq_getElem (by have := hvs.1; omega)]
        rfl
    rw [if_neg c7]
    by_cases c8 : i.op = 8 ∨ i.op = 11
    · rw [if_pos c8]
      have hb := hi.vars.b (by rcases c8 with e | e <;> rw [e] <;> rfl)
      have ha := hi.vars.a (by rcases c8 with e | e <;> rw [e] <;> rfl)
      obtain ⟨q1, q2, q3, q4⟩ := plain8 hp c8
      obtain ⟨_, k2⟩ := cell_ok w (hv.val w ha) q1 q2 q3
      refine ⟨T, V, ?_⟩
      cases hf : fieldOf s.reg (nthV l i.a).2 with
      | none => exact w
      | some x =>
        obtain ⟨fk, fl⟩ := x
        obtain ⟨k3, k4⟩ := k2 fk fl hf
        simp only
        exact wf_put w k3 (by rw [k4]; exact q4) (hv.val w hb)
    rw [if_neg c8]
    exact ⟨T, V, w⟩
end Go.Proofs.YtkflggjdlflndaaGreat
