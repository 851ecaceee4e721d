/- Sorting, for the evaluator. Conditions: none. -/
import Derived.Test.YtchedkjlhjfadaaSortX
import Derived.Test.YtchedkjlhjfadaaCB
import Derived.Test.YtchedkjlhjfadaaAbX4
set_option linter.unusedSimpArgs false
set_option linter.unusedVariables false
namespace Go.Proofs.Ytchedkjlhjfadaa
open Go Go.Ab Go.RowKit Go.Sort
theorem keyZ_eq (x : Int) : keyZ x = keyI x := by
  have e : Go.RowKit.wrap64 (-x) = IntKind.wrap .i64 (0 - x) := by
    unfold Go.RowKit.wrap64
    simp only [IntKind.wrap, IntKind.bits, IntKind.signed]
    simp
    omega
  unfold keyZ keyI
  rw [e]
  split <;> omega
theorem ltZ_eq : ltOf ordZ = ltI := by
  funext x y
  rw [ltZ, keyZ_eq, keyZ_eq]
  rfl
theorem perm_sort : ∀ l : List Int, (sortL l).Perm l
  | [] => .refl _
  | x :: l => by
    have ins : ∀ (m : List Int), (insI x m).Perm (x :: m) := by
      intro m
      induction m with
      | nil => exact .refl _
      | cons y m ih =>
        unfold insI
        split
        · exact (List.Perm.cons y ih).trans (List.Perm.swap x y m)
        · exact .refl _
    exact (ins (sortL l)).trans (List.Perm.cons x (perm_sort l))
theorem sorted_one : ∀ {a b : List Int}, a.Perm b → a.Pairwise (fun x y => ltI y x = false) → b.Pairwise (fun x y => ltI y x = false) → a = b
  | [], b, h, _, _ => (List.nil_perm.1 h).symm ▸ rfl
  | x :: a, [], h, _, _ => by simp at h
  | x :: a, y :: b, h, h1, h2 => by
    rw [List.pairwise_cons] at h1 h2
    have hxy : x = y := by
      by_cases e : x = y
      · exact e
      · have hx : x ∈ y :: b := h.mem_iff.1 (by simp)
        have hy : y ∈ x :: a := h.mem_iff.2 (by simp)
        have hx' : x ∈ b := by simpa [e] using hx
        have hy' : y ∈ a := by
          rcases List.mem_cons.1 hy with r | r
          · exact absurd r.symm e
          · exact r
        have k1 := h1.1 y hy'
        have k2 := h2.1 x hx'
        have := ltI_total (fun r => e r.symm) k2
        rw [k1] at this
        cases this
    subst hxy
    rw [sorted_one (List.Perm.cons_inv h) h1.2 h2.2]
theorem merge_sortL (l : List Int) : (l.mergeSort fun x y => !(ltOf ordZ) y x) = sortL l := by
  rw [ltZ_eq]
  refine sorted_one ((List.mergeSort_perm l _).trans (perm_sort l).symm) ?_ (sort_sorted l)
  have h := List.pairwise_mergeSort (le := fun x y => !ltI y x) (fun a b c h1 h2 => ?_) (fun a b => ?_) l
  · exact h.imp (fun h => by simpa using h)
  · simp only [Bool.not_eq_true'] at h1 h2 ⊢
    exact leI_trans h1 h2
  · cases hb : ltI b a with
    | false => rfl
    | true => rw [ltI_asym hb]; rfl
theorem one_at {α : Type} {x y : α} {r : Nat} (h : [x][r]? = some y) : r = 0 ∧ y = x := by
  cases r with
  | zero => simp at h; exact ⟨rfl, h.symm⟩
  | succ r => simp at h
/-- One block of numbers, its own. -/
theorem one_hr {P : Program} {w' : World} {Im : Imm} {gb : Nat} {cur : Array Value} {t : TypeId} {l : List Int} (hIm : ∀ b o, Im b o → b < w'.heap.size ∧ b ≠ gb) (hcur : w'.heap[gb]? = some (.cells cur t (0, 0))) (hl : l.length ≤ cur.size) (htake : ∀ (i : Nat) (x : Int), l[i]? = some x → cur.toList[i]? = some (Value.int .i64 x)) (h1 : ∀ u, u ∈ cur.toList → u.oneCell' = true) :
    HR P w' Im [.cell gb] [.cells (l.map avI)] := by
  have hlt : gb < w'.heap.size := (Array.getElem?_eq_some_iff.1 hcur).1
  refine ⟨rfl, fun r cs h => ?_, fun r e sz h => ?_, fun r e sz cs h => ?_, fun r es h => ?_, fun r a b c h => ?_, fun r acc h => ?_, fun r r' k x x' hne h1 h2 => ?_, fun k hk => ?_, fun b o h => (hIm b o h).1⟩
  · obtain ⟨rfl, h⟩ := one_at h
    cases h
    refine ⟨gb, rfl, cur.toList, t, hcur, by simpa using hl, fun i v c hv hc => ?_, h1, fun o h => (hIm _ _ h).2 rfl⟩
    rw [List.getElem?_map] at hc
    cases hx : l[i]? with
    | none => rw [hx] at hc; cases hc
    | some x =>
      rw [hx] at hc
      cases hc
      rw [htake i x hx] at hv
      cases hv
      exact .d (.int _ _)
  · cases (one_at h).2
  · cases (one_at h).2
  · cases (one_at h).2
  · cases (one_at h).2
  · cases (one_at h).2
  · exact absurd ((one_at h1).1.trans (one_at h2).1.symm) hne
  · obtain ⟨r, x, h1, h2⟩ := hk
    obtain ⟨_, rfl⟩ := one_at h1
    rw [← show gb = k from h2]
    exact hlt
def intsA : List AV → Option (List Int)
  | [] => some []
  | .d (.int .i64 x) :: l => (intsA l).map (x :: ·)
  | _ => none
theorem intsA_map : ∀ {cs : List AV} {l : List Int}, intsA cs = some l → cs = l.map avI
  | [], l, h => by simp only [intsA] at h; cases h; rfl
  | c :: cs, l, h => by
    unfold intsA at h
    split at h
    · rename_i heq; cases heq
    · rename_i x l' heq
      cases heq
      cases h2 : intsA cs with
      | none => rw [h2] at h; cases h
      | some m => rw [h2] at h; cases h; rw [intsA_map h2]; rfl
    · cases h
theorem intsA_of (l : List Int) : intsA (l.map avI) = some l := by
  induction l with
  | nil => rfl
  | cons x l ih => simp only [List.map_cons, avI, intsA, ih]; rfl
def sortK (n : Nat) : Option (List Int) → Option (Out × List AObj)
  | some l => if l ≠ [] ∧ n = l.length ∧ l.length ≤ 1000000 then some (.ret (.tuple []), [.cells ((sortL l).map avI)]) else none
  | none => none
def sortX : List AV → List AObj → Option (Out × List AObj)
  | [.own 0 0 n 1, .fn 106 [] []], [.cells cs] => sortK n (intsA cs)
  | [.d (.sl []), .fn 106 [] []], [] => some (.ret (.tuple []), [])
  | _, _ => none
theorem sort_world {w : World} {b n : Nat} {vs : List Value} {t : TypeId} {d' : Array Int} {os : Array Obj} (hb : w.heap[b]? = some (.cells ⟨vs⟩ t (0, 0))) :
    (sortWorld (Value.int .i64) w b 0 n d' os).heap[b]? = some (.cells (putCells (Value.int .i64) 0 d' ⟨vs⟩) t (0, 0)) ∧ (∀ k, k < w.heap.size → k ≠ b → (sortWorld (Value.int .i64) w b 0 n d' os).heap[k]? = w.heap[k]?) ∧ w.heap.size ≤ (sortWorld (Value.int .i64) w b 0 n d' os).heap.size := by
  have hbl := (Array.getElem?_eq_some_iff.1 hb).1
  have hsz : (putRow (Value.int .i64) (Sort.ahead w n) b 0 d').heap.size = w.heap.size := by
    show (w.heap.modify b _).size = w.heap.size
    simp
  have hat : ∀ k, (putRow (Value.int .i64) (Sort.ahead w n) b 0 d').heap[k]? = if b = k then (w.heap[k]?).map (onCells (putCells (Value.int .i64) 0 d')) else w.heap[k]? := by
    intro k
    show (w.heap.modify b _)[k]? = _
    rw [Array.getElem?_modify]
  refine ⟨?_, fun k hk hne => ?_, ?_⟩
  · rw [show sortWorld (Value.int .i64) w b 0 n d' os = Go.Sort.grow (putRow (Value.int .i64) (Sort.ahead w n) b 0 d') os from rfl, heap_grow_old _ _ (by rw [hsz]; exact hbl), hat, if_pos rfl, hb]
    rfl
  · rw [show sortWorld (Value.int .i64) w b 0 n d' os = Go.Sort.grow (putRow (Value.int .i64) (Sort.ahead w n) b 0 d') os from rfl, heap_grow_old _ _ (by rw [hsz]; exact hk), hat, if_neg (fun e => hne e.symm)]
  · show w.heap.size ≤ ((putRow (Value.int .i64) (Sort.ahead w n) b 0 d').heap ++ os).size
    rw [Array.size_append, hsz]
    omega
theorem sort_sound (as0 : List AV) (H : List AObj) (out : Out) (H' : List AObj) (h : sortX as0 H = some (out, H')) : (∀ args w, (callFunc 105 args).run Try.prog w = .ok (.enter 105 args) w) ∧ H.length ≤ H'.length ∧
    ∀ (w : World) (Im : Imm) (g : List Gh) (vs : List Value), HR Try.prog w Im g H → RepAs w Im g vs as0 → Calls Try.prog 105 ⟨vs⟩ w (CallPost Try.prog w Im g out H') := by
  have hE : ∀ args w, (callFunc 105 args).run Try.prog w = .ok (.enter 105 args) w := enter_of Try.func105 (by kernel_rfl) rfl
  unfold sortX at h
  split at h
  · rename_i n cs
    unfold sortK at h
    split at h
    · rename_i l hl
      split at h
      · rename_i hc
        cases h
        obtain ⟨hne, rfl, hlen⟩ := hc
        have hcs := intsA_map hl
        subst hcs
        refine ⟨hE, Nat.le_refl _, fun w Im g vs hH hr => ?_⟩
        obtain ⟨v1, v2, rfl, r1, r2⟩ := repAs_two hr
        obtain ⟨b, hgb, bvs, t, hb, hbl, hrep, hone, hno⟩ := hH.cells 0 _ rfl
        have hl0 : 0 < l.length := List.length_pos_iff.2 hne
        cases r1 with
        | own hg ho hcap =>
          rename_i cap
          rw [hgb] at hg
          cases hg
          have ho' := ho.resolve_right (by omega)
          subst ho'
          cases r2 with
          | fn f vf cf vc cc e1 e2 _ _ =>
            have : vf = [] := List.length_eq_zero_iff.1 e1
            subst this
            have : vc = [] := List.length_eq_zero_iff.1 e2
            subst this
            have hblt : b < w.heap.size := hH.lt b ⟨0, _, hgb, rfl⟩
            have hvl : l.length ≤ bvs.length := by simpa using hbl
            have hval : ∀ (i : Nat) (x : Int), l[i]? = some x → bvs[i]? = some (Value.int .i64 x) := by
              intro i x hx
              have hi := (List.getElem?_eq_some_iff.1 hx).1
              have hv := List.getElem?_eq_getElem (show i < bvs.length by omega)
              have := hrep i _ (avI x) hv (by rw [List.getElem?_map, hx]; rfl)
              rw [hv, repA_int this]
            have hH2 : Holds (Value.int .i64) w b 0 l.toArray := by
              intro j hj
              have hj' : j < l.length := by simpa using hj
              rw [Nat.zero_add]
              refine ⟨?_, ?_⟩
              · rw [cell_of_row w b j _ t (0, 0) hb]
                have := hval j l[j] (List.getElem?_eq_getElem hj')
                simpa [getElem!_pos l.toArray j hj] using this
              · simp [World.frozen?, hb]
            have hcon := sort_any b 0 cap l.toArray w hH2 hblt (by simp; omega)
            simp only [List.size_toArray] at hcon
            refine hcon.mono ?_
            rintro e w' ⟨rfl, n, os, rfl⟩
            have hms : (l.mergeSort fun x y => !(ltOf ordZ) y x) = sortL l := merge_sortL l
            rw [hms]
            obtain ⟨w1, w2, w3⟩ := sort_world (n := n) (d' := (sortL l).toArray) (os := os) hb
            have hsl := len_sort l
            have hput : ∀ (i : Nat) (u : Value), bvs[i]? = some u → (putCells (Value.int .i64) 0 (sortL l).toArray ⟨bvs⟩).toList[i]? = some (if i < l.length then Value.int .i64 ((sortL l).toArray[i]!) else u) := by
              intro i u hu
              rw [Array.getElem?_toList]
              unfold putCells
              rw [Array.getElem?_mapIdx]
              have hu2 : (⟨bvs⟩ : Array Value)[i]? = some u := by simpa using hu
              rw [hu2]
              simp [hsl]
            have hgone : g = [.cell b] := by
              have := hH.len
              match g, this, hgb with
              | [x], _, hgb => simp at hgb; rw [hgb]
            subst hgone
            refine ⟨Im, [.cell b], one_hr (cur := putCells (Value.int .i64) 0 (sortL l).toArray ⟨bvs⟩) (fun b' o h => ⟨Nat.lt_of_lt_of_le (hH.im b' o h) w3, fun e => hno o (e ▸ h)⟩) w1 ?_ ?_ ?_, ?_, _, rfl, .tuple [] [] rfl (fun i v c h => by simp at h)⟩
            · rw [hsl]
              unfold putCells
              simpa using hvl
            · intro i x hx
              have hi := (List.getElem?_eq_some_iff.1 hx).1
              rw [hsl] at hi
              rw [hput i _ (List.getElem?_eq_getElem (show i < bvs.length by omega)), if_pos hi]
              have : (sortL l).toArray[i]! = x := by
                rw [getElem!_pos _ i (by simp; omega)]
                rw [List.getElem?_eq_getElem (by omega)] at hx
                simpa using hx
              rw [this]
            · intro u hu
              obtain ⟨i, hi⟩ := List.getElem?_of_mem hu
              have hil : i < bvs.length := by
                have := (List.getElem?_eq_some_iff.1 hi).1
                simpa [putCells] using this
              rw [hput i _ (List.getElem?_eq_getElem hil)] at hi
              cases hi
              split
              · rfl
              · exact hone _ (List.getElem_mem hil)
            · exact ⟨rfl, rfl, rfl, w3, fun _ _ h => h, fun b' o h => by unfold World.cell?; rw [w2 b' (hH.im b' o h) (fun e => hno o (e ▸ h))], fun k hk hno' => w2 k hk (fun e => hno' ⟨0, _, rfl, e.symm⟩), fun _ _ h => .inl h, fun _ h => .inl h, GLe.refl _⟩
      · cases h
    · cases h
  · cases h
    refine ⟨hE, Nat.le_refl _, fun w Im g vs hH hr => ?_⟩
    obtain ⟨v1, v2, rfl, r1, r2⟩ := repAs_two hr
    have hv : ∃ a cap, v1 = .slice a 0 cap := by
      cases r1 with
      | d hd =>
        cases hd with
        | sl0 a cap => exact ⟨a, cap, rfl⟩
        | sl b o cap sz rows us => exact ⟨_, cap, rfl⟩
    obtain ⟨a, cap, rfl⟩ := hv
    refine (AnyF.slices_SortFunc_none (P := Try.prog) (ρ := Try.sortL_ren) { Try.sortL with } a cap v2 w).mono ?_
    rintro e w' ⟨rfl, rfl⟩
    exact ⟨Im, g, hH, Ext.refl _ _ _, _, rfl, .tuple [] [] rfl (fun i v c h => by simp at h)⟩
  · cases h
end Go.Proofs.Ytchedkjlhjfadaa
