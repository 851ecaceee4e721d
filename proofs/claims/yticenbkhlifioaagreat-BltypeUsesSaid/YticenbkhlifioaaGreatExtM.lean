/- What is known of ir.Word and of slices.Clone, for the evaluator. Conditions: none. -/
import Derived.Test.YticenbkhlifioaaGreatCloneS
import Derived.Test.YticenbkhlifioaaGreatAbX4
namespace Go.Proofs.YticenbkhlifioaaGreat
open Go Go.Ab Go.RowKit
theorem flat3 {rows : List (List Dt)} (h : ∀ row, row ∈ rows → row.length = 3) : rows.flatten.length = rows.length * 3 := by
  induction rows with
  | nil => rfl
  | cons r rows ih =>
    have h1 := h r (by simp)
    have h2 := ih (fun row hr => h row (by simp [hr]))
    simp only [List.flatten_cons, List.length_append, List.length_cons]
    omega
theorem add_none (b o j : Nat) : (⟨b, o, none⟩ : Addr).add j = ⟨b, o + j, none⟩ := by unfold Addr.add; split <;> simp_all
/-- A slice's cells, in memory of one's own. -/
theorem own_post {P : Program} {w w' : World} {Im : Imm} {t : TypeId} {v' : Value} {rows : List (List Dt)} {news : List Value} (hIm : ∀ b o, Im b o → b < w.heap.size) (h3 : ∀ row, row ∈ rows → row.length = 3)
    (hr : ∀ (k : Nat) (u : Value) (x : Dt), news[k]? = some u → rows.flatten[k]? = some x → RepD w Im u x) (ho : w'.ownsRow w.heap.size t 3 v' rows.length news) (hb : Below w.heap.size w w') :
    CallPost P w Im [] (.ret (.grow 0 0 rows)) [.grow 0 3] (.returned v') w' := by
  have hfl := flat3 h3
  have keep : ∀ (b o : Nat), Im b o → w'.cell? ⟨b, o, none⟩ = w.cell? ⟨b, o, none⟩ := fun b o h => by unfold World.cell?; rw [hb.block b (hIm b o h)]
  have noOwn : ∀ k, ¬ Owns [] k := by rintro k ⟨r, x, h, _⟩; simp at h
  have gle : ∀ g, GLe [] g := fun g => ⟨fun r b h => by simp at h, fun r _ _ _ _ _ h => by simp at h, fun r _ _ h => by simp at h⟩
  have one : ∀ {x y : Gh} {r : Nat}, [x][r]? = some y → r = 0 ∧ y = x := fun {x y r} h => by
    cases r with
    | zero => simp at h; exact ⟨rfl, h.symm⟩
    | succ r => simp at h
  have one' : ∀ {x y : AObj} {r : Nat}, [x][r]? = some y → r = 0 ∧ y = x := fun {x y r} h => by
    cases r with
    | zero => simp at h; exact ⟨rfl, h.symm⟩
    | succ r => simp at h
  obtain ⟨hl, ho⟩ := ho
  rcases ho with ⟨rfl, h0⟩ | ⟨gb, cap, cur, rfl, hbase, hcur, hcap, _, hsize, htake⟩
  · have hrows : rows = [] := List.length_eq_zero_iff.1 h0
    subst hrows
    refine ⟨Im, [.gr 0 3 none 0 0], ⟨rfl, fun r cs h => ?_, fun r e sz h => ?_, fun r es h => ?_, fun r a b c h => ?_, fun r acc h => ?_, fun r r' k x x' hne h1 h2 => ?_, fun k hk => ?_, fun b o h => Nat.lt_of_lt_of_le (hIm b o h) hb.size⟩, ⟨hb.os, hb.tape, hb.output, hb.size, fun _ _ h => h, keep, fun k hk _ => hb.block k hk, fun _ _ h => .inl h, fun k hk => ?_, gle _⟩, _, rfl, ?_⟩
    · cases (one' h).2
    · obtain ⟨rfl, h⟩ := one' h
      cases h
      exact ⟨none, 0, 0, rfl, Nat.le_refl _, fun _ => rfl, fun b hb => by cases hb⟩
    · cases (one' h).2
    · cases (one' h).2
    · cases (one' h).2
    · exact absurd ((one h1).1.trans (one h2).1.symm) hne
    · obtain ⟨r, x, h1, h2⟩ := hk
      obtain ⟨_, rfl⟩ := one h1
      exact absurd h2.1 (by simp)
    · obtain ⟨r, x, h1, h2⟩ := hk
      obtain ⟨_, rfl⟩ := one h1
      exact absurd h2.1 (by simp)
    · exact .grow (.sl0 _ _) (by rfl) h3 (Nat.le_refl _) (fun _ => ⟨rfl, rfl⟩)
  · have hglt : gb < w'.heap.size := (Array.getElem?_eq_some_iff.1 hcur).1
    refine ⟨fun b o => Im b o ∨ (b = gb ∧ o < rows.length * 3), [.gr 0 3 (some gb) rows.length cap], ⟨rfl, fun r cs h => ?_, fun r e sz h => ?_, fun r es h => ?_, fun r a b c h => ?_, fun r acc h => ?_, fun r r' k x x' hne h1 h2 => ?_, fun k hk => ?_, fun b o h => ?_⟩, ⟨hb.os, hb.tape, hb.output, hb.size, fun _ _ h => .inl h, keep, fun k hk _ => hb.block k hk, fun b o h => ?_, fun k hk => ?_, gle _⟩, _, rfl, ?_⟩
    · cases (one' h).2
    · obtain ⟨rfl, h⟩ := one' h
      cases h
      refine ⟨some gb, rows.length, cap, rfl, hcap, (fun h => by cases h), fun b hb hlt => ?_⟩
      cases hb
      refine ⟨cur.toList, t, hcur, by simp [hsize], fun o ho => ?_⟩
      rintro (h | ⟨_, h⟩)
      · have := hIm _ _ h; omega
      · omega
    · cases (one' h).2
    · cases (one' h).2
    · cases (one' h).2
    · exact absurd ((one h1).1.trans (one h2).1.symm) hne
    · obtain ⟨r, x, h1, h2⟩ := hk
      obtain ⟨_, rfl⟩ := one h1
      obtain ⟨h2, _⟩ := h2
      cases h2
      exact hglt
    · rcases h with h | ⟨rfl, _⟩
      · exact Nat.lt_of_lt_of_le (hIm b o h) hb.size
      · exact hglt
    · rcases h with h | ⟨rfl, _⟩
      · exact .inl h
      · exact .inr (.inl hbase)
    · obtain ⟨r, x, h1, h2⟩ := hk
      obtain ⟨_, rfl⟩ := one h1
      obtain ⟨h2, _⟩ := h2
      cases h2
      exact .inr hbase
    · refine .grow (len := rows.length) (cap := cap) (base := some gb) ?_ (by rfl) h3 (Nat.le_refl _) (fun _ => ⟨rfl, rfl⟩)
      refine .sl gb 0 cap 3 rows (fun k => news.getD k undef) hcap h3 (fun k hk => ?_) (fun k x hx => ?_)
      · rw [hfl] at hk
        refine ⟨.inr ⟨rfl, by omega⟩, ?_⟩
        rw [List.getD_eq_getElem?_getD, List.getElem?_eq_getElem (by omega), Option.getD_some]
        have := cell_of_row w' gb k cur t (0, 0) hcur
        rw [Nat.zero_add, this]
        have h4 : (cur.toList.take (rows.length * 3))[k]? = some news[k] := by rw [htake, List.getElem?_eq_getElem]
        rw [List.getElem?_take, if_pos hk] at h4
        simpa using h4
      · have hk := (List.getElem?_eq_some_iff.1 hx).1
        rw [hfl] at hk
        have hn : news[k]? = some (news.getD k undef) := by
          rw [List.getD_eq_getElem?_getD, List.getElem?_eq_getElem (by omega), Option.getD_some]
        exact (hr k _ x hn hx).ext (fun b o h => ⟨.inl h, keep b o h⟩)

def wordX : List AV → List AObj → Option (Out × List AObj)
  | [.d (.int .i64 op)], H => some (.ret (.d (.str (wordP op))), H)
  | _, _ => none
theorem word_sound (as0 : List AV) (H : List AObj) (out : Out) (H' : List AObj) (h : wordX as0 H = some (out, H')) : (∀ args w, (callFunc 84 args).run Tryz.prog w = .ok (.enter 84 args) w) ∧ H.length ≤ H'.length ∧
    ∀ (w : World) (Im : Imm) (g : List Gh) (vs : List Value), HR Tryz.prog w Im g H → RepAs w Im g vs as0 → Calls Tryz.prog 84 ⟨vs⟩ w (CallPost Tryz.prog w Im g out H') := by
  unfold wordX at h
  split at h
  · cases h
    refine ext_calls (enter_of Tryz.func84 (by kernel_rfl) rfl) fun w Im g vs hH hr => ?_
    obtain ⟨hl, hr⟩ := hr
    match vs, hl with
    | [v], _ =>
      rw [repA_int (hr 0 _ _ rfl rfl)]
      refine (irword_any _ _).mono ?_
      rintro e w' ⟨rfl, hb⟩
      exact ⟨hb, _, rfl, fun w' => .d (.str _)⟩
  · cases h
def rows3 : List (List Dt) → Bool
  | [] => true
  | r :: l => decide (r.length = 3) && rows3 l
theorem rows3_all : ∀ {l : List (List Dt)}, rows3 l = true → ∀ row, row ∈ l → row.length = 3
  | [], _, row, h => by cases h
  | r :: l, h, row, hr => by
    simp only [rows3, Bool.and_eq_true, decide_eq_true_eq] at h
    rcases List.mem_cons.1 hr with rfl | hr
    · exact h.1
    · exact rows3_all h.2 row hr
def cloneX : List AV → List AObj → Option (Out × List AObj)
  | [.d (.sl rows)], [] => if rows.length ≤ 1000 ∧ rows3 rows = true then some (.ret (.grow 0 0 rows), [.grow 0 3]) else none
  | _, _ => none
theorem clone_sound (as0 : List AV) (H : List AObj) (out : Out) (H' : List AObj) (h : cloneX as0 H = some (out, H')) : (∀ args w, (callFunc 47 args).run Tryz.prog w = .ok (.enter 47 args) w) ∧ H.length ≤ H'.length ∧
    ∀ (w : World) (Im : Imm) (g : List Gh) (vs : List Value), HR Tryz.prog w Im g H → RepAs w Im g vs as0 → Calls Tryz.prog 47 ⟨vs⟩ w (CallPost Tryz.prog w Im g out H') := by
  unfold cloneX at h
  split at h
  · rename_i rows
    split at h
    · rename_i hc
      cases h
      refine ⟨enter_of Tryz.func47 (by kernel_rfl) rfl, by simp, fun w Im g vs hH hr => ?_⟩
      have hg : g = [] := List.length_eq_zero_iff.1 hH.len
      subst hg
      have h3 := rows3_all hc.2
      have hfl := flat3 h3
      obtain ⟨hl, hr⟩ := hr
      match vs, hl with
      | [v], _ =>
        have hv := hr 0 v _ rfl rfl
        cases hv with
        | d hd =>
          cases hd with
          | sl0 a cap =>
            cases a with
            | none =>
              refine (clone_nil 0 cap w).mono ?_
              rintro e w' ⟨rfl, rfl⟩
              exact own_post (news := []) (t := 40) hH.im h3 (fun k u x h => by simp at h) (World.ownsRow_nil _ _ _ _) (Below.refl _ _)
            | some a =>
              refine (clone_some a 0 cap [] w (by simp) (by omega) (fun j u h => by simp at h) (fun u h => by simp at h)).mono ?_
              rintro e w' ⟨v', rfl, ho, hb⟩
              exact own_post (news := []) hH.im h3 (fun k u x h => by simp at h) ho hb
          | sl b o cap sz rows us hcap hsz him hrr =>
            have hat : ∀ (j : Nat) (u : Value), ((List.range (rows.length * 3)).map us)[j]? = some u → j < rows.flatten.length ∧ u = us j := by
              intro j u h
              rw [List.getElem?_map] at h
              have hj : j < rows.length * 3 := by
                rcases Nat.lt_or_ge j (rows.length * 3) with hj | hj
                · exact hj
                · rw [List.getElem?_eq_none (by simpa using hj)] at h; cases h
              rw [List.getElem?_range hj] at h
              simp at h
              exact ⟨by omega, h.symm⟩
            have hrx : ∀ (k : Nat), k < rows.flatten.length → RepD w Im (us k) (rows.flatten[k]?.getD .nilp) := fun k hk => hrr k _ (by rw [List.getElem?_eq_getElem hk]; rfl)
            refine (clone_some ⟨b, o, none⟩ rows.length cap ((List.range (rows.length * 3)).map us) w (by simp) hc.1 (fun j u h => ?_) (fun u h => ?_)).mono ?_
            · obtain ⟨hj, rfl⟩ := hat j u h
              rw [add_none]
              exact (him j hj).2
            · obtain ⟨j, hj0⟩ := List.getElem?_of_mem h
              obtain ⟨hj, rfl⟩ := hat j u hj0
              exact repD_one (hrx j hj)
            · rintro e w' ⟨v', rfl, ho, hb⟩
              refine own_post hH.im h3 (fun k u x h hx => ?_) ho hb
              obtain ⟨hj, rfl⟩ := hat k u h
              exact hrr k x hx
    · cases h
  · cases h
noncomputable def extM : Sem' := fun f as0 H => if f = 84 then wordX as0 H else if f = 47 then cloneX as0 H else none
theorem extM_ok : Sound Tryz.prog extM := by
  intro f as0 H out H' h
  unfold extM at h
  split at h
  · subst f
    exact word_sound as0 H out H' h
  · split at h
    · subst f
      exact clone_sound as0 H out H' h
    · cases h
theorem rows3_map (l : List Vr1) : rows3 (l.map Vr1.row) = true := by
  induction l with
  | nil => rfl
  | cons v l ih => simp only [List.map_cons, rows3, Vr1.row, ih]; rfl
theorem extM_tm : TM extM := by
  refine ⟨⟨fun f xs H h => ?_⟩, fun op => ?_, fun l hl => ?_⟩
  · unfold extM
    rw [if_neg, if_neg]
    · rintro rfl
      cases h
    · rintro rfl
      cases h
  · unfold extM wordX
    rfl
  · unfold extM cloneX
    simp only
    rw [if_neg (by decide), if_pos trivial, if_pos ⟨by simpa using hl, rows3_map l⟩]
end Go.Proofs.YticenbkhlifioaaGreat
