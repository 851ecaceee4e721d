/- Clones of numbers, for the evaluator: to be changed, or as data. Conditions: none. -/
import Derived.Test.YtchedkjlhjfadaaCloneI
import Derived.Test.YtchedkjlhjfadaaExtC1
import Derived.Test.YtchedkjlhjfadaaWithX
import Derived.Test.YtchedkjlhjfadaaAbX4
set_option linter.unusedSimpArgs false
set_option linter.unusedVariables false
namespace Go.Proofs.Ytchedkjlhjfadaa
open Go Go.Ab Go.RowKit
theorem flat1 {rows : List (List Dt)} (h : ∀ row, row ∈ rows → row.length = 1) : rows.flatten.length = rows.length * 1 := by
  induction rows with
  | nil => rfl
  | cons r rows ih =>
    have h1 := h r (by simp)
    have h2 := ih (fun row hr => h row (by simp [hr]))
    simp only [List.flatten_cons, List.length_append, List.length_cons]
    omega
theorem add_none (b o j : Nat) : (⟨b, o, none⟩ : Addr).add j = ⟨b, o + j, none⟩ := by unfold Addr.add; split <;> simp_all
/-- A slice's cells, in memory of one's own. -/
theorem own_post {P : Program} {w w' : World} {Im : Imm} {t : TypeId} {v' : Value} {rows : List (List Dt)} {news : List Value} (hIm : ∀ b o, Im b o → b < w.heap.size) (h3 : ∀ row, row ∈ rows → row.length = 1)
    (hr : ∀ (k : Nat) (u : Value) (x : Dt), news[k]? = some u → rows.flatten[k]? = some x → RepD w Im u x) (ho : w'.ownsRow w.heap.size t 1 v' rows.length news) (hb : Below w.heap.size w w') :
    CallPost P w Im [] (.ret (.grow 0 0 rows)) [.grow 0 1] (.returned v') w' := by
  have hfl := flat1 h3
  have keep : ∀ (b o : Nat), Im b o → w'.cell? ⟨b, o, none⟩ = w.cell? ⟨b, o, none⟩ := fun b o h => by unfold World.cell?; rw [hb.block b (hIm b o h)]
  have noOwn : ∀ k, ¬ Owns [] k := by rintro k ⟨r, x, h, _⟩; simp at h
  have gle : ∀ g, GLe [] g := fun g => ⟨fun r b h => by simp at h, fun r _ _ _ _ _ h => by simp at h, fun r _ _ h => by simp at h⟩
  have one : ∀ {x y : Gh} {r : Nat}, [x][r]? = some y → r = 0 ∧ y = x := fun {x y r} h => by
    cases r with
    | zero => simp at h; exact ⟨rfl, h.symm⟩
    | succ r => simp at h
  have one' : ∀ {x y : AObj} {r : Nat}, [x][r]? = some y → r = 0 ∧ y = x := fun {x y r} h => by
    cases r with
    | zero => simp at h; exact ⟨rfl, h.symm⟩
    | succ r => simp at h
  obtain ⟨hl, ho⟩ := ho
  rcases ho with ⟨rfl, h0⟩ | ⟨gb, cap, cur, rfl, hbase, hcur, hcap, _, hsize, htake⟩
  · have hrows : rows = [] := List.length_eq_zero_iff.1 h0
    subst hrows
    refine ⟨Im, [.gr 0 1 none 0 0], ⟨rfl, fun r cs h => ?_, fun r e sz h => ?_, fun r e sz cs h => ?_, fun r es h => ?_, fun r a b c h => ?_, fun r acc h => ?_, fun r r' k x x' hne h1 h2 => ?_, fun k hk => ?_, fun b o h => Nat.lt_of_lt_of_le (hIm b o h) hb.size⟩, ⟨hb.os, hb.tape, hb.output, hb.size, fun _ _ h => h, keep, fun k hk _ => hb.block k hk, fun _ _ h => .inl h, fun k hk => ?_, gle _⟩, _, rfl, ?_⟩
    · cases (one' h).2
    · obtain ⟨rfl, h⟩ := one' h
      cases h
      exact ⟨none, 0, 0, rfl, Nat.le_refl _, fun _ => rfl, fun b hb => by cases hb⟩
    · cases (one' h).2
    · cases (one' h).2
    · cases (one' h).2
    · cases (one' h).2
    · exact absurd ((one h1).1.trans (one h2).1.symm) hne
    · obtain ⟨r, x, h1, h2⟩ := hk
      obtain ⟨_, rfl⟩ := one h1
      exact absurd h2.1 (by simp)
    · obtain ⟨r, x, h1, h2⟩ := hk
      obtain ⟨_, rfl⟩ := one h1
      exact absurd h2.1 (by simp)
    · exact .grow (.sl0 _ _) (by rfl) h3 (Nat.le_refl _) (fun _ => ⟨rfl, rfl⟩)
  · have hglt : gb < w'.heap.size := (Array.getElem?_eq_some_iff.1 hcur).1
    refine ⟨fun b o => Im b o ∨ (b = gb ∧ o < rows.length * 1), [.gr 0 1 (some gb) rows.length cap], ⟨rfl, fun r cs h => ?_, fun r e sz h => ?_, fun r e sz cs h => ?_, fun r es h => ?_, fun r a b c h => ?_, fun r acc h => ?_, fun r r' k x x' hne h1 h2 => ?_, fun k hk => ?_, fun b o h => ?_⟩, ⟨hb.os, hb.tape, hb.output, hb.size, fun _ _ h => .inl h, keep, fun k hk _ => hb.block k hk, fun b o h => ?_, fun k hk => ?_, gle _⟩, _, rfl, ?_⟩
    · cases (one' h).2
    · obtain ⟨rfl, h⟩ := one' h
      cases h
      refine ⟨some gb, rows.length, cap, rfl, hcap, (fun h => by cases h), fun b hb hlt => ?_⟩
      cases hb
      refine ⟨cur.toList, t, hcur, by simp [hsize], fun o ho => ?_⟩
      rintro (h | ⟨_, h⟩)
      · have := hIm _ _ h; omega
      · omega
    · cases (one' h).2
    · cases (one' h).2
    · cases (one' h).2
    · cases (one' h).2
    · exact absurd ((one h1).1.trans (one h2).1.symm) hne
    · obtain ⟨r, x, h1, h2⟩ := hk
      obtain ⟨_, rfl⟩ := one h1
      obtain ⟨h2, _⟩ := h2
      cases h2
      exact hglt
    · rcases h with h | ⟨rfl, _⟩
      · exact Nat.lt_of_lt_of_le (hIm b o h) hb.size
      · exact hglt
    · rcases h with h | ⟨rfl, _⟩
      · exact .inl h
      · exact .inr (.inl hbase)
    · obtain ⟨r, x, h1, h2⟩ := hk
      obtain ⟨_, rfl⟩ := one h1
      obtain ⟨h2, _⟩ := h2
      cases h2
      exact .inr hbase
    · refine .grow (len := rows.length) (cap := cap) (base := some gb) ?_ (by rfl) h3 (Nat.le_refl _) (fun _ => ⟨rfl, rfl⟩)
      refine .sl gb 0 cap 1 rows (fun k => news.getD k undef) hcap h3 (fun k hk => ?_) (fun k x hx => ?_)
      · rw [hfl] at hk
        refine ⟨.inr ⟨rfl, by omega⟩, ?_⟩
        rw [List.getD_eq_getElem?_getD, List.getElem?_eq_getElem (by omega), Option.getD_some]
        have := cell_of_row w' gb k cur t (0, 0) hcur
        rw [Nat.zero_add, this]
        have h4 : (cur.toList.take (rows.length * 1))[k]? = some news[k] := by rw [htake, List.getElem?_eq_getElem]
        rw [List.getElem?_take, if_pos hk] at h4
        simpa using h4
      · have hk := (List.getElem?_eq_some_iff.1 hx).1
        rw [hfl] at hk
        have hn : news[k]? = some (news.getD k undef) := by
          rw [List.getD_eq_getElem?_getD, List.getElem?_eq_getElem (by omega), Option.getD_some]
        exact (hr k _ x hn hx).ext (fun b o h => ⟨.inl h, keep b o h⟩)

def intsR : List (List Dt) → Option (List Int)
  | [] => some []
  | [.int .i64 x] :: l => (intsR l).map (x :: ·)
  | _ => none
theorem intsR_map : ∀ {rows : List (List Dt)} {l : List Int}, intsR rows = some l → rows = l.map rowI
  | [], l, h => by simp only [intsR] at h; cases h; rfl
  | c :: cs, l, h => by
    unfold intsR at h
    split at h
    · rename_i heq; cases heq
    · rename_i x l' heq
      cases heq
      cases h2 : intsR cs with
      | none => rw [h2] at h; cases h
      | some m => rw [h2] at h; cases h; rw [intsR_map h2]; rfl
    · cases h
theorem intsR_of (l : List Int) : intsR (l.map rowI) = some l := by
  induction l with
  | nil => rfl
  | cons x l ih => simp only [List.map_cons, rowI, intsR, ih]; rfl
theorem repD_ints {w : World} {Im : Imm} {v : Value} {l : List Int} (h : RepD w Im v (.sl (l.map rowI))) :
    (∃ a cap, v = .slice a 0 cap ∧ l = []) ∨ ∃ b o cap, v = .slice (some ⟨b, o, none⟩) l.length cap ∧ l.length ≤ cap ∧ ∀ (j : Nat) (x : Int), l[j]? = some x → Im b (o + j) ∧ w.cell? ⟨b, o + j, none⟩ = some (Value.int .i64 x) := by
  generalize hrows : l.map rowI = rows at h
  cases h with
  | sl0 a cap => left; exact ⟨a, cap, rfl, by simpa using hrows⟩
  | sl b o cap sz rows us hc hsz him hr =>
    right
    have hl : rows.length = l.length := by rw [← hrows]; simp
    refine ⟨b, o, cap, by rw [hl], by omega, fun j x hx => ?_⟩
    have hfl : rows.flatten = l.map fun x => Dt.int .i64 x := by
      rw [← hrows]
      clear hrows hc hsz him hr hl hx
      induction l with
      | nil => rfl
      | cons x l ih => simp only [List.map_cons, List.flatten_cons, ih]; rfl
    have hj := (List.getElem?_eq_some_iff.1 hx).1
    have hxf : rows.flatten[j]? = some (.int .i64 x) := by rw [hfl, List.getElem?_map, hx]; rfl
    have h1 := him j (by rw [hfl]; simpa using hj)
    refine ⟨h1.1, ?_⟩
    rw [h1.2]
    have h2 := hr j _ hxf
    generalize us j = u at h2
    cases h2
    rfl
/-- A clone that is to be changed. -/
def clone1K : Option (List Int) → Option (Out × List AObj)
  | some [] => some (.ret (.d (.sl [])), [])
  | some (x :: l) => if l.length < 1000000 then some (.ret (.own 0 0 (l.length + 1) 1), [.cells ((x :: l).map avI)]) else none
  | none => none
def clone1X : List AV → List AObj → Option (Out × List AObj)
  | [.d (.sl rows)], [] => clone1K (intsR rows)
  | _, _ => none
/-- A clone that is data. -/
def clone0K : Option (List Int) → Option (Out × List AObj)
  | some l => if l.length ≤ 1000 then some (.ret (.grow 0 0 (l.map rowI)), [.grow 0 1]) else none
  | none => none
def clone0X : List AV → List AObj → Option (Out × List AObj)
  | [.d (.sl rows)], [] => clone0K (intsR rows)
  | _, _ => none
theorem data_post {P : Program} {w w' : World} {Im : Imm} {v : Value} {x : Dt} (hH : HR P w Im [] []) (hb : Below w.heap.size w w') (h : RepD w' Im v x) : CallPost P w Im [] (.ret (.d x)) [] (.returned v) w' := by
  obtain ⟨h1, h2⟩ := below_ext hH hb
  exact ⟨Im, [], h1, h2, v, rfl, .d h⟩
theorem clone1_sound (as0 : List AV) (H : List AObj) (out : Out) (H' : List AObj) (h : clone1X as0 H = some (out, H')) : (∀ args w, (callFunc 102 args).run Try.prog w = .ok (.enter 102 args) w) ∧ H.length ≤ H'.length ∧
    ∀ (w : World) (Im : Imm) (g : List Gh) (vs : List Value), HR Try.prog w Im g H → RepAs w Im g vs as0 → Calls Try.prog 102 ⟨vs⟩ w (CallPost Try.prog w Im g out H') := by
  have hE : ∀ args w, (callFunc 102 args).run Try.prog w = .ok (.enter 102 args) w := enter_of Try.func102 (by kernel_rfl) rfl
  unfold clone1X at h
  split at h
  · rename_i rows
    unfold clone1K at h
    cases hi : intsR rows with
    | none => rw [hi] at h; cases h
    | some l =>
      rw [hi] at h
      have hrows := intsR_map hi
      subst hrows
      cases l with
      | nil =>
        cases h
        refine ⟨hE, Nat.le_refl _, fun w Im g vs hH hr => ?_⟩
        have hg : g = [] := List.length_eq_zero_iff.1 hH.len
        subst hg
        obtain ⟨hl, hr⟩ := hr
        match vs, hl with
        | [v], _ =>
          cases hr 0 v _ rfl rfl with
          | d hd =>
            rcases repD_ints hd with ⟨a, cap, rfl, _⟩ | ⟨b, o, cap, rfl, _, _⟩
            · cases a with
              | none =>
                refine (cloneI_nil 0 cap w).mono ?_
                rintro e w' ⟨rfl, rfl⟩
                exact data_post hH (Below.refl _ _) (.sl0 _ _)
              | some a =>
                refine (cloneI_none a cap w).mono ?_
                rintro e w' ⟨b, cap, rfl, hb⟩
                exact data_post hH hb (.sl0 _ _)
            · refine (cloneI_none ⟨b, o, none⟩ cap w).mono ?_
              rintro e w' ⟨b, cap, rfl, hb⟩
              exact data_post hH hb (.sl0 _ _)
      | cons y m =>
        simp only at h
        split at h
        · rename_i hlen
          cases h
          refine ⟨hE, by simp, fun w Im g vs hH hr => ?_⟩
          have hg : g = [] := List.length_eq_zero_iff.1 hH.len
          subst hg
          obtain ⟨hl, hr⟩ := hr
          match vs, hl with
          | [v], _ =>
            cases hr 0 v _ rfl rfl with
            | d hd =>
              rcases repD_ints hd with ⟨a, cap, rfl, e⟩ | ⟨b, o, cap, rfl, hcap, hat⟩
              · cases e
              · have hnl : ((y :: m).map (Value.int .i64)).length = m.length + 1 := by simp
                refine (cloneI_some ⟨b, o, none⟩ (m.length + 1) cap ((y :: m).map (Value.int .i64)) w hnl (by omega) (by omega) (fun j u h => ?_) (fun u h => ?_)).mono ?_
                · obtain ⟨x, hx, rfl⟩ := news_at h
                  rw [show (⟨b, o, none⟩ : Addr).add j = ⟨b, o + j, none⟩ from by unfold Addr.add; split <;> simp_all]
                  exact (hat j x hx).2
                · obtain ⟨j, hj⟩ := List.getElem?_of_mem h
                  obtain ⟨x, _, rfl⟩ := news_at hj
                  rfl
                · rintro e w' ⟨gb, cap2, cur, rfl, hc⟩
                  have htk : ∀ (i : Nat) (x : Int), (y :: m)[i]? = some x → cur.toList[i]? = some (Value.int .i64 x) := by
                    intro i x hx
                    have hi := (List.getElem?_eq_some_iff.1 hx).1
                    have h2 := congrArg (fun l => l[i]?) hc.take
                    simp only [List.getElem?_map, hx, Option.map_some] at h2
                    rw [List.getElem?_take, if_pos (by simpa using hi)] at h2
                    exact h2
                  refine ⟨Im, [.cell gb], one_hr (cur := cur) (fun b' o h => ⟨Nat.lt_of_lt_of_le (hH.im b' o h) hc.below.size, fun e => by have := hH.im b' o h; have := hc.base; omega⟩) hc.block (by have := hc.fit; have := hc.size; simp; omega) htk hc.one, ?_, _, rfl, .own rfl (.inl rfl) hc.fit⟩
                  refine ⟨hc.below.os, hc.below.tape, hc.below.output, hc.below.size, fun _ _ h => h, fun b' o h => by unfold World.cell?; rw [hc.below.block b' (hH.im b' o h)], fun k hk _ => hc.below.block k hk, fun _ _ h => .inl h, fun k hk => ?_, ⟨fun r b h => by simp at h, fun r _ _ _ _ _ h => by simp at h, fun r _ _ h => by simp at h⟩⟩
                  obtain ⟨r, x, h1, h2⟩ := hk
                  obtain ⟨_, rfl⟩ := one_at h1
                  rw [← show gb = k from h2]
                  exact .inr hc.base
        · cases h
  · cases h
theorem clone0_sound (as0 : List AV) (H : List AObj) (out : Out) (H' : List AObj) (h : clone0X as0 H = some (out, H')) : (∀ args w, (callFunc 102 args).run Try.prog w = .ok (.enter 102 args) w) ∧ H.length ≤ H'.length ∧
    ∀ (w : World) (Im : Imm) (g : List Gh) (vs : List Value), HR Try.prog w Im g H → RepAs w Im g vs as0 → Calls Try.prog 102 ⟨vs⟩ w (CallPost Try.prog w Im g out H') := by
  have hE : ∀ args w, (callFunc 102 args).run Try.prog w = .ok (.enter 102 args) w := enter_of Try.func102 (by kernel_rfl) rfl
  unfold clone0X at h
  split at h
  · rename_i rows
    unfold clone0K at h
    cases hi : intsR rows with
    | none => rw [hi] at h; cases h
    | some l =>
      rw [hi] at h
      have hrows := intsR_map hi
      subst hrows
      simp only at h
      split at h
      · rename_i hlen
        cases h
        refine ⟨hE, by simp, fun w Im g vs hH hr => ?_⟩
        have hg : g = [] := List.length_eq_zero_iff.1 hH.len
        subst hg
        have h3 : ∀ row, row ∈ l.map rowI → row.length = 1 := by
          intro row hrow
          obtain ⟨x, _, rfl⟩ := List.mem_map.1 hrow
          rfl
        have hrl : (l.map rowI).length = l.length := List.length_map _
        have hfl : (l.map rowI).flatten = l.map fun x => Dt.int .i64 x := by
          clear hi hlen hr h3 hrl
          induction l with
          | nil => rfl
          | cons x l ih => simp only [List.map_cons, List.flatten_cons, ih]; rfl
        obtain ⟨hl, hr⟩ := hr
        match vs, hl with
        | [v], _ =>
          cases hr 0 v _ rfl rfl with
          | d hd =>
            have key : ∀ (a : Addr) (cap : Nat), v = .slice (some a) l.length cap → (∀ (j : Nat) (x : Int), l[j]? = some x → w.cell? (a.add j) = some (Value.int .i64 x)) → Calls Try.prog 102 ⟨[v]⟩ w (CallPost Try.prog w Im [] (.ret (.grow 0 0 (l.map rowI))) [.grow 0 1]) := by
              rintro a cap rfl hat
              refine (cloneI_own a l.length cap (l.map (Value.int .i64)) w (by simp) (by omega) (fun j u h => ?_) (fun u h => ?_)).mono ?_
              · obtain ⟨x, hx, rfl⟩ := news_at h
                exact hat j x hx
              · obtain ⟨j, hj⟩ := List.getElem?_of_mem h
                obtain ⟨x, _, rfl⟩ := news_at hj
                rfl
              · rintro e w' ⟨v', rfl, ho, hb⟩
                rw [← hrl] at ho
                refine own_post hH.im h3 (fun k u x h hx => ?_) ho hb
                obtain ⟨z, hz, rfl⟩ := news_at h
                rw [hfl, List.getElem?_map, hz] at hx
                cases hx
                exact .int _ _
            rcases repD_ints hd with ⟨a, cap, rfl, rfl⟩ | ⟨b, o, cap, rfl, hcap, hat⟩
            · cases a with
              | none =>
                refine (cloneI_nil 0 cap w).mono ?_
                rintro e w' ⟨rfl, rfl⟩
                exact own_post (news := []) (t := 3) hH.im h3 (fun k u x h => by simp at h) (World.ownsRow_nil _ _ _ _) (Below.refl _ _)
              | some a => exact key a cap rfl (fun j x h => by simp at h)
            · refine key ⟨b, o, none⟩ cap rfl (fun j x h => ?_)
              rw [show (⟨b, o, none⟩ : Addr).add j = ⟨b, o + j, none⟩ from by unfold Addr.add; split <;> simp_all]
              exact (hat j x h).2
      · cases h
  · cases h
end Go.Proofs.Ytchedkjlhjfadaa
