/- Law 2: which programs are the same; what is parsed hangs on the tokens alone. Conditions: what is known of syntax.parse, strings.Join. -/
import Derived.Test.YtlcbnlfbbjmpbaaY16
import Derived.Test.YtlcbnlfbbjmpbaaY17
set_option linter.unusedSimpArgs false
set_option linter.unusedVariables false
namespace Go.Proofs.Ytlcbnlfbbjmpbaa
open Go Go.Ab
variable {ext : Sem'}
set_option maxHeartbeats 1000000 in
theorem eqfE_e (hx : T0 ext) (F : Nat) (l m : List Ex0) (hlen : l.length = m.length) (hl : l.length ≤ 1000000) (hF : ∀ (i : Nat) (a b : Ex0), l[i]? = some a → m[i]? = some b → G ext F [a.av, b.av] [] = some (.ret (.d (.bool true)), [])) : G ext 45 [.d (.sl (l.map Ex0.row)), .d (.sl (m.map Ex0.row)), .fn F [] []] [] = some (.ret (.d (.bool true)), []) := by
  have hll : (l.map Ex0.row).length = l.length := List.length_map _
  have hml : (m.map Ex0.row).length = m.length := List.length_map _
  have hlen2 : ((l.map Ex0.row).length : Int) = ((m.map Ex0.row).length : Int) := by omega
  rw [G_body hx.clear rfl Try.func45 rfl Try.results45 hv_45 rfl]
  simp (maxSteps := 4000000) (disch := first | (intros; contradiction) | omega) only [go_sem, hlen2]
  generalize hL : loopA _ _ _ = L
  apply loop_upd hL (by simp (maxSteps := 4000000) (disch := first | (intros; contradiction) | omega) only [go_sem] <;> rfl) (α := Nat) (fun i => i ≤ l.length) (fun i => l.length - i) (fun i => [(7, .any), (8, .any), (9, .any), (17, .d (.int .i64 i))]) (fun _ => []) 0 (by simp (maxSteps := 4000000) (disch := first | (intros; contradiction) | omega) only [go_sem] <;> rfl) (Nat.zero_le _) ?_
  clear hL
  intro i hi next ih
  by_cases h : i < l.length
  · have hlt : (i : Int) < ((m.map Ex0.row).length : Int) := by omega
    have hi0 : (0 : Int) ≤ (i : Int) := by omega
    obtain ⟨a, ha⟩ : ∃ a, l[i]? = some a := ⟨l[i], List.getElem?_eq_getElem h⟩
    obtain ⟨b, hb⟩ : ∃ b, m[i]? = some b := ⟨m[i]'(by omega), List.getElem?_eq_getElem _⟩
    have h1 : (l.map Ex0.row)[i]? = some (Ex0.row a) := by rw [List.getElem?_map, ha]; rfl
    have h2 : (m.map Ex0.row)[i]? = some (Ex0.row b) := by rw [List.getElem?_map, hb]; rfl
    have hc := hF i a b ha hb
    simp only [Ex0.row_eq] at h1 h2
    simp only [Ex0.av, eO] at hc
    have hw : IntKind.i64.wrap ((i : Int) + 1) = ((i + 1 : Nat) : Int) := by rw [wrap64 (by omega) (by omega)]; omega
    simp (maxSteps := 4000000) (disch := first | (intros; contradiction) | omega) only [go_sem, hlt, hi0, h1, h2, hc, hw]
    exact ih (i + 1) _ h (by omega) (by simp (maxSteps := 4000000) (disch := first | (intros; contradiction) | omega) only [go_sem] <;> rfl)
  · have hlt : ¬ (i : Int) < ((m.map Ex0.row).length : Int) := by omega
    simp (maxSteps := 4000000) (disch := first | (intros; contradiction) | omega) only [go_sem, hlt]
    done
set_option maxHeartbeats 1000000 in
theorem eqfS_e (hx : T0 ext) (F : Nat) (l m : List St0) (hlen : l.length = m.length) (hl : l.length ≤ 1000000) (hF : ∀ (i : Nat) (a b : St0), l[i]? = some a → m[i]? = some b → G ext F [a.agg, b.agg] [] = some (.ret (.d (.bool true)), [])) : G ext 22 [.d (.sl (l.map St0.row)), .d (.sl (m.map St0.row)), .fn F [] []] [] = some (.ret (.d (.bool true)), []) := by
  have hll : (l.map St0.row).length = l.length := List.length_map _
  have hml : (m.map St0.row).length = m.length := List.length_map _
  have hlen2 : ((l.map St0.row).length : Int) = ((m.map St0.row).length : Int) := by omega
  rw [G_body hx.clear rfl Try.func22 rfl Try.results22 hv_22 rfl]
  simp (maxSteps := 4000000) (disch := first | (intros; contradiction) | omega) only [go_sem, hlen2]
  generalize hL : loopA _ _ _ = L
  apply loop_upd hL (by simp (maxSteps := 4000000) (disch := first | (intros; contradiction) | omega) only [go_sem] <;> rfl) (α := Nat) (fun i => i ≤ l.length) (fun i => l.length - i) (fun i => [(7, .any), (8, .any), (9, .any), (17, .d (.int .i64 i))]) (fun _ => []) 0 (by simp (maxSteps := 4000000) (disch := first | (intros; contradiction) | omega) only [go_sem] <;> rfl) (Nat.zero_le _) ?_
  clear hL
  intro i hi next ih
  by_cases h : i < l.length
  · have hlt : (i : Int) < ((m.map St0.row).length : Int) := by omega
    have hi0 : (0 : Int) ≤ (i : Int) := by omega
    obtain ⟨a, ha⟩ : ∃ a, l[i]? = some a := ⟨l[i], List.getElem?_eq_getElem h⟩
    obtain ⟨b, hb⟩ : ∃ b, m[i]? = some b := ⟨m[i]'(by omega), List.getElem?_eq_getElem _⟩
    have h1 : (l.map St0.row)[i]? = some (St0.row a) := by rw [List.getElem?_map, ha]; rfl
    have h2 : (m.map St0.row)[i]? = some (St0.row b) := by rw [List.getElem?_map, hb]; rfl
    have hc := hF i a b ha hb
    simp only [St0.row_eq] at h1 h2
    simp only [St0.agg] at hc
    have hw : IntKind.i64.wrap ((i : Int) + 1) = ((i + 1 : Nat) : Int) := by rw [wrap64 (by omega) (by omega)]; omega
    simp (maxSteps := 4000000) (disch := first | (intros; contradiction) | omega) only [go_sem, hlt, hi0, h1, h2, hc, hw]
    exact ih (i + 1) _ h (by omega) (by simp (maxSteps := 4000000) (disch := first | (intros; contradiction) | omega) only [go_sem] <;> rfl)
  · have hlt : ¬ (i : Int) < ((m.map St0.row).length : Int) := by omega
    simp (maxSteps := 4000000) (disch := first | (intros; contradiction) | omega) only [go_sem, hlt]
    done
set_option maxHeartbeats 1000000 in
theorem eqfF_e (hx : T0 ext) (F : Nat) (l m : List Fl0) (hlen : l.length = m.length) (hl : l.length ≤ 1000000) (hF : ∀ (i : Nat) (a b : Fl0), l[i]? = some a → m[i]? = some b → G ext F [a.av, b.av] [] = some (.ret (.d (.bool true)), [])) : G ext 19 [.d (.sl (l.map Fl0.row)), .d (.sl (m.map Fl0.row)), .fn F [] []] [] = some (.ret (.d (.bool true)), []) := by
  have hll : (l.map Fl0.row).length = l.length := List.length_map _
  have hml : (m.map Fl0.row).length = m.length := List.length_map _
  have hlen2 : ((l.map Fl0.row).length : Int) = ((m.map Fl0.row).length : Int) := by omega
  rw [G_body hx.clear rfl Try.func19 rfl Try.results19 hv_19 rfl]
  simp (maxSteps := 4000000) (disch := first | (intros; contradiction) | omega) only [go_sem, hlen2]
  generalize hL : loopA _ _ _ = L
  apply loop_upd hL (by simp (maxSteps := 4000000) (disch := first | (intros; contradiction) | omega) only [go_sem] <;> rfl) (α := Nat) (fun i => i ≤ l.length) (fun i => l.length - i) (fun i => [(7, .any), (8, .any), (9, .any), (17, .d (.int .i64 i))]) (fun _ => []) 0 (by simp (maxSteps := 4000000) (disch := first | (intros; contradiction) | omega) only [go_sem] <;> rfl) (Nat.zero_le _) ?_
  clear hL
  intro i hi next ih
  by_cases h : i < l.length
  · have hlt : (i : Int) < ((m.map Fl0.row).length : Int) := by omega
    have hi0 : (0 : Int) ≤ (i : Int) := by omega
    obtain ⟨a, ha⟩ : ∃ a, l[i]? = some a := ⟨l[i], List.getElem?_eq_getElem h⟩
    obtain ⟨b, hb⟩ : ∃ b, m[i]? = some b := ⟨m[i]'(by omega), List.getElem?_eq_getElem _⟩
    have h1 : (l.map Fl0.row)[i]? = some (Fl0.row a) := by rw [List.getElem?_map, ha]; rfl
    have h2 : (m.map Fl0.row)[i]? = some (Fl0.row b) := by rw [List.getElem?_map, hb]; rfl
    have hc := hF i a b ha hb
    simp only [Fl0.row] at h1 h2
    simp only [Fl0.av] at hc
    have hw : IntKind.i64.wrap ((i : Int) + 1) = ((i + 1 : Nat) : Int) := by rw [wrap64 (by omega) (by omega)]; omega
    simp (maxSteps := 4000000) (disch := first | (intros; contradiction) | omega) only [go_sem, hlt, hi0, h1, h2, hc, hw]
    exact ih (i + 1) _ h (by omega) (by simp (maxSteps := 4000000) (disch := first | (intros; contradiction) | omega) only [go_sem] <;> rfl)
  · have hlt : ¬ (i : Int) < ((m.map Fl0.row).length : Int) := by omega
    simp (maxSteps := 4000000) (disch := first | (intros; contradiction) | omega) only [go_sem, hlt]
    done
set_option maxHeartbeats 1000000 in
theorem eqfR_e (hx : T0 ext) (F : Nat) (l m : List Sr0) (hlen : l.length = m.length) (hl : l.length ≤ 1000000) (hF : ∀ (i : Nat) (a b : Sr0), l[i]? = some a → m[i]? = some b → G ext F [a.av, b.av] [] = some (.ret (.d (.bool true)), [])) : G ext 24 [.d (.sl (l.map Sr0.row)), .d (.sl (m.map Sr0.row)), .fn F [] []] [] = some (.ret (.d (.bool true)), []) := by
  have hll : (l.map Sr0.row).length = l.length := List.length_map _
  have hml : (m.map Sr0.row).length = m.length := List.length_map _
  have hlen2 : ((l.map Sr0.row).length : Int) = ((m.map Sr0.row).length : Int) := by omega
  rw [G_body hx.clear rfl Try.func24 rfl Try.results24 hv_24 rfl]
  simp (maxSteps := 4000000) (disch := first | (intros; contradiction) | omega) only [go_sem, hlen2]
  generalize hL : loopA _ _ _ = L
  apply loop_upd hL (by simp (maxSteps := 4000000) (disch := first | (intros; contradiction) | omega) only [go_sem] <;> rfl) (α := Nat) (fun i => i ≤ l.length) (fun i => l.length - i) (fun i => [(7, .any), (8, .any), (9, .any), (17, .d (.int .i64 i))]) (fun _ => []) 0 (by simp (maxSteps := 4000000) (disch := first | (intros; contradiction) | omega) only [go_sem] <;> rfl) (Nat.zero_le _) ?_
  clear hL
  intro i hi next ih
  by_cases h : i < l.length
  · have hlt : (i : Int) < ((m.map Sr0.row).length : Int) := by omega
    have hi0 : (0 : Int) ≤ (i : Int) := by omega
    obtain ⟨a, ha⟩ : ∃ a, l[i]? = some a := ⟨l[i], List.getElem?_eq_getElem h⟩
    obtain ⟨b, hb⟩ : ∃ b, m[i]? = some b := ⟨m[i]'(by omega), List.getElem?_eq_getElem _⟩
    have h1 : (l.map Sr0.row)[i]? = some (Sr0.row a) := by rw [List.getElem?_map, ha]; rfl
    have h2 : (m.map Sr0.row)[i]? = some (Sr0.row b) := by rw [List.getElem?_map, hb]; rfl
    have hc := hF i a b ha hb
    simp only [Sr0.row] at h1 h2
    simp only [Sr0.av] at hc
    have hw : IntKind.i64.wrap ((i : Int) + 1) = ((i + 1 : Nat) : Int) := by rw [wrap64 (by omega) (by omega)]; omega
    simp (maxSteps := 4000000) (disch := first | (intros; contradiction) | omega) only [go_sem, hlt, hi0, h1, h2, hc, hw]
    exact ih (i + 1) _ h (by omega) (by simp (maxSteps := 4000000) (disch := first | (intros; contradiction) | omega) only [go_sem] <;> rfl)
  · have hlt : ¬ (i : Int) < ((m.map Sr0.row).length : Int) := by omega
    simp (maxSteps := 4000000) (disch := first | (intros; contradiction) | omega) only [go_sem, hlt]
    done
set_option maxHeartbeats 1000000 in
theorem eqfN_e (hx : T0 ext) (F : Nat) (l m : List Fn0) (hlen : l.length = m.length) (hl : l.length ≤ 1000000) (hF : ∀ (i : Nat) (a b : Fn0), l[i]? = some a → m[i]? = some b → G ext F [a.av, b.av] [] = some (.ret (.d (.bool true)), [])) : G ext 25 [.d (.sl (l.map Fn0.row)), .d (.sl (m.map Fn0.row)), .fn F [] []] [] = some (.ret (.d (.bool true)), []) := by
  have hll : (l.map Fn0.row).length = l.length := List.length_map _
  have hml : (m.map Fn0.row).length = m.length := List.length_map _
  have hlen2 : ((l.map Fn0.row).length : Int) = ((m.map Fn0.row).length : Int) := by omega
  rw [G_body hx.clear rfl Try.func25 rfl Try.results25 hv_25 rfl]
  simp (maxSteps := 4000000) (disch := first | (intros; contradiction) | omega) only [go_sem, hlen2]
  generalize hL : loopA _ _ _ = L
  apply loop_upd hL (by simp (maxSteps := 4000000) (disch := first | (intros; contradiction) | omega) only [go_sem] <;> rfl) (α := Nat) (fun i => i ≤ l.length) (fun i => l.length - i) (fun i => [(7, .any), (8, .any), (9, .any), (17, .d (.int .i64 i))]) (fun _ => []) 0 (by simp (maxSteps := 4000000) (disch := first | (intros; contradiction) | omega) only [go_sem] <;> rfl) (Nat.zero_le _) ?_
  clear hL
  intro i hi next ih
  by_cases h : i < l.length
  · have hlt : (i : Int) < ((m.map Fn0.row).length : Int) := by omega
    have hi0 : (0 : Int) ≤ (i : Int) := by omega
    obtain ⟨a, ha⟩ : ∃ a, l[i]? = some a := ⟨l[i], List.getElem?_eq_getElem h⟩
    obtain ⟨b, hb⟩ : ∃ b, m[i]? = some b := ⟨m[i]'(by omega), List.getElem?_eq_getElem _⟩
    have h1 : (l.map Fn0.row)[i]? = some (Fn0.row a) := by rw [List.getElem?_map, ha]; rfl
    have h2 : (m.map Fn0.row)[i]? = some (Fn0.row b) := by rw [List.getElem?_map, hb]; rfl
    have hc := hF i a b ha hb
    simp only [Fn0.row] at h1 h2
    simp only [Fn0.av] at hc
    have hw : IntKind.i64.wrap ((i : Int) + 1) = ((i + 1 : Nat) : Int) := by rw [wrap64 (by omega) (by omega)]; omega
    simp (maxSteps := 4000000) (disch := first | (intros; contradiction) | omega) only [go_sem, hlt, hi0, h1, h2, hc, hw]
    exact ih (i + 1) _ h (by omega) (by simp (maxSteps := 4000000) (disch := first | (intros; contradiction) | omega) only [go_sem] <;> rfl)
  · have hlt : ¬ (i : Int) < ((m.map Fn0.row).length : Int) := by omega
    simp (maxSteps := 4000000) (disch := first | (intros; contradiction) | omega) only [go_sem, hlt]
    done
theorem AE_eq {e f : Ex0} (h : AE e f) : e.kind = f.kind ∧ e.n = f.n ∧ e.name = f.name ∧ e.op = f.op ∧ AEs e.kids f.kids := by
  cases e; cases f
  unfold AE at h
  simp only [erE, Ex0.mk.injEq] at h
  exact ⟨h.1, h.2.1, h.2.2.1, h.2.2.2.1, h.2.2.2.2.1⟩
theorem map_at2 {α β : Type} {f : α → β} {l m : List α} (h : l.map f = m.map f) : l.length = m.length ∧ ∀ (i : Nat) (a b : α), l[i]? = some a → m[i]? = some b → f a = f b := by
  refine ⟨by have := congrArg List.length h; simpa using this, fun i a b ha hb => ?_⟩
  have := congrArg (fun l => l[i]?) h
  simp only [List.getElem?_map, ha, hb, Option.map_some, Option.some.injEq] at this
  exact this
set_option maxHeartbeats 4000000 in
theorem sameE_e (hx : T0 ext) : ∀ n e f, cntE e ≤ n → n ≤ 1000000 → AE e f → G ext 46 [e.av, f.av] [] = some (.ret (.d (.bool true)), []) := by
  intro n
  induction n with
  | zero => intro e f h; rw [cntE_eq] at h; omega
  | succ n ihn =>
    intro e f hc hn ha
    obtain ⟨h1, h2, h3, h4, h5⟩ := AE_eq ha
    unfold AEs at h5
    rw [erEs_map, erEs_map] at h5
    obtain ⟨m1, m2⟩ := map_at2 h5
    rw [cntE_eq] at hc
    have hkl := cntEs_len e.kids
    have hk := eqfE_e hx 46 e.kids f.kids m1 (by omega) (fun i a b ha hb => by
      have := cntEs_mem (List.mem_of_getElem? ha)
      exact ihn a b (by omega) (by omega) (m2 i a b ha hb))
    clear ihn h5 m1 m2 hkl hc ha
    unfold Ex0.av eO
    rw [h1, h2, h3, h4]
    rw [G_body hx.clear rfl Try.func46 rfl Try.results46 hv_46 rfl]
    simp (maxSteps := 4000000) (disch := first | (intros; contradiction) | omega) only [go_sem, hk]
    done
theorem AS_eq {s t : St0} (h : AS s t) : s.kind = t.kind ∧ s.t = t.t ∧ s.name = t.name ∧ AEs s.e t.e ∧ ASs s.body t.body ∧ ASs s.els t.els := by
  cases s; cases t
  unfold AS at h
  simp only [erS, St0.mk.injEq] at h
  exact ⟨h.1, h.2.1, h.2.2.1, h.2.2.2.1, h.2.2.2.2.1, h.2.2.2.2.2.1⟩
/-- A statement of bounded size. -/
def SzS (ts : List Tok) (s : St0) : Prop := StS ts s
set_option maxHeartbeats 8000000 in
theorem sameS_e (hx : T0 ext) (ts : List Tok) : ∀ n s t, cntS s ≤ n → StS ts s → AS s t → G ext 23 [s.agg, t.agg] [] = some (.ret (.d (.bool true)), []) := by
  intro n
  induction n with
  | zero => intro s t h; rw [cntS_eq] at h; omega
  | succ n ihn =>
    intro s t hc hs ha
    obtain ⟨h1, h2, h3, h4, h5, h6⟩ := AS_eq ha
    obtain ⟨⟨b1, b2, b3⟩, q1, q2, q3⟩ := StS_eq.1 hs
    unfold AEs at h4
    unfold ASs at h5 h6
    rw [erEs_map, erEs_map] at h4
    rw [erSs_map, erSs_map] at h5 h6
    obtain ⟨m1, m2⟩ := map_at2 h4
    obtain ⟨m3, m4⟩ := map_at2 h5
    obtain ⟨m5, m6⟩ := map_at2 h6
    rw [cntS_eq] at hc
    have k1 := eqfE_e hx 46 s.e t.e m1 b1 (fun i a b ha hb => by
      obtain ⟨g1, g2⟩ := q1 a (List.mem_of_getElem? ha)
      exact sameE_e hx _ a b g2 (Nat.le_refl _) (m2 i a b ha hb))
    have k2 := eqfS_e hx 23 s.body t.body m3 b2 (fun i a b ha hb => by
      have hm := List.mem_of_getElem? ha
      have := cntL_mem hm
      exact ihn a b (by omega) (q2 a hm) (m4 i a b ha hb))
    have k3 := eqfS_e hx 23 s.els t.els m5 b3 (fun i a b ha hb => by
      have hm := List.mem_of_getElem? ha
      have := cntL_mem hm
      exact ihn a b (by omega) (q3 a hm) (m6 i a b ha hb))
    clear ihn h4 h5 h6 m1 m2 m3 m4 m5 m6 hc ha q1 q2 q3 hs
    unfold St0.agg
    rw [h1, h2, h3]
    rw [G_body hx.clear rfl Try.func23 rfl Try.results23 hv_23 rfl]
    simp (maxSteps := 4000000) (disch := first | (intros; contradiction) | omega) only [go_sem, k1, k2, k3]
    done
theorem sameF_e (hx : T0 ext) (a b : Fl0) (h : AF a b) : G ext 20 [a.av, b.av] [] = some (.ret (.d (.bool true)), []) := by
  unfold AF erF at h
  simp only [Fl0.mk.injEq, and_true] at h
  unfold Fl0.av
  rw [h.1, h.2]
  rw [G_body hx.clear rfl Try.func20 rfl Try.results20 hv_20 rfl]
  simp (maxSteps := 4000000) (disch := first | (intros; contradiction) | omega) only [go_sem]
  done
theorem sameR_e (hx : T0 ext) (a b : Sr0) (hl : a.fields.length ≤ 1000000) (h : AR a b) : G ext 18 [a.av, b.av] [] = some (.ret (.d (.bool true)), []) := by
  unfold AR erR at h
  simp only [Sr0.mk.injEq, and_true] at h
  obtain ⟨m1, m2⟩ := map_at2 h.2
  have k1 := eqfF_e hx 20 a.fields b.fields m1 hl (fun i x y hx' hy => sameF_e hx x y (m2 i x y hx' hy))
  unfold Sr0.av
  rw [h.1]
  rw [G_body hx.clear rfl Try.func18 rfl Try.results18 hv_18 rfl]
  simp (maxSteps := 4000000) (disch := first | (intros; contradiction) | omega) only [go_sem, k1]
  done
set_option maxHeartbeats 2000000 in
theorem sameN_e (hx : T0 ext) (ts : List Tok) (a b : Fn0) (hl : a.params.length ≤ 1000000) (hs : StF ts a) (h : AN a b) : G ext 21 [a.av, b.av] [] = some (.ret (.d (.bool true)), []) := by
  unfold AN erFn at h
  simp only [Fn0.mk.injEq, and_true] at h
  obtain ⟨h1, h2, h3, h4⟩ := h
  rw [erSs_map, erSs_map] at h4
  obtain ⟨m1, m2⟩ := map_at2 h2
  obtain ⟨m3, m4⟩ := map_at2 h4
  have k1 := eqfF_e hx 20 a.params b.params m1 hl (fun i x y hx' hy => sameF_e hx x y (m2 i x y hx' hy))
  have k2 := eqfS_e hx 23 a.body b.body m3 hs.2 (fun i x y hx' hy => sameS_e hx ts _ x y (Nat.le_refl _) (hs.1 x (List.mem_of_getElem? hx')) (m4 i x y hx' hy))
  unfold Fn0.av
  rw [h1, h3]
  rw [G_body hx.clear rfl Try.func21 rfl Try.results21 hv_21 rfl]
  simp (maxSteps := 4000000) (disch := first | (intros; contradiction) | omega) only [go_sem, k1, k2]
  done
/-- A program of bounded size. -/
structure BdP (ts : List Tok) (p : Pr0) : Prop where
  ss : p.structs.length ≤ 1000000
  fs : p.funcs.length ≤ 1000000
  fields : ∀ s, s ∈ p.structs → s.fields.length ≤ 1000000
  params : ∀ f, f ∈ p.funcs → f.params.length ≤ 1000000
  body : ∀ f, f ∈ p.funcs → StF ts f
theorem sameP_e (hx : T0 ext) (ts : List Tok) (p q : Pr0) (hp : BdP ts p) (h : AP p q) : G ext 10 [p.av, q.av] [] = some (.ret (.d (.bool true)), []) := by
  unfold AP erP at h
  simp only [Pr0.mk.injEq] at h
  obtain ⟨m1, m2⟩ := map_at2 h.1
  obtain ⟨m3, m4⟩ := map_at2 h.2
  have k1 := eqfR_e hx 18 p.structs q.structs m1 hp.ss (fun i x y hx' hy => sameR_e hx x y (hp.fields x (List.mem_of_getElem? hx')) (m2 i x y hx' hy))
  have k2 := eqfN_e hx 21 p.funcs q.funcs m3 hp.fs (fun i x y hx' hy => sameN_e hx ts x y (hp.params x (List.mem_of_getElem? hx')) (hp.body x (List.mem_of_getElem? hx')) (m4 i x y hx' hy))
  unfold Pr0.av
  rw [G_body hx.clear rfl Try.func10 rfl Try.results10 hv_10 rfl]
  simp (maxSteps := 4000000) (disch := first | (intros; contradiction) | omega) only [go_sem, k1, k2]
  done
theorem fieldsL_len : ∀ n out l, OkT l → ∀ fs l', fieldsL n out l = .ok (fs, l') → fs.length + l'.length ≤ out.length + l.length := by
  intro n
  induction n with
  | zero => intro out l _ fs l' h; cases h
  | succ n ih =>
    intro out l hl fs l' h
    simp only [fieldsL] at h
    split at h
    · rename_i hi
      cases h
      obtain ⟨_, h2⟩ := hl.step (isT_kind hi)
      omega
    · obtain ⟨f, l1, h1, h⟩ := PR.thenOk h
      obtain ⟨a1, a2⟩ := fieldT_ok l hl f l1 h1
      obtain ⟨u, l2, h2, h⟩ := PR.thenOk h
      obtain ⟨b1, b2, _⟩ := eatT_ok a1 h2
      have := ih _ l2 b1 fs l' h
      simp only [List.length_append, List.length_cons, List.length_nil] at this
      omega
theorem paramsL_len : ∀ n out l, OkT l → ∀ fs l', paramsL n out l = .ok (fs, l') → fs.length + l'.length ≤ out.length + l.length := by
  intro n
  induction n with
  | zero => intro out l _ fs l' h; cases h
  | succ n ih =>
    intro out l hl fs l' h
    simp only [paramsL] at h
    split at h
    · rename_i hi
      cases h
      obtain ⟨_, h2⟩ := hl.step (isT_kind hi)
      omega
    · obtain ⟨u, l1, h1, h⟩ := PR.thenOk h
      have hl1 : OkT l1 ∧ l1.length ≤ l.length := by
        split at h1
        · cases h1; exact ⟨hl, Nat.le_refl _⟩
        · obtain ⟨a1, a2, _⟩ := eatT_ok hl h1; exact ⟨a1, by omega⟩
      obtain ⟨f, l2, h2, h⟩ := PR.thenOk h
      obtain ⟨b1, b2⟩ := fieldT_ok l1 hl1.1 f l2 h2
      have := ih _ l2 b1 fs l' h
      simp only [List.length_append, List.length_cons, List.length_nil] at this
      omega
theorem structT_len {l : List Tok} (hl : OkT l) (hk : (hdT l).kind ≠ 5) {s : Sr0} {l' : List Tok} (h : structT l = .ok (s, l')) : s.fields.length ≤ l.length := by
  obtain ⟨h1, h2⟩ := hl.step hk
  obtain ⟨t, l1, h3, h⟩ := PR.thenOk h
  obtain ⟨a1, a2, _⟩ := nameT_ok h1 h3
  obtain ⟨u, l2, h4, h⟩ := PR.thenOk h
  obtain ⟨b1, b2, _⟩ := eatT_ok a1 h4
  obtain ⟨fs, l3, h5, h⟩ := PR.thenOk h
  have := fieldsL_len _ _ _ b1 fs l3 h5
  obtain ⟨u2, l4, h6, h⟩ := PR.thenOk h
  cases h
  simp only [List.length_nil] at this ⊢
  omega
theorem funcT_len {l : List Tok} (hl : OkT l) {f : Fn0} {l' : List Tok} (h : funcT l = .ok (f, l')) : f.params.length ≤ l.length := by
  obtain ⟨t, l1, h3, h⟩ := PR.thenOk h
  obtain ⟨a1, a2⟩ := typeT_ok l hl t l1 h3
  obtain ⟨n, l2, h4, h⟩ := PR.thenOk h
  obtain ⟨b1, b2, _⟩ := nameT_ok a1 h4
  obtain ⟨u, l3, h5, h⟩ := PR.thenOk h
  obtain ⟨c1, c2, _⟩ := eatT_ok b1 h5
  obtain ⟨ps, l4, h6, h⟩ := PR.thenOk h
  have := paramsL_len _ _ _ c1 ps l4 h6
  obtain ⟨b, l5, h7, h⟩ := PR.thenOk h
  cases h
  simp only [List.length_nil] at this ⊢
  omega
theorem bd_partsL : ∀ n p l, OkT l → (p.structs.length + p.funcs.length + l.length ≤ 1000000 ∧ (∀ s, s ∈ p.structs → s.fields.length ≤ 1000000) ∧ ∀ f, f ∈ p.funcs → f.params.length ≤ 1000000) → ∀ q l', partsL n p l = .ok (q, l') → q.structs.length ≤ 1000000 ∧ (∀ s, s ∈ q.structs → s.fields.length ≤ 1000000) ∧ ∀ f, f ∈ q.funcs → f.params.length ≤ 1000000 := by
  intro n
  induction n with
  | zero => intro p l hl hp q l' h; cases h; exact ⟨by omega, hp.2⟩
  | succ n ih =>
    intro p l hl hp q l' h
    have hfew := hl.few
    simp only [partsL] at h
    split at h
    · cases h; exact ⟨by omega, hp.2⟩
    · rename_i hk
      split at h
      · obtain ⟨s, l1, h1, h2⟩ := PR.thenOk h
        obtain ⟨a1, hlt⟩ := structT_ok hl hk h1
        have hsl := structT_len hl hk h1
        exact ih ⟨p.structs ++ [s], p.funcs⟩ l1 a1 ⟨by simp only [List.length_append, List.length_cons, List.length_nil]; omega, fun x hx => by
          rcases List.mem_append.1 hx with hx | hx
          · exact hp.2.1 x hx
          · cases List.mem_singleton.1 hx; omega, hp.2.2⟩ q l' h2
      · obtain ⟨f, l1, h1, h2⟩ := PR.thenOk h
        obtain ⟨a1, hlt⟩ := funcT_ok l hl f l1 h1
        have hfl := funcT_len hl h1
        exact ih ⟨p.structs, p.funcs ++ [f]⟩ l1 a1 ⟨by simp only [List.length_append, List.length_cons, List.length_nil]; omega, hp.2.1, fun x hx => by
          rcases List.mem_append.1 hx with hx | hx
          · exact hp.2.2 x hx
          · cases List.mem_singleton.1 hx; omega⟩ q l' h2
theorem parseT_bd {ts : List Tok} (hu : Uniq ts) (hok : OkT ts) : BdP ts (parseT ts).1 := by
  obtain ⟨h1, h2⟩ := parseT_stands hu hok
  have hfew := hok.few
  have h3 : (parseT ts).1.structs.length ≤ 1000000 ∧ (∀ s, s ∈ (parseT ts).1.structs → s.fields.length ≤ 1000000) ∧ ∀ f, f ∈ (parseT ts).1.funcs → f.params.length ≤ 1000000 := by
    unfold parseT
    split
    · rename_i p l h
      exact bd_partsL _ _ _ hok ⟨by simp only [List.length_nil]; omega, fun s hs => (by cases hs), fun s hs => (by cases hs)⟩ p l h
    · exact ⟨Nat.zero_le _, fun s hs => (by cases hs), fun s hs => (by cases hs)⟩
  exact ⟨h3.1, h2, h3.2.1, h3.2.2, h1⟩
theorem sameL_alk : ∀ {l m : List Tok}, sameL l m = true → Alk l m
  | [], [], _ => rfl
  | a :: l, b :: m, h => by
    simp only [sameL, sameT, Bool.and_eq_true, decide_eq_true_eq] at h
    have := sameL_alk h.2
    unfold Alk at *
    simp only [List.map_cons, this, erT, h.1.1, h.1.2.1, h.1.2.2]
  | [], _ :: _, h => by cases h
  | _ :: _, [], h => by cases h
set_option maxHeartbeats 4000000 in
theorem blind_e (hx : T6 ext) (hj : TXJ ext) (s : Str) (hs : s.length ≤ 9223372036854775807) : G ext 4 [.d (.str s)] [] = some (.ret (.d (.bool true)), []) := by
  have hal := alive2_e hx
  by_cases hlen : (3000 : Int) < s.length
  · rw [G_body hx.clear rfl Try.func4 rfl Try.results4 hv_4 rfl]
    simp (maxSteps := 4000000) (disch := first | (intros; contradiction) | omega) only [go_sem, hlen, hal]
    done
  · have hr := scan_e hx.tx s
    rcases eachL_shape s with hg | ⟨gs, d, he, hd, hg⟩
    · obtain ⟨h1, h2, _, _, h5⟩ := scan_again (by omega) hg
      have ht := ptext_e hx.toT5 s (by omega)
      have hu := placed_uniq s _ _ (eachL_placed (by omega) hg)
      have hok := toks_ended (by omega) hg
      have e1 : textT s = parseT ((eachL s).map (·.1)) := by
        unfold textT
        rw [scanR_good hg, if_neg (by simp [Dg.zero])]
      rw [scanR_good hg] at hr
      rw [e1] at ht
      generalize (eachL s).map (·.1) = ts at *
      have ht2 := ptext_e hx.toT5 (textL ts) (by omega)
      have e2 : textT (textL ts) = parseT ((eachL (textL ts)).map (·.1)) := by
        unfold textT
        rw [scanR_good h1, if_neg (by simp [Dg.zero])]
      rw [e2] at ht2
      generalize (eachL (textL ts)).map (·.1) = ms at *
      obtain ⟨a1, a2⟩ := parseT_alike (sameL_alk h2)
      have hsm := sameP_e hx.toT5.toT0 ts _ _ (parseT_bd hu hok) a1
      have htx := text_e hj ts (by have := hok.few; omega) (by omega)
      clear a1 e1 e2 h1 h2 hu hg
      generalize parseT ts = p at *
      generalize parseT ms = q at *
      obtain ⟨p, d⟩ := p
      obtain ⟨q, d'⟩ := q
      simp only at ht ht2 hsm a2
      have a2' := eq_true a2
      unfold Pr0.av Dg.av at *
      unfold Dg.zero at hr
      rw [G_body hx.clear rfl Try.func4 rfl Try.results4 hv_4 rfl]
      simp (maxSteps := 4000000) (disch := first | (intros; contradiction) | omega) only [go_sem, hlen, hr, ht, htx, ht2, hsm, a2', hal]
      done
    · rw [he, scanR_bad hg hd] at hr
      unfold Dg.av at hr
      rw [G_body hx.clear rfl Try.func4 rfl Try.results4 hv_4 rfl]
      simp (maxSteps := 4000000) (disch := first | (intros; contradiction) | omega) only [go_sem, hlen, hr, hd, hal]
      done
end Go.Proofs.Ytlcbnlfbbjmpbaa
