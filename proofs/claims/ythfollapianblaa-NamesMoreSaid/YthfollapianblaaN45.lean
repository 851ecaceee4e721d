/- Law 4: a program that is right is so with one function, and one struct, more. Conditions: what is known of names.Check. -/
import Derived.Test.YthfollapianblaaN43
set_option linter.unusedSimpArgs false
set_option linter.unusedVariables false
namespace Go.Proofs.Ythfollapianblaa
open Go Go.Ab
variable {ext : Sem'}
/-- What is wrong has a name. -/
def NeX {α : Type} (x : Except Dg α) : Prop := ∀ d, x = .error d → d.what ≠ 0
theorem NeX.ok {α : Type} (a : α) : NeX (.ok a : Except Dg α) := fun _ h => by cases h
theorem NeX.err {α : Type} {f : Int} (hf : f ≠ 0) (p : Po) : NeX (err f p : Except Dg α) := fun _ h => by cases h; exact hf
theorem NeX.seq {α β : Type} {x : Except Dg α} {k : α → Except Dg β} (h1 : NeX x) (h2 : ∀ a, NeX (k a)) : NeX (andT x k) := by
  cases x with
  | error d => intro d' h; cases h; exact h1 d rfl
  | ok a => exact h2 a
theorem NeX.must {β : Type} {b : Bool} {f : Int} {p : Po} {k : Except Dg β} (hf : f ≠ 0) (hk : NeX k) : NeX (mustP b f p k) := by
  cases b with
  | false => exact .err hf p
  | true => exact hk
theorem NeX.got {α β : Type} {o : Option α} {p : Po} {k : α → Except Dg β} (hk : ∀ a, NeX (k a)) : NeX (gotP o p k) := by
  cases o with
  | none => exact .err (by decide) p
  | some a => exact hk a
def NeL : List (Except Dg Tp) → Prop
  | [] => True
  | a :: l => NeX a ∧ NeL l
theorem NeX.one {β : Type} {l : List (Except Dg Tp)} {f : Except Dg Tp → Except Dg β} {z : Except Dg β} (h : NeL l) (hz : NeX z) (hk : ∀ a, NeX a → NeX (f a)) : NeX (oneK l f z) := by
  match l, h with
  | [], _ => exact hz
  | [a], h => exact hk a h.1
  | a :: a' :: l, _ => exact hz
theorem NeX.two {β : Type} {l : List (Except Dg Tp)} {f : Except Dg Tp → Except Dg Tp → Except Dg β} {z : Except Dg β} (h : NeL l) (hz : NeX z) (hk : ∀ a a', NeX a → NeX a' → NeX (f a a')) : NeX (twoK l f z) := by
  match l, h with
  | [], _ => exact hz
  | [a], h => exact hz
  | [a, a'], h => exact hk a a' h.1 h.2.1
  | a :: a' :: a'' :: l, _ => exact hz
theorem NeX.oneE {α β : Type} {l : List α} {f : α → Except Dg β} {z : Except Dg β} (hz : NeX z) (hk : ∀ a, NeX (f a)) : NeX (oneK l f z) := by
  match l with
  | [] => exact hz
  | [a] => exact hk a
  | _ :: _ :: _ => exact hz
theorem NeX.twoE {α β : Type} {l : List α} {f : α → α → Except Dg β} {z : Except Dg β} (hz : NeX z) (hk : ∀ a b, NeX (f a b)) : NeX (twoK l f z) := by
  match l with
  | [] => exact hz
  | [a] => exact hz
  | [a, b] => exact hk a b
  | _ :: _ :: _ :: _ => exact hz
theorem NeX.ite {α : Type} {c : Prop} [Decidable c] {x y : Except Dg α} (h1 : NeX x) (h2 : NeX y) : NeX (if c then x else y) := by
  split
  · exact h1
  · exact h2
variable {p : Pr0}
theorem argsK_ne : ∀ (fs : List Fl0) (ks : List Ex0) (rs : List (Except Dg Tp)), NeL rs → NeX (argsK fs ks rs)
  | q :: qs, x :: xs, r :: rs, h => NeX.seq h.1 fun t => NeX.must (by decide) (argsK_ne qs xs rs h.2)
  | [], _, _, _ => by unfold argsK; exact .ok _
  | _ :: _, [], _, _ => by unfold argsK; exact .ok _
  | _ :: _, _ :: _, [], _ => by unfold argsK; exact .ok _
theorem memK_ne {β : Type} {x : Except Dg Tp} (hx : NeX x) (n : Str) (a b : Po) {k : Tp → Except Dg β} (hk : ∀ t, NeX (k t)) : NeX (memK p x n a b k) := by
  unfold memK
  exact NeX.seq hx fun t => NeX.must (by decide) (NeX.got fun u => hk _)
theorem exprK_ne (env : List Fl0) (k : Int) (s op : Str) (at_ : Po) (ks : List Ex0) {rs : List (Except Dg Tp)} (hr : NeL rs) : NeX (exprK p env k s op at_ ks rs) := by
  unfold exprK
  refine NeX.ite (NeX.got fun _ => .ok _) (NeX.ite (NeX.one hr (.ok _) fun a hab => memK_ne hab _ _ _ fun _ => .ok _) (NeX.ite ?_ (NeX.ite ?_ (NeX.ite (.ok _) (NeX.ite (NeX.must (by decide) (.ok _)) (NeX.ite ?_ (.ok _)))))))
  · exact NeX.twoE (.ok _) fun x y => NeX.two hr (.ok _) fun a b h1 h2 => NeX.seq h1 fun _ => NeX.seq h2 fun _ => NeX.must (by decide) (.ok _)
  · exact NeX.one hr (.ok _) fun a hab => NeX.seq hab fun _ => NeX.must (by decide) (.ok _)
  · exact NeX.got fun f => NeX.must (by decide) (NeX.seq (argsK_ne _ _ _ hr) fun _ => .ok _)
mutual
theorem exprP_ne (env : List Fl0) : ∀ e : Ex0, NeX (exprP p env e)
  | .mk k _ s op ks at_ => by
    simp only [exprP]
    exact exprK_ne env k s op at_ ks (exprsP_ne env ks)
theorem exprsP_ne (env : List Fl0) : ∀ l : List Ex0, NeL (exprsP p env l)
  | [] => trivial
  | e :: l => ⟨exprP_ne env e, exprsP_ne env l⟩
end
theorem fitK_ne {β : Type} (env : List Fl0) (t : Tp) (e : Ex0) {k : Except Dg β} (hk : NeX k) : NeX (fitK p env t e k) := NeX.seq (exprP_ne env e) fun _ => NeX.must (by decide) hk
theorem numK_ne {β : Type} (env : List Fl0) (e : Ex0) {k : Except Dg β} (hk : NeX k) : NeX (numK p env e k) := NeX.seq (exprP_ne env e) fun _ => NeX.must (by decide) hk
theorem stmtK_ne (ret : Tp) (inn : Int) (env : List Fl0) (k : Int) (t : Tp) (n : Str) (es : List Ex0) (at_ : Po) {rb : Int → Except Dg (List Fl0)} {rl : Except Dg (List Fl0)} (hb : ∀ i, NeX (rb i)) (hl : NeX rl) : NeX (stmtK p ret inn env k t n es at_ rb rl) := by
  unfold stmtK
  refine NeX.ite ?_ (NeX.ite ?_ (NeX.ite ?_ (NeX.ite ?_ (NeX.ite ?_ (NeX.ite (NeX.must (by decide) (.ok _)) (NeX.ite ?_ (NeX.ite (NeX.got fun _ => NeX.must (by decide) (.ok _)) (NeX.ite ?_ (NeX.ite ?_ (.ok _))))))))))
  · exact NeX.oneE (.ok _) fun x => NeX.must (by decide) (fitK_ne _ _ _ (NeX.must (by decide) (.ok _)))
  · exact NeX.oneE (.ok _) fun x => NeX.got fun u => fitK_ne _ _ _ (.ok _)
  · exact NeX.twoE (.ok _) fun x y => memK_ne (exprP_ne _ _) _ _ _ fun u => fitK_ne _ _ _ (.ok _)
  · exact NeX.oneE (.ok _) fun x => numK_ne _ _ (NeX.seq (hb _) fun _ => NeX.seq hl fun _ => .ok _)
  · exact NeX.oneE (.ok _) fun x => numK_ne _ _ (NeX.seq (hb _) fun _ => .ok _)
  · exact NeX.oneE (.ok _) fun x => fitK_ne _ _ _ (.ok _)
  · exact NeX.oneE (.ok _) fun x => numK_ne _ _ (.ok _)
  · exact NeX.oneE (.ok _) fun x => NeX.seq (exprP_ne _ _) fun _ => .ok _
mutual
theorem stmtP_ne (ret : Tp) : ∀ (s : St0) (inn : Int) (env : List Fl0), NeX (stmtP p ret inn env s)
  | .mk k t n es b l at_, inn, env => by
    simp only [stmtP]
    exact stmtK_ne ret inn env k t n es at_ (fun i => blockP_ne ret b i env false) (blockP_ne ret l inn env false)
theorem blockP_ne (ret : Tp) : ∀ (l : List St0) (inn : Int) (env : List Fl0) (over : Bool), NeX (blockP p ret inn env over l)
  | [], inn, env, over => by simp only [blockP]; exact .ok _
  | s :: l, inn, env, over => by
    simp only [blockP]
    exact NeX.must (by decide) (NeX.seq (stmtP_ne ret s inn env) fun env' => blockP_ne ret l inn env' (overP s))
end
theorem paramsP_ne : ∀ (l env : List Fl0), NeX (paramsP p env l)
  | [], env => by simp only [paramsP]; exact .ok _
  | x :: l, env => by
    simp only [paramsP]
    exact NeX.must (by decide) (NeX.must (by decide) (paramsP_ne l _))
theorem functionP_ne (f : Fn0) : NeX (functionP p f) := by
  unfold functionP
  exact NeX.seq (paramsP_ne _ _) fun env => NeX.must (by decide) (NeX.seq (blockP_ne _ _ _ _ _) fun _ => NeX.must (by decide) (.ok _))
theorem fieldsP_ne : ∀ (l pre : List Fl0), NeX (fieldsP p pre l)
  | [], pre => by simp only [fieldsP]; exact .ok _
  | x :: l, pre => by
    simp only [fieldsP]
    exact NeX.must (by decide) (NeX.must (by decide) (fieldsP_ne l _))
theorem structsK_ne : ∀ (l pre : List Sr0), NeX (structsK p pre l)
  | [], pre => by simp only [structsK]; exact .ok _
  | x :: l, pre => by
    simp only [structsK]
    exact NeX.must (by decide) (NeX.seq (fieldsP_ne _ _) fun _ => structsK_ne l _)
theorem namesK_ne : ∀ (l pre : List Fn0), NeX (namesK pre l)
  | [], pre => by simp only [namesK]; exact .ok _
  | x :: l, pre => by
    simp only [namesK]
    exact NeX.must (by decide) (namesK_ne l _)
theorem functionsK_ne : ∀ (l : List Fn0), NeX (functionsK p l)
  | [] => by simp only [functionsK]; exact .ok _
  | x :: l => by
    simp only [functionsK]
    exact NeX.seq (functionP_ne _) fun _ => functionsK_ne l
theorem checkP_ne (p : Pr0) : NeX (checkP p) := by
  unfold checkP structsP funcsP
  refine NeX.seq (NeX.seq ?_ fun _ => structsK_ne _ _) fun _ => NeX.seq ?_ fun _ => NeX.seq (namesK_ne _ _) fun _ => NeX.seq (functionsK_ne _) fun _ => NeX.must (by decide) (.ok _)
  · unfold limS
    split
    · exact .err (by decide) _
    · exact .ok _
  · unfold limF
    split
    · exact .err (by decide) _
    · exact .ok _
theorem checkP_zero {p : Pr0} (h : (dgOf (checkP p)).what = 0) : checkP p = .ok () := by
  have hn := checkP_ne p
  cases hc : checkP p with
  | ok u => rfl
  | error d => rw [hc] at h; exact absurd h (hn d hc)
def zzS : Str := [122, 122, 95, 109, 111, 114, 101]
def moreP (p : Pr0) : Pr0 := ⟨p.structs ++ [⟨zzS, [], ⟨0, 0⟩⟩], p.funcs ++ [zeroF zzS ⟨0, 0⟩]⟩
theorem moreP_ok {p : Pr0} (h : OkP p) (h1 : p.structs.length < 30) (h2 : p.funcs.length < 60) : OkP (moreP p) := by
  have h3 : OkP ⟨p.structs ++ [⟨zzS, [], ⟨0, 0⟩⟩], p.funcs⟩ := okP_struct h (by omega) (by simp)
  refine okP_func (s := zeroF zzS ⟨0, 0⟩) h3 (by show p.funcs.length + 1 ≤ 1000000; omega) (by simp [zeroF]) (Nat.le_of_ble_eq_true rfl) ?_
  simp [zeroF, zeroB, okSs, okS, okEs, okE, arS, arity]
theorem moreP_av (p : Pr0) : (moreP p).av = .agg [.d (.sl (p.structs.map Sr0.row ++ [[.str zzS, .sl [], .int .i64 0, .int .i64 0]])), .d (.sl (p.funcs.map Fn0.row ++ [[.str zzS, .sl [], .bool false, .str [], .sl [[.int .i64 8, .bool false, .str [], .str [], .sl [[.int .i64 1, .int .i64 0, .str [], .str [], .sl [], .int .i64 0, .int .i64 0]], .sl [], .sl [], .int .i64 0, .int .i64 0]], .int .i64 0, .int .i64 0]]))] := by
  unfold moreP Pr0.av
  simp only [List.map_append, List.map_cons, List.map_nil]
  rfl
set_option maxHeartbeats 8000000 in
theorem moreL_e (hx : T4 ext) (s : Str) : G ext 6 [.d (.str s)] [] = some (.ret (.d (.bool true)), []) := by
  have ha := alive4_e hx
  by_cases hs : s.length ≤ 3000
  · have hs' : ¬ (3000 : Int) < s.length := by omega
    obtain ⟨p, d, t1, t2⟩ := rtext_e hx.toT0 s hs
    have c1 := G_ext (hx.check p t2)
    have hfl : (p.funcs.map Fn0.row).length = p.funcs.length := List.length_map _
    have hsl : (p.structs.map Sr0.row).length = p.structs.length := List.length_map _
    have u1 := func_e hx.toT0 p zzS t2.funcs
    have s1 := struct_e hx.toT0 p zzS t2.structs
    by_cases hc : (dgOf (checkP p)).what = 0
    · by_cases hu : 0 ≤ idxN (nmF zzS) p.funcs
      · generalize dgOf (checkP p) = c at c1 hc
        unfold Pr0.av Dg.av zzS at *
        rw [G_body hx.clear rfl Try.func6 rfl Try.results6 hv_6 rfl]
        simp (maxSteps := 4000000) (disch := first | (intros; contradiction) | omega) only [go_sem, hs', t1, c1, hc, u1, hu, ha]
        done
      · by_cases hv : 0 ≤ idxN (nmS zzS) p.structs
        · generalize dgOf (checkP p) = c at c1 hc
          unfold Pr0.av Dg.av zzS at *
          rw [G_body hx.clear rfl Try.func6 rfl Try.results6 hv_6 rfl]
          simp (maxSteps := 4000000) (disch := first | (intros; contradiction) | omega) only [go_sem, hs', t1, c1, hc, u1, hu, s1, hv, ha]
          done
        · by_cases h1 : p.funcs.length < 60
          · have h1' : ¬ (60 : Int) ≤ p.funcs.length := by omega
            by_cases h2 : p.structs.length < 30
            · have h2' : ¬ (30 : Int) ≤ p.structs.length := by omega
              have hm := checkP_more (checkP_zero hc) hv hu h2 h1 ⟨0, 0⟩ ⟨0, 0⟩
              have c2 := G_ext (hx.check _ (moreP_ok t2 h2 h1))
              rw [moreP_av, show checkP (moreP p) = .ok () from hm] at c2
              simp only [dgOf] at c2
              generalize dgOf (checkP p) = c at c1 hc
              have q1 : fits 4 (p.structs.map Sr0.row) := by intro row hrow; obtain ⟨x, _, rfl⟩ := List.mem_map.1 hrow; rfl
              have q2 : fits 7 (p.funcs.map Fn0.row) := by intro row hrow; obtain ⟨x, _, rfl⟩ := List.mem_map.1 hrow; rfl
              have q3 : room p.structs.length 56 := by unfold room; simp; omega
              have q4 : room (p.structs.length + 1) 56 := by unfold room; simp; omega
              have q5 : room p.funcs.length 104 := by unfold room; simp; omega
              have q6 : room (p.funcs.length + 1) 104 := by unfold room; simp; omega
              unfold Pr0.av Dg.av Dg.zero zzS at *
              rw [G_body hx.clear rfl Try.func6 rfl Try.results6 hv_6 rfl]
              simp (maxSteps := 4000000) (disch := first | (intros; contradiction) | omega) only [go_sem, hs', t1, c1, hc, u1, hu, s1, hv, hfl, hsl, h1', h2', q1, q2, q3, q4, q5, q6, c2, ha]
              done
            · have h2' : (30 : Int) ≤ p.structs.length := by omega
              generalize dgOf (checkP p) = c at c1 hc
              unfold Pr0.av Dg.av zzS at *
              rw [G_body hx.clear rfl Try.func6 rfl Try.results6 hv_6 rfl]
              simp (maxSteps := 4000000) (disch := first | (intros; contradiction) | omega) only [go_sem, hs', t1, c1, hc, u1, hu, s1, hv, hfl, hsl, h1', h2', ha]
              done
          · have h1' : (60 : Int) ≤ p.funcs.length := by omega
            generalize dgOf (checkP p) = c at c1 hc
            unfold Pr0.av Dg.av zzS at *
            rw [G_body hx.clear rfl Try.func6 rfl Try.results6 hv_6 rfl]
            simp (maxSteps := 4000000) (disch := first | (intros; contradiction) | omega) only [go_sem, hs', t1, c1, hc, u1, hu, s1, hv, hfl, h1', ha]
            done
    · generalize dgOf (checkP p) = c at c1 hc
      unfold Pr0.av Dg.av at *
      rw [G_body hx.clear rfl Try.func6 rfl Try.results6 hv_6 rfl]
      simp (maxSteps := 4000000) (disch := first | (intros; contradiction) | omega) only [go_sem, hs', t1, c1, hc, ha]
      done
  · have hs' : (3000 : Int) < s.length := by omega
    rw [G_body hx.clear rfl Try.func6 rfl Try.results6 hv_6 rfl]
    simp (maxSteps := 4000000) (disch := first | (intros; contradiction) | omega) only [go_sem, hs', ha]
    done
end Go.Proofs.Ythfollapianblaa
