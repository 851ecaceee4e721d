/- The program's checker of names: functions; The program's checker of names: structs; The program's checker of names: a program's functions; names.Check: what is wrong first. Conditions: none. -/
import Derived.Test.YthfollapianblaaNF
set_option linter.unusedSimpArgs false
set_option linter.unusedVariables false
namespace Go.Proofs.Ythfollapianblaa
open Go Go.Ab
variable {ext : Sem'}
def Nk.setRet (k : Nk) (t : Tp) : Nk := ⟨k.p, t, k.deep, k.env, k.e, k.junk⟩
theorem ret_fold (k : Nk) (t : Tp) : AObj.cells [.stk 1 k.e k.env.length, .mp 2, .d (.sl (k.p.structs.map Sr0.row)), .d (.sl (k.p.funcs.map Fn0.row)), .d (.bool t.ptr), .d (.str t.to), .d (.int .i64 k.deep)] = nkO 1 2 (k.setRet t) := rfl
theorem no_err {d : Dg} {P : Prop} (h : (∃ e : Unit, (Except.error d : Except Dg Unit) = .ok e)) : P := by obtain ⟨e, h⟩ := h; cases h
set_option maxHeartbeats 8000000 in
theorem nfunction_e (hx : T0 ext) {k : Nk} {f : Fn0} (hp : OkP k.p) (henv : k.env = []) (hdp : k.deep = 0) (hpar : sizL f.body + f.params.length ≤ 1000000) (hok : okSs f.body) :
    ∃ k', G ext 51 [.ptr 0 0, .agg [.d (.str f.name), .d (.sl (f.params.map Fl0.row)), .d (.bool f.ret.ptr), .d (.str f.ret.to), .d (.sl (f.body.map St0.row)), .d (.int .i64 f.at_.line), .d (.int .i64 f.at_.col)]] [nkO 1 2 k, nkS k, nkM k] = some (outU (functionP k.p f), [nkO 1 2 k', nkS k', nkM k']) ∧ ((∃ e, functionP k.p f = .ok e) → k'.p = k.p ∧ k'.deep = 0 ∧ k'.env = []) := by
  have hpl : (f.params.map Fl0.row).length = f.params.length := List.length_map _
  have hrf := ret_fold k f.ret
  have hS0 : nkS k = nkS (k.setRet f.ret) := rfl
  have hM0 : nkM k = nkM (k.setRet f.ret) := rfl
  have hp1 : (k.setRet f.ret).p = k.p := rfl
  have he1 : (k.setRet f.ret).env = [] := henv
  have hd1 : (k.setRet f.ret).deep = 0 := hdp
  have hr1 : (k.setRet f.ret).ret = f.ret := rfl
  generalize hA : functionP k.p f = A
  unfold functionP at hA
  rw [G_body hx.clear rfl Try.func51 rfl Try.results51 hv_51 rfl]
  simp (maxSteps := 4000000) (disch := first | (intros; contradiction) | omega) only [go_sem, hrf]
  rw [hS0, hM0]
  generalize k.setRet f.ret = k1 at hp1 he1 hd1 hr1 ⊢
  generalize hL : loopA _ _ _ = L
  apply range_upd hL (by simp (maxSteps := 4000000) (disch := first | (intros; contradiction) | omega) only [go_sem] <;> rfl) f.params Fl0.row (α := Nk) (fun rest j a => a.p = k.p ∧ a.ret = f.ret ∧ a.deep = 0 ∧ a.env = f.params.take j ∧ (a.env.map (·.name)).Nodup ∧ A = andT (paramsP k.p a.env rest) fun env => mustP (knownP k.p f.ret) 5 f.at_ (andT (blockP k.p f.ret 0 env false f.body) fun _ => mustP (endsP f.body) 8 f.at_ (.ok ()))) (fun j _ => [(5, .any), (6, .any), (7, .any), (16, .d (.int .i64 j))]) (fun _ a => [(0, nkO 1 2 a), (1, nkS a), (2, nkM a)]) k1 (by simp (maxSteps := 4000000) (disch := first | (intros; contradiction) | omega) only [go_sem] <;> rfl) ⟨hp1, hr1, hd1, by rw [he1]; rfl, by rw [he1]; simp, by rw [he1]; exact hA.symm⟩ ?_ ?_
  · rintro x rest j a ⟨h1, h2, h3, h4, h5, h6⟩ hlt hr hxx hj hrest next ih
    clear hL
    have hj0 : (0 : Int) ≤ (j : Int) := by omega
    have hwj : IntKind.wrap .i64 ((j : Int) + 1) = ((j + 1 : Nat) : Int) := by rw [wrap64 (by omega) (by omega)]; omega
    have hts := take_snoc hxx
    simp only [Fl0.row] at hr
    simp only [paramsP] at h6
    have hkn := nknown_e hx a x.t (by rw [h1]; exact hp.structs)
    rw [h1] at hkn
    have hael : a.env.length = j := by rw [h4, List.length_take]; omega
    cases hk : knownP k.p x.t with
    | false =>
      rw [hk, must_f, andT_err] at h6
      rw [hk] at hkn
      have hm := nmust_f hx 5 x.at_.line x.at_.col
      subst h6
      refine ⟨a, ?_, no_err⟩
      rw [outU_err]
      simp (maxSteps := 4000000) (disch := first | (intros; contradiction) | omega) only [go_sem, hlt, hj0, hr, hkn, hm]
      done
    | true =>
      rw [hk, must_t] at h6
      rw [hk] at hkn
      have hm := nmust_t hx 5 x.at_.line x.at_.col
      have hfind := findM_env x.name a.env
      cases hlk : lookP a.env x.name with
      | some u =>
        rw [hlk] at hfind h6
        simp only [Option.map_some, tpA] at hfind
        rw [Option.isNone_some, must_f, andT_err] at h6
        have hm2 := nmust_f hx 6 x.at_.line x.at_.col
        subst h6
        refine ⟨a, ?_, no_err⟩
        rw [outU_err]
        simp (maxSteps := 4000000) (disch := first | (intros; contradiction) | omega) only [go_sem, hlt, hj0, hr, hkn, hm, hfind, hm2]
        done
      | none =>
        rw [hlk] at hfind h6
        simp only [Option.map_none] at hfind
        rw [Option.isNone_none, must_t] at h6
        have hm2 := nmust_t hx 6 x.at_.line x.at_.col
        have hdec := ndeclare_e hx a x.name x.t x.at_ hlk (by omega)
        have hx0 : (⟨x.name, x.t, x.at_⟩ : Fl0) = x := rfl
        rw [hx0] at hdec
        have hnew : (a.push x).p = k.p ∧ (a.push x).ret = f.ret ∧ (a.push x).deep = 0 ∧ (a.push x).env = f.params.take (j + 1) ∧ ((a.push x).env.map (·.name)).Nodup ∧ A = andT (paramsP k.p (a.push x).env rest) fun env => mustP (knownP k.p f.ret) 5 f.at_ (andT (blockP k.p f.ret 0 env false f.body) fun _ => mustP (endsP f.body) 8 f.at_ (.ok ())) :=
          ⟨h1, h2, h3, by show a.env ++ [x] = _; rw [h4, hts], nodup_push h5 hlk, h6⟩
        generalize a.push x = a2 at hdec hnew
        clear h6
        simp (maxSteps := 4000000) (disch := first | (intros; contradiction) | omega) only [go_sem, hlt, hj0, hr, hkn, hm, hfind, hm2, hdec, hwj]
        exact ih a2 _ hnew (by simp (maxSteps := 4000000) (disch := first | (intros; contradiction) | omega) only [go_sem] <;> rfl)
  · rintro j a ⟨h1, h2, h3, h4, h5, h6⟩ hlt hj next
    clear hL
    simp only [paramsP, andT_ok] at h6
    have hael : a.env.length = f.params.length := by rw [h4, List.length_take]; omega
    have hkn := nknown_e hx a f.ret (by rw [h1]; exact hp.structs)
    rw [h1] at hkn
    cases hk : knownP k.p f.ret with
    | false =>
      rw [hk, must_f] at h6
      rw [hk] at hkn
      have hm := nmust_f hx 5 f.at_.line f.at_.col
      subst h6
      refine ⟨a, ?_, no_err⟩
      rw [outU_err]
      simp (maxSteps := 4000000) (disch := first | (intros; contradiction) | omega) only [go_sem, hlt, hkn, hm]
      done
    | true =>
      rw [hk, must_t] at h6
      rw [hk] at hkn
      have hm := nmust_t hx 5 f.at_.line f.at_.col
      obtain ⟨b1, b2⟩ := nblocks_e hx (sizL f.body) f.body (Nat.le_refl _) hok a ⟨by rw [h1]; exact hp, h5, by omega, by omega, by omega⟩
      rw [h1, h2, h3] at b1 b2
      cases hX : blockP k.p f.ret 0 a.env false f.body with
      | error d =>
        rw [hX, andT_err] at h6 b2
        obtain ⟨k2, g⟩ := b2 d rfl
        subst h6
        refine ⟨k2, ?_, no_err⟩
        rw [outU_err]
        simp (maxSteps := 4000000) (disch := first | (intros; contradiction) | omega) only [go_sem, hlt, hkn, hm, g]
        done
      | ok env =>
        rw [hX, andT_ok] at h6 b1
        obtain ⟨k2, g, g1, g2, g3⟩ := b1 a.env rfl
        have hen := ends_e hx 1000000 f.body (by have := cntL_siz f.body; omega) (Nat.le_refl _)
        cases hE : endsP f.body with
        | false =>
          rw [hE, must_f] at h6
          rw [hE] at hen
          have hm2 := nmust_f hx 8 f.at_.line f.at_.col
          subst h6
          refine ⟨k2, ?_, no_err⟩
          rw [outU_err]
          simp (maxSteps := 4000000) (disch := first | (intros; contradiction) | omega) only [go_sem, hlt, hkn, hm, g, hen, hm2]
          done
        | true =>
          rw [hE, must_t] at h6
          rw [hE] at hen
          have hm2 := nmust_t hx 8 f.at_.line f.at_.col
          have hbk := nback_e hx k2 [] k2.env rfl (by rw [g2]; exact g3) (by rw [g2]; omega)
          simp only [List.length_nil, Int.natCast_zero] at hbk
          subst h6
          refine ⟨k2.back [] (k2.env.map (·.name) ++ k2.junk), ?_, fun _ => ⟨g1.p.trans h1, g1.deep.trans h3, rfl⟩⟩
          rw [outU_ok]
          generalize k2.back [] (k2.env.map (·.name) ++ k2.junk) = k3 at hbk
          simp (maxSteps := 4000000) (disch := first | (intros; contradiction) | omega) only [go_sem, hlt, hkn, hm, g, hen, hm2, hbk]
          done
end Go.Proofs.Ythfollapianblaa
namespace Go.Proofs.Ythfollapianblaa
open Go Go.Ab
variable {ext : Sem'}
theorem field_first {p : Pr0} {i : Nat} {s : Sr0} {k : Nat} {f : Fl0} (h : p.structs[i]? = some s) (hn : (p.structs.take i).any (nmS s.name) = false) (hk : s.fields[k]? = some f) : ∃ n u, fieldP p s.name f.name = some (n, u) ∧ decide (n = (k : Int)) = !(s.fields.take k).any (nmL f.name) := by
  have h1 := (idxP_first h (nmS_self s)).2 hn
  have h2 := idxN_first hk (nmL_self f)
  unfold fieldP
  rw [h1]
  simp only [h]
  unfold idxN at h2
  cases hi : idxP (nmL f.name) s.fields with
  | none =>
    exfalso
    have := idxP_any (p := nmL f.name) (l := s.fields)
    rw [hi] at this
    have h3 : s.fields.any (nmL f.name) = true := List.any_eq_true.2 ⟨f, List.mem_of_getElem? hk, nmL_self f⟩
    rw [h3] at this
    cases this
  | some j =>
    rw [hi] at h2
    have hl := idxP_lt hi
    refine ⟨(j : Int), (s.fields[j]).t, ?_, h2⟩
    simp [List.getElem?_eq_getElem hl]
set_option maxHeartbeats 8000000 in
theorem nstructs_e (hx : T0 ext) {k : Nk} (hp : OkP k.p) : G ext 25 [.ptr 0 0, .d (.sl (k.p.structs.map Sr0.row))] [nkO 1 2 k, nkS k, nkM k] = some (outU (structsP k.p), [nkO 1 2 k, nkS k, nkM k]) := by
  have hls := hp.structs
  have hll : (k.p.structs.map Sr0.row).length = k.p.structs.length := List.length_map _
  unfold structsP limS
  by_cases h30 : 30 < k.p.structs.length
  · have h30' : (30 : Int) < (k.p.structs.length : Int) := by omega
    have hx1 : k.p.structs[30]? = some k.p.structs[30] := List.getElem?_eq_getElem h30
    have hr1 : (k.p.structs.map Sr0.row)[30]? = some (Sr0.row k.p.structs[30]) := by rw [List.getElem?_map, hx1]; rfl
    rw [hx1]
    generalize k.p.structs[30] = s at hx1 hr1
    simp only [Sr0.row] at hr1
    have hm := nmust_f hx 2 s.at_.line s.at_.col
    show _ = some (outU (andT (err 2 s.at_) _), _)
    rw [errT, andT_err, outU_err]
    rw [G_body hx.clear rfl Try.func25 rfl Try.results25 hv_25 rfl]
    simp (maxSteps := 4000000) (disch := first | (intros; contradiction) | omega) only [go_sem, hll, h30', hr1, hm]
    done
  · have h30' : ¬ (30 : Int) < (k.p.structs.length : Int) := by omega
    rw [List.getElem?_eq_none (by omega), andT_ok]
    generalize hB : structsK k.p [] k.p.structs = B
    rw [G_body hx.clear rfl Try.func25 rfl Try.results25 hv_25 rfl]
    simp (maxSteps := 4000000) (disch := first | (intros; contradiction) | omega) only [go_sem, hll, h30']
    generalize hL : loopA _ _ _ = L
    apply range_upd hL (by simp (maxSteps := 4000000) (disch := first | (intros; contradiction) | omega) only [go_sem] <;> rfl) k.p.structs Sr0.row (α := Unit) (fun rest i _ => B = structsK k.p (k.p.structs.take i) rest) (fun i _ => [(4, .any), (5, .any), (6, .any), (7, .any), (8, .any), (21, .d (.int .i64 i)), (39, .any), (40, .any), (41, .any)]) (fun _ _ => []) () (by simp (maxSteps := 4000000) (disch := first | (intros; contradiction) | omega) only [go_sem] <;> rfl) hB.symm ?_ ?_
    · intro s rest i _ hi hlt hr hxx hil hrest next ih
      clear hL
      rw [hll] at hlt
      have hi0 : (0 : Int) ≤ (i : Int) := by omega
      have hwi : IntKind.wrap .i64 ((i : Int) + 1) = ((i + 1 : Nat) : Int) := by rw [wrap64 (by omega) (by omega)]; omega
      have hts := take_snoc hxx
      simp only [structsK] at hi
      simp only [Sr0.row] at hr
      have hst := struct_e hx k.p s.name hls
      unfold Pr0.av at hst
      have hfi := idxN_first hxx (nmS_self s)
      have hfll : (s.fields.map Fl0.row).length = s.fields.length := List.length_map _
      have hfs := hp.fields s (List.mem_of_getElem? hxx)
      cases hany : (k.p.structs.take i).any (nmS s.name) with
      | true =>
        rw [hany, Bool.not_true] at hi hfi
        rw [must_f] at hi
        have hm := nmust_f hx 6 s.at_.line s.at_.col
        rw [hi, outU_err]
        simp (maxSteps := 4000000) (disch := first | (intros; contradiction) | omega) only [go_sem, hlt, hi0, hr, hst, hfi, hm]
        done
      | false =>
        rw [hany, Bool.not_false] at hi hfi
        rw [must_t] at hi
        have hm := nmust_t hx 6 s.at_.line s.at_.col
        simp (maxSteps := 4000000) (disch := first | (intros; contradiction) | omega) only [go_sem, hlt, hi0, hr, hst, hfi, hm, hfll]
        generalize hL : loopA _ _ _ = L
        apply range_upd hL (by simp (maxSteps := 4000000) (disch := first | (intros; contradiction) | omega) only [go_sem] <;> rfl) s.fields Fl0.row (α := Unit) (fun rest2 j _ => B = andT (fieldsP k.p (s.fields.take j) rest2) fun _ => structsK k.p (k.p.structs.take i ++ [s]) rest) (fun j _ => [(6, .any), (7, .any), (8, .any), (41, .d (.int .i64 j))]) (fun _ _ => []) () (by simp (maxSteps := 4000000) (disch := first | (intros; contradiction) | omega) only [go_sem] <;> rfl) hi ?_ ?_
        · intro f rest2 j _ hi2 hlt2 hr2 hff hjl hrest2 next2 ih2
          clear hL
          rw [hfll] at hlt2
          have hj0 : (0 : Int) ≤ (j : Int) := by omega
          have hwj : IntKind.wrap .i64 ((j : Int) + 1) = ((j + 1 : Nat) : Int) := by rw [wrap64 (by omega) (by omega)]; omega
          have hts2 := take_snoc hff
          simp only [fieldsP] at hi2
          simp only [Fl0.row] at hr2
          obtain ⟨fn, fu, q1, q2⟩ := field_first hxx hany hff
          have hfd := field_e hx k.p s.name f.name hls hp.fields
          unfold Pr0.av at hfd
          rw [q1] at hfd
          unfold fldA at hfd
          simp only at hfd
          have hkn := nknown_e hx k f.t hls
          cases hany2 : (s.fields.take j).any (nmL f.name) with
          | true =>
            rw [hany2, Bool.not_true] at hi2 q2
            rw [must_f, andT_err] at hi2
            have hm2 := nmust_f hx 6 f.at_.line f.at_.col
            rw [hi2, outU_err]
            simp (maxSteps := 4000000) (disch := first | (intros; contradiction) | omega) only [go_sem, hlt2, hj0, hr2, hfd, q2, hm2]
            done
          | false =>
            rw [hany2, Bool.not_false] at hi2 q2
            rw [must_t] at hi2
            have hm2 := nmust_t hx 6 f.at_.line f.at_.col
            cases hk : knownP k.p f.t with
            | false =>
              rw [hk, must_f, andT_err] at hi2
              rw [hk] at hkn
              have hm3 := nmust_f hx 5 f.at_.line f.at_.col
              rw [hi2, outU_err]
              simp (maxSteps := 4000000) (disch := first | (intros; contradiction) | omega) only [go_sem, hlt2, hj0, hr2, hfd, q2, hm2, hkn, hm3]
              done
            | true =>
              rw [hk, must_t] at hi2
              rw [hk] at hkn
              have hm3 := nmust_t hx 5 f.at_.line f.at_.col
              simp (maxSteps := 4000000) (disch := first | (intros; contradiction) | omega) only [go_sem, hlt2, hj0, hr2, hfd, q2, hm2, hkn, hm3, hwj]
              exact ih2 () _ (by rw [hts2]; exact hi2) (by simp (maxSteps := 4000000) (disch := first | (intros; contradiction) | omega) only [go_sem] <;> rfl)
        · intro j _ hi2 hlt2 hjl next2
          clear hL
          rw [hfll] at hlt2
          simp only [fieldsP, andT_ok] at hi2
          simp (maxSteps := 4000000) (disch := first | (intros; contradiction) | omega) only [go_sem, hlt2, hwi]
          exact ih () _ (by rw [hts]; exact hi2) (by simp (maxSteps := 4000000) (disch := first | (intros; contradiction) | omega) only [go_sem] <;> rfl)
    · intro i _ hi hlt hil next
      clear hL
      rw [hll] at hlt
      rw [hi]
      simp only [structsK, outU_ok]
      simp (maxSteps := 4000000) (disch := first | (intros; contradiction) | omega) only [go_sem, hlt]
      done
end Go.Proofs.Ythfollapianblaa
namespace Go.Proofs.Ythfollapianblaa
open Go Go.Ab
variable {ext : Sem'}
set_option maxHeartbeats 8000000 in
theorem nfuncs_e (hx : T0 ext) {k : Nk} (hp : OkP k.p) (henv : k.env = []) (hdp : k.deep = 0) :
    ∃ k', G ext 26 [.ptr 0 0, .d (.sl (k.p.funcs.map Fn0.row))] [nkO 1 2 k, nkS k, nkM k] = some (outU (funcsP k.p), [nkO 1 2 k', nkS k', nkM k']) := by
  have hls := hp.funcs
  have hll : (k.p.funcs.map Fn0.row).length = k.p.funcs.length := List.length_map _
  unfold funcsP limF
  by_cases h60 : 60 < k.p.funcs.length
  · have h60' : (60 : Int) < (k.p.funcs.length : Int) := by omega
    have hx1 : k.p.funcs[60]? = some k.p.funcs[60] := List.getElem?_eq_getElem h60
    have hr1 : (k.p.funcs.map Fn0.row)[60]? = some (Fn0.row k.p.funcs[60]) := by rw [List.getElem?_map, hx1]; rfl
    rw [hx1]
    generalize k.p.funcs[60] = s at hx1 hr1
    simp only [Fn0.row] at hr1
    have hm := nmust_f hx 2 s.at_.line s.at_.col
    refine ⟨k, ?_⟩
    show _ = some (outU (andT (err 2 s.at_) _), _)
    rw [errT, andT_err, outU_err]
    rw [G_body hx.clear rfl Try.func26 rfl Try.results26 hv_26 rfl]
    simp (maxSteps := 4000000) (disch := first | (intros; contradiction) | omega) only [go_sem, hll, h60', hr1, hm]
    done
  · have h60' : ¬ (60 : Int) < (k.p.funcs.length : Int) := by omega
    rw [List.getElem?_eq_none (by omega), andT_ok]
    generalize hB : (andT (namesK [] k.p.funcs) fun _ => andT (functionsK k.p k.p.funcs) fun _ => mustP (mainB k.p) 9 ⟨1, 1⟩ (.ok ())) = B
    rw [G_body hx.clear rfl Try.func26 rfl Try.results26 hv_26 rfl]
    simp (maxSteps := 4000000) (disch := first | (intros; contradiction) | omega) only [go_sem, hll, h60']
    generalize hL : loopA _ _ _ = L
    apply range_upd hL (by simp (maxSteps := 4000000) (disch := first | (intros; contradiction) | omega) only [go_sem] <;> rfl) k.p.funcs Fn0.row (α := Unit) (fun rest i _ => B = andT (namesK (k.p.funcs.take i) rest) fun _ => andT (functionsK k.p k.p.funcs) fun _ => mustP (mainB k.p) 9 ⟨1, 1⟩ (.ok ())) (fun i _ => [(4, .any), (5, .any), (20, .d (.int .i64 i))]) (fun _ _ => []) () (by simp (maxSteps := 4000000) (disch := first | (intros; contradiction) | omega) only [go_sem] <;> rfl) hB.symm ?_ ?_
    · intro f rest i _ hi hlt hr hxx hil hrest next ih
      clear hL
      rw [hll] at hlt
      have hi0 : (0 : Int) ≤ (i : Int) := by omega
      have hwi : IntKind.wrap .i64 ((i : Int) + 1) = ((i + 1 : Nat) : Int) := by rw [wrap64 (by omega) (by omega)]; omega
      have hts := take_snoc hxx
      simp only [namesK] at hi
      simp only [Fn0.row] at hr
      have hst := func_e hx k.p f.name hls
      unfold Pr0.av at hst
      have hfi := idxN_first hxx (nmF_self f)
      cases hany : (k.p.funcs.take i).any (nmF f.name) with
      | true =>
        rw [hany, Bool.not_true] at hi hfi
        rw [must_f, andT_err] at hi
        have hm := nmust_f hx 6 f.at_.line f.at_.col
        rw [hi, outU_err]
        refine ⟨k, ?_⟩
        simp (maxSteps := 4000000) (disch := first | (intros; contradiction) | omega) only [go_sem, hlt, hi0, hr, hst, hfi, hm]
        done
      | false =>
        rw [hany, Bool.not_false] at hi hfi
        rw [must_t] at hi
        have hm := nmust_t hx 6 f.at_.line f.at_.col
        simp (maxSteps := 4000000) (disch := first | (intros; contradiction) | omega) only [go_sem, hlt, hi0, hr, hst, hfi, hm, hwi]
        exact ih () _ (by rw [hts]; exact hi) (by simp (maxSteps := 4000000) (disch := first | (intros; contradiction) | omega) only [go_sem] <;> rfl)
    · intro i _ hi hlt hil next
      clear hL
      rw [hll] at hlt
      simp only [namesK, andT_ok] at hi
      simp (maxSteps := 4000000) (disch := first | (intros; contradiction) | omega) only [go_sem, hlt, hll]
      generalize hL : loopA _ _ _ = L
      apply range_upd hL (by simp (maxSteps := 4000000) (disch := first | (intros; contradiction) | omega) only [go_sem] <;> rfl) k.p.funcs Fn0.row (α := Nk) (fun rest j a => a.p = k.p ∧ a.deep = 0 ∧ a.env = [] ∧ B = andT (functionsK k.p rest) fun _ => mustP (mainB k.p) 9 ⟨1, 1⟩ (.ok ())) (fun j _ => [(8, .any), (42, .d (.int .i64 j))]) (fun _ a => [(0, nkO 1 2 a), (1, nkS a), (2, nkM a)]) k (by simp (maxSteps := 4000000) (disch := first | (intros; contradiction) | omega) only [go_sem] <;> rfl) ⟨rfl, hdp, henv, hi⟩ ?_ ?_
      · rintro f rest j a ⟨h1, h2, h3, h4⟩ hlt2 hr hxx hjl hrest next2 ih
        clear hL
        rw [hll] at hlt2
        have hxm := List.mem_of_getElem? hxx
        have hj0 : (0 : Int) ≤ (j : Int) := by omega
        have hwj : IntKind.wrap .i64 ((j : Int) + 1) = ((j + 1 : Nat) : Int) := by rw [wrap64 (by omega) (by omega)]; omega
        simp only [functionsK] at h4
        simp only [Fn0.row] at hr
        obtain ⟨a2, f1, f2⟩ := nfunction_e hx (k := a) (f := f) (by rw [h1]; exact hp) h3 h2 (hp.size f hxm) (hp.ok f hxm)
        rw [h1] at f1 f2
        cases hfp : functionP k.p f with
        | error d =>
          rw [hfp, andT_err, andT_err] at h4
          rw [hfp, outU_err] at f1
          rw [h4, outU_err]
          refine ⟨a2, ?_⟩
          simp (maxSteps := 4000000) (disch := first | (intros; contradiction) | omega) only [go_sem, hlt2, hj0, hr, f1]
          done
        | ok u =>
          rw [hfp, andT_ok] at h4
          rw [hfp, outU_ok] at f1
          obtain ⟨g1, g2, g3⟩ := f2 ⟨u, hfp⟩
          simp (maxSteps := 4000000) (disch := first | (intros; contradiction) | omega) only [go_sem, hlt2, hj0, hr, f1, hwj]
          exact ih a2 _ ⟨g1, g2, g3, h4⟩ (by simp (maxSteps := 4000000) (disch := first | (intros; contradiction) | omega) only [go_sem] <;> rfl)
      · rintro j a ⟨h1, h2, h3, h4⟩ hlt2 hjl next2
        clear hL
        rw [hll] at hlt2
        simp only [functionsK, andT_ok] at h4
        refine ⟨a, ?_⟩
        have hfm := func_e hx a.p [109, 97, 105, 110] (by rw [h1]; exact hp.funcs)
        unfold Pr0.av at hfm
        have hap : a.p.funcs = k.p.funcs := by rw [h1]
        unfold mainB at h4
        rw [hap] at hfm
        rcases idxN_get (p := nmF [109, 97, 105, 110]) (l := k.p.funcs) with ⟨i1, i2⟩ | ⟨i', f, i1, i2, i3, i4⟩
        · rw [i2] at h4
          simp only [must_f] at h4
          have hm := nmust_f hx 9 1 1
          have i0 : ¬ (0 : Int) ≤ idxN (nmF [109, 97, 105, 110]) k.p.funcs := by omega
          rw [h4, outU_err]
          simp (maxSteps := 4000000) (disch := first | (intros; contradiction) | omega) only [go_sem, hlt2, hap, hfm, i0, hm]
          done
        · rw [i4] at h4
          simp only at h4
          rw [i1] at hfm
          have hr1 : (k.p.funcs.map Fn0.row)[i']? = some (Fn0.row f) := by rw [List.getElem?_map, i3]; rfl
          simp only [Fn0.row] at hr1
          have i0 : (0 : Int) ≤ (i' : Int) := by omega
          have i5 : ¬ (i' : Int) < 0 := by omega
          have hpl : (f.params.map Fl0.row).length = f.params.length := List.length_map _
          by_cases hpe : f.params.length = 0
          · have hpe' : (f.params.length : Int) = 0 := by omega
            have he : f.params.isEmpty = true := by simpa using List.length_eq_zero_iff.1 hpe
            rw [he, Bool.true_and] at h4
            cases hrp : f.ret.ptr with
            | true =>
              rw [hrp, Bool.not_true, must_f] at h4
              rw [hrp] at hr1
              have hm := nmust_f hx 9 1 1
              rw [h4, outU_err]
              simp (maxSteps := 4000000) (disch := first | (intros; contradiction) | omega) only [go_sem, hlt2, hap, hfm, i0, i5, hr1, hpl, hpe', hm]
              done
            | false =>
              rw [hrp, Bool.not_false, must_t] at h4
              rw [hrp] at hr1
              have hm := nmust_t hx 9 1 1
              rw [h4, outU_ok]
              simp (maxSteps := 4000000) (disch := first | (intros; contradiction) | omega) only [go_sem, hlt2, hap, hfm, i0, i5, hr1, hpl, hpe', hm]
              done
          · have hpe' : ¬ (f.params.length : Int) = 0 := by omega
            have he : f.params.isEmpty = false := by
              cases hh : f.params.isEmpty with
              | false => rfl
              | true => exact absurd (List.length_eq_zero_iff.2 (by simpa using hh)) hpe
            rw [he, Bool.false_and, must_f] at h4
            have hm := nmust_f hx 9 1 1
            rw [h4, outU_err]
            simp (maxSteps := 4000000) (disch := first | (intros; contradiction) | omega) only [go_sem, hlt2, hap, hfm, i0, i5, hr1, hpl, hpe', hm]
            done
end Go.Proofs.Ythfollapianblaa
namespace Go.Proofs.Ythfollapianblaa
open Go Go.Ab
variable {ext : Sem'}
theorem recEnd_run {P : Program} {Γ : Sem'} {hd : Nat → Nat → Option (List Ht)} {hv : Nat → List Nat} {hf : Nat → Nat → List Nat} {rs : List ResultVar} {k : Nat} {st : St} {f : Nat} {caps : List AV} {r : Rc} {t : TypeId} {av : AV} (hc : capsFit P f caps.length = true) (hr : recF P f = some r) : recEnd P Γ hd hv hf rs k st (some (.iface t av)) (.fn f [] caps) = recPan P rs k st (finish P [] st.H.length (rcRun P Γ hd hv hf f r caps st.H (.iface t av))) := by
  simp only [recEnd]
  rw [if_pos hc, hr]
  rfl
theorem recPan_ret {P : Program} {rs : List ResultVar} {k : Nat} {st : St} {v : AV} {H' : List AObj} : recPan P rs k st (some (.ret v, H')) = finish P rs k (.ex .ret ⟨st.vs, [], H'⟩) := rfl
noncomputable def nchkF (ext : Sem') : Sem' := recEv Try.prog (G ext) hd hv hf
def nk0 (p : Pr0) : Nk := ⟨p, ⟨false, []⟩, 0, [], 0, []⟩
theorem cap24 : capsFit Try.prog 24 [AV.ptr 1 0].length = true := by kernel_rfl
set_option maxHeartbeats 8000000 in
theorem ncheck_e (hx : T0 ext) (p : Pr0) (hp : OkP p) : nchkF ext 9 [p.av] [] = some (.ret (dgOf (checkP p)).av, []) := by
  have hr := recF_of (P := Try.prog) (f := 24) Try.func24 rfl rfl rfl rfl rfl (by kernel_rfl) (by kernel_rfl) rfl (congrArg Array.toList Try.results24)
  unfold nchkF
  rw [recEv_body Try.func9 rfl (congrArg Array.toList Try.results9) hv_9 (Nat.le_of_ble_eq_true rfl)]
  unfold Pr0.av
  rw [recCd_pre rfl rfl]
  simp (maxSteps := 4000000) (disch := first | (intros; contradiction) | omega) only [go_sem, defPre_go]
  rw [recCd_def rfl rfl rfl]
  simp (maxSteps := 4000000) (disch := first | (intros; contradiction) | omega) only [go_sem, recPost_run, List.dropLast_cons_cons, List.dropLast_singleton]
  have hsx : G ext 25 [.ptr 0 0, .d (.sl (p.structs.map Sr0.row))] [.cells [.stk 1 0 0, .mp 2, .d (.sl (p.structs.map Sr0.row)), .d (.sl (p.funcs.map Fn0.row)), .d (.bool false), .d (.str []), .d (.int .i64 0)], .stk 0 1 [], .mapo []] = some (outU (structsP p), [.cells [.stk 1 0 0, .mp 2, .d (.sl (p.structs.map Sr0.row)), .d (.sl (p.funcs.map Fn0.row)), .d (.bool false), .d (.str []), .d (.int .i64 0)], .stk 0 1 [], .mapo []]) := nstructs_e hx (k := nk0 p) hp
  obtain ⟨k', hfx⟩ : ∃ k', G ext 26 [.ptr 0 0, .d (.sl (p.funcs.map Fn0.row))] [.cells [.stk 1 0 0, .mp 2, .d (.sl (p.structs.map Sr0.row)), .d (.sl (p.funcs.map Fn0.row)), .d (.bool false), .d (.str []), .d (.int .i64 0)], .stk 0 1 [], .mapo []] = some (outU (funcsP p), [nkO 1 2 k', nkS k', nkM k']) := nfuncs_e hx (k := nk0 p) hp rfl rfl
  unfold checkP
  cases hS : structsP p with
  | error d =>
    rw [hS, outU_err] at hsx
    rw [andT_err]
    unfold dgOf Dg.av
    simp (maxSteps := 4000000) (disch := first | (intros; contradiction) | omega) only [go_sem, hsx, recX_pan]
    rw [recEnd_run cap24 hr]
    unfold rcRun
    rw [hv_24]
    simp (maxSteps := 4000000) (disch := first | (intros; contradiction) | omega) only [go_sem, recPan_ret]
    done
  | ok u =>
    rw [hS, outU_ok] at hsx
    rw [andT_ok]
    cases hF : funcsP p with
    | error d =>
      rw [hF, outU_err] at hfx
      unfold dgOf Dg.av
      simp (maxSteps := 4000000) (disch := first | (intros; contradiction) | omega) only [go_sem, hsx, hfx, recX_pan]
      rw [recEnd_run cap24 hr]
      unfold rcRun
      rw [hv_24]
      simp (maxSteps := 4000000) (disch := first | (intros; contradiction) | omega) only [go_sem, recPan_ret]
      done
    | ok v =>
      rw [hF, outU_ok] at hfx
      unfold dgOf Dg.av Dg.zero
      simp (maxSteps := 4000000) (disch := first | (intros; contradiction) | omega) only [go_sem, hsx, hfx, recX_ret]
      rw [recEnd_none cap24 hr]
      simp (maxSteps := 4000000) (disch := first | (intros; contradiction) | omega) only [go_sem]
      done
end Go.Proofs.Ythfollapianblaa
