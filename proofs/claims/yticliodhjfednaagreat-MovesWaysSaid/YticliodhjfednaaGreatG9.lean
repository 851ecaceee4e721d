/- Law 23: the example. Conditions: none. -/
import Derived.Test.YticliodhjfednaaGreatG8
set_option linter.unusedSimpArgs false
set_option linter.unusedVariables false
namespace Go.Proofs.YticliodhjfednaaGreat
open Go Go.Ab
variable {ext:Sem'}
def fI (op d a:Int):In1:=⟨op,d,a,0,0,0,[],[],[],0,0,(0,0)⟩
def fC (l:List In1):Cd1:=⟨[109,97,105,110],0,[⟨⟨true,[83]⟩,1⟩,⟨⟨false,[]⟩,0⟩],⟨⟨false,[]⟩,0⟩,[],l⟩
def fC1:Cd1:=fC [fI 12 0 0,fI 13 0 0,fI 1 1 0,fI 18 0 1]
def fC2:Cd1:=fC [fI 12 0 0,fI 13 0 0,fI 13 0 0,fI 1 1 0,fI 18 0 1]
def fM (c:Cd1):Md1:=⟨[⟨[83],[],(0,0)⟩],[c]⟩
theorem fM1_formed:formedP (fM fC1) = 0∧badC (fM fC1) (fM fC1).funcs 0 = none:=by constructor <;> kernel_rfl
theorem fM2_formed:formedP (fM fC2) = 0∧badC (fM fC2) (fM fC2).funcs 0 = none:=by constructor <;> kernel_rfl
theorem frees_e (hx:TL ext):G ext 24 [.d (.int .i64 1)] [] = some (.ret (fM fC1).av,[])∧G ext 24 [.d (.int .i64 2)] [] = some (.ret (fM fC2).av,[]):=by
 constructor
 ·exact G_run hx.clear 20 20 (by kernel_rfl)
 ·exact G_run hx.clear 20 20 (by kernel_rfl)
theorem can1 {v k:Nat} {b:Bool} (h:Can fC1 v k b):v < 2→k < 4∧b = decide ((v = 0∧k = 1) ∨ (v = 1∧k = 3)):=by
 induction h with
 | zero=>
  intro hv
  exact ⟨by omega,by simp [fC1,fC]⟩
 | step h hi hy ih=>
  rename_i k y i b
  intro hv
  obtain ⟨h1,h2⟩:=ih hv
  have hk:k = 0 ∨ k = 1 ∨ k = 2 ∨ k = 3:=by omega
  have hv':v = 0 ∨ v = 1:=by omega
  rcases hk with rfl | rfl | rfl | rfl
  ·simp [fC1,fC,fI] at hi
   subst hi
   simp [nxC,nxtI,fC1,fC,fI] at hy
   have hy2:y = 1:=by omega
   subst hy2
   subst h2
   rcases hv' with rfl | rfl <;> simp [trI,hasD,awayI,usesL,givesL]
  ·simp [fC1,fC,fI] at hi
   subst hi
   simp [nxC,nxtI,fC1,fC,fI] at hy
   have hy2:y = 2:=by omega
   subst hy2
   subst h2
   rcases hv' with rfl | rfl <;> simp [trI,hasD,awayI,usesL,givesL]
  ·simp [fC1,fC,fI] at hi
   subst hi
   simp [nxC,nxtI,fC1,fC,fI] at hy
   have hy2:y = 3:=by omega
   subst hy2
   subst h2
   rcases hv' with rfl | rfl <;> simp [trI,hasD,awayI,usesL,givesL]
  ·simp [nxC,nxtI,fC1,fC,fI] at hy
theorem can2 {v k:Nat} {b:Bool} (h:Can fC2 v k b):v < 2→k < 5∧b = decide ((v = 0∧k = 1) ∨ (v = 1∧k = 4)):=by
 induction h with
 | zero=>
  intro hv
  exact ⟨by omega,by simp [fC2,fC]⟩
 | step h hi hy ih=>
  rename_i k y i b
  intro hv
  obtain ⟨h1,h2⟩:=ih hv
  have hk:k = 0 ∨ k = 1 ∨ k = 2 ∨ k = 3 ∨ k = 4:=by omega
  have hv':v = 0 ∨ v = 1:=by omega
  rcases hk with rfl | rfl | rfl | rfl | rfl
  ·simp [fC2,fC,fI] at hi
   subst hi
   simp [nxC,nxtI,fC2,fC,fI] at hy
   have hy2:y = 1:=by omega
   subst hy2
   subst h2
   rcases hv' with rfl | rfl <;> simp [trI,hasD,awayI,usesL,givesL]
  ·simp [fC2,fC,fI] at hi
   subst hi
   simp [nxC,nxtI,fC2,fC,fI] at hy
   have hy2:y = 2:=by omega
   subst hy2
   subst h2
   rcases hv' with rfl | rfl <;> simp [trI,hasD,awayI,usesL,givesL]
  ·simp [fC2,fC,fI] at hi
   subst hi
   simp [nxC,nxtI,fC2,fC,fI] at hy
   have hy2:y = 3:=by omega
   subst hy2
   subst h2
   rcases hv' with rfl | rfl <;> simp [trI,hasD,awayI,usesL,givesL]
  ·simp [fC2,fC,fI] at hi
   subst hi
   simp [nxC,nxtI,fC2,fC,fI] at hy
   have hy2:y = 4:=by omega
   subst hy2
   subst h2
   rcases hv' with rfl | rfl <;> simp [trI,hasD,awayI,usesL,givesL]
  ·simp [nxC,nxtI,fC2,fC,fI] at hy
theorem bad1:badF (fM fC1).funcs 0 = none:=by
 have n1:¬ Can fC1 0 1 false:=fun h=>by have:=(can1 h (by decide)).2; simp at this
 have n2:¬ Can fC1 1 3 false:=fun h=>by have:=(can1 h (by decide)).2; simp at this
 have o0:okI fC1 0 (fI 12 0 0):=fun _=>⟨by simp [awayI,usesL,givesL,fI],by simp [readsP,hasA,hasB,fI]⟩
 have o1:okI fC1 1 (fI 13 0 0):=fun _=>⟨by simp [awayI,usesL,givesL,fI,dupAt,readsP,hasA,hasB,idxN,idxP],by simp [readsP,hasA,hasB,fI]; exact ⟨by simp [fC1,fC],n1⟩⟩
 have o2:okI fC1 2 (fI 1 1 0):=fun _=>⟨by simp [awayI,usesL,givesL,fI],by simp [readsP,hasA,hasB,fI]⟩
 have o3:okI fC1 3 (fI 18 0 1):=fun _=>⟨by simp [awayI,usesL,givesL,fI],by simp [readsP,hasA,hasB,fI]; exact ⟨by simp [fC1,fC],n2⟩⟩
 show (match badK fC1 [fI 12 0 0,fI 13 0 0,fI 1 1 0,fI 18 0 1] 0 with | some k=>some (0,k) | none=>badF [] 1) = none
 simp only [badK,if_pos o0,if_pos o1,if_pos o2,if_pos o3,badF]
theorem bad2:badF (fM fC2).funcs 0 = some (0,2):=by
 have n1:¬ Can fC2 0 1 false:=fun h=>by have:=(can2 h (by decide)).2; simp at this
 have o0:okI fC2 0 (fI 12 0 0):=fun _=>⟨by simp [awayI,usesL,givesL,fI],by simp [readsP,hasA,hasB,fI]⟩
 have o1:okI fC2 1 (fI 13 0 0):=fun _=>⟨by simp [awayI,usesL,givesL,fI,dupAt,readsP,hasA,hasB,idxN,idxP],by simp [readsP,hasA,hasB,fI]; exact ⟨by simp [fC2,fC],n1⟩⟩
 have r1:Rch fC2 1:=.step .zero (i:=fI 12 0 0) rfl (by simp [nxC,nxtI,fC2,fC,fI])
 have r2:Rch fC2 2:=.step r1 (i:=fI 13 0 0) rfl (by simp [nxC,nxtI,fC2,fC,fI])
 obtain ⟨b,hb⟩:=can_ex (v:=0) r2
 have hb2:=(can2 hb (by decide)).2
 have hbf:b = false:=by rw [hb2]; simp
 subst hbf
 have o2:¬ okI fC2 2 (fI 13 0 0):=fun h=>((h r2).2 0 (by simp [readsP,hasA,hasB,fI])).2.2 hb
 show (match badK fC2 [fI 12 0 0,fI 13 0 0,fI 13 0 0,fI 1 1 0,fI 18 0 1] 0 with | some k=>some (0,k) | none=>badF [] 1) = some (0,2)
 simp only [badK,if_pos o0,if_pos o1,if_neg o2]
theorem chk1:mcheckA (fM fC1) = .agg [.d (.int .i64 0),.d (.int .i64 0),.d (.int .i64 0),.d (.int .i64 0)]:=by
 unfold mcheckA
 rw [if_pos fM1_formed,bad1]
 rfl
theorem chk2:mcheckA (fM fC2) = .agg [.d (.int .i64 23),.d (.int .i64 11),.d (.int .i64 1),.d (.int .i64 3)]:=by
 unfold mcheckA
 rw [if_pos fM2_formed,bad2]
 rfl
theorem fM_light (l:List In1) (h1:l.length ≤ 400) (h2:∀ i,i ∈ l→i.args.length ≤ 40∧i.mode.length ≤ 40∧i.sign.length ≤ 20):LightM (fM (fC l)):=by
 refine ⟨by simp [fM],by simp [fM],fun s hs=>?_,fun c hc=>?_,fun c hc i hi=>?_⟩
 ·simp [fM] at hs; subst hs; simp
 ·simp [fM] at hc; subst hc; simp [fC]; omega
 ·simp [fM] at hc; subst hc; exact h2 i hi
theorem fM_names (c:Cd1):∀ s,s ∈ (fM c).structs→∀ f,f ∈ s.fields→f.name.length ≤ 9223372036854775807:=by
 intro s hs f hf
 simp [fM] at hs
 subst hs
 cases hf
theorem malive_e (hx:TL ext):G ext 8 [] [] = some (.ret (.d (.bool true)),[]):=by
 obtain ⟨e1,e2⟩:=frees_e hx
 have c1:=G_ext (hx.check (fM fC1) (fM_light _ (by decide) (by decide)) (fM_names _))
 have c2:=G_ext (hx.check (fM fC2) (fM_light _ (by decide) (by decide)) (fM_names _))
 rw [chk1] at c1
 rw [chk2] at c2
 rw [G_body hx.clear rfl Tryz.func8 rfl Tryz.results8 hv_8 rfl]
 simp only [Md1.av,Md1.sr,Md1.fr] at e1 e2 c1 c2
 simp (maxSteps:=4000000) (disch:=first | (intros; contradiction) | omega) only [go_sem,e1,e2,c1,c2]
end Go.Proofs.YticliodhjfednaaGreat
