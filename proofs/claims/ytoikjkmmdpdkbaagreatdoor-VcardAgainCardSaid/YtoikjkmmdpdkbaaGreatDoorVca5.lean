/- Part 5 of the ground of the proofs of this seat (texts N6 to NL2). By an AI agent. -/
import Derived.Test.YtoikjkmmdpdkbaaGreatDoorVca4
import Derived.Lib.Fold
import Derived.KernelRfl
import Derived.HandedShaped
set_option maxRecDepth 10000
set_option linter.unusedVariables false
set_option linter.unusedSimpArgs false
namespace Go.Ab.Vc
open Go Go.Ab Go.Ab.Vl Go.Ab.Sm
def WB (B:Base) (c:aj) : Prop:=∀ {M:RM} {s:Str} {Q:ai},M.base=B→s.length≤1000000000 →
 (∀ M' e,ae [] M M'→(∀ K:AV→Prop,K (Bo (AR s).2)→GV false e (.sc .nilIface) K)→Q (.tup [N .i64 (AR s).1,e]) M')→c [St s] M Q
theorem abJ (a b:Int) {K:AV→Prop} : af .sub (N .i64 a) (N .i64 b) K=K (N .i64 (IntKind.wrap .i64 (a - b))):=mM ..
def YV (B:Base) (c:aj) : Prop:=∀ {M:RM} {s:Str} {Q:ai},M.base=B→s.length≤10000000 →
 (∀ M' v,ae [] M M'→bE jl M' v (Bl s).1.ps (fun b=>M.next≤b)→Q (.tup [.agg [St (Bl s).1.g,St (Bl s).1.n,v,St [],N .i64 0],N .i64 (Bl s).2.1,Bo (Bl s).2.2]) M')→c [St s] M Q
def hd4 (s:Str) : Str × Str × Str:=if aN 46 (eB s).2 then((eB s).1,(eB ((eB s).2.drop 1)).1,(eB ((eB s).2.drop 1)).2) else([],(eB s).1,(eB s).2)
theorem Ur (s:Str) : Bl s=match kZ ((hd4 s).2.2.length + 1) (hd4 s).2.2 [] with
 | none=>(PL,0,false)
 | some (ps,r)=>if r=[] then(⟨(hd4 s).1,(hd4 s).2.1,ps,[]⟩,0,true) else(⟨(hd4 s).1,(hd4 s).2.1,ps,[]⟩,nN r):=rfl
theorem Py (s:Str) : (hd4 s).1.length + (hd4 s).2.1.length + (hd4 s).2.2.length≤s.length:=by
 have h1:=uA s
 unfold hd4
 split
 ·rename_i h
  have:=aW h
  have h2:=uA ((eB s).2.drop 1)
  rw[List.length_drop] at h2
  dsimp only; omega
 ·dsimp only[List.length_nil]; simp; omega
theorem WZ (s:Str) : rU (3 * s.length) { (Bl s).1 with v:=[] } := by
 have h1:=Py s
 rw[Ur]
 cases hp:kZ ((hd4 s).2.2.length + 1) (hd4 s).2.2 [] with
 | none=>exact⟨by simp[PL],by simp[PL],by simp,by simp[PL,jo]⟩
 | some x =>
   obtain⟨ps,r⟩:=x
   have h2:=FW _ _ _ _ _ hp
   simp only[show jo []=0 from rfl] at h2
   dsimp only
   split
   ·exact⟨by dsimp only; omega,by dsimp only; omega,by simp,by dsimp only; omega⟩
   ·exact⟨by dsimp only; omega,by dsimp only; omega,by simp,by dsimp only; omega⟩
theorem abj {M:RM} {b T:Nat} {l:List AV} {Q:ai} (h:M.heap b=some (.row l false T 0)) (hl:l.length=5) (hQ:∀ M',ae [b] M M'→Q (.tup [.agg [St [],St [],aB,St [],N .i64 0],N .i64 0,Bo false]) M') :
  eQ [(St []),(St []),(.sc (.slice none 0 0)),(St []),(N .i64 0)] [] fun t48=>aA M (.ptr b 0) t48 5 fun LU=>aH LU (.ptr b 0) 5 fun res=>Q (.tup [res,(N .i64 0),(Bo false)]) LU:=by
 rw[jX]
 refine⟨_,rfl, ?_⟩
 rw[bK (n:=5) (x:=.agg [St [],St [],aB,St [],N .i64 0]) h rfl hl rfl,aO (n:=5) (ay _) rfl]
 exact hQ _ ((ae.refl _ _).put _ (.inr (by simp)))
theorem XZ {B:Base} {TL TP TS:Nat} {cw cc ch cv ca:aj} (hw:Mx B cw) (hc:ku cc) (hh:nG ch) (hv:Qo B cv) (ha:WB B ca) :
  YV B fun args M Q=>∃ a0,args=[a0]∧pQ TL cw cc ch TP cv TS ca a0 M Q:=by
 intro M s Q hM hl hQ
 refine⟨_,rfl, ?_⟩
 unfold pQ
 simp only[dS,Ro,dK]
 rw[aG]
 have k1:ae [] M (M.push (.row [St [],St [],aB,St [],N .i64 0] false TL 0)):=(ae.refl _ _).push _
 have h1:(M.push (.row [St [],St [],aB,St [],N .i64 0] false TL 0)).heap M.next=some (.row [St [],St [],aB,St [],N .i64 0] false TL 0):=RM.aS _
 have n1:(M.push (.row [St [],St [],aB,St [],N .i64 0] false TL 0)).next=M.next + 1:=bH _
 generalize M.push (.row [St [],St [],aB,St [],N .i64 0] false TL 0)=M1 at *
 have hw1:=uA s
 refine hw (k1.base.trans hM) (by omega) fun M2 k2=>?_
 have h2:=k2.ax h1 (by omega) (by simp)
 have n2:=k2.next
 have k02:=k1.trans k2
 rw[bI,bJ,bi,bN (l':=[St [],St (eB s).1,aB,St [],N .i64 0]) h2 (by simp) rfl rfl rfl]
 have k3:ae [] M (M2.put M.next (.row [St [],St (eB s).1,aB,St [],N .i64 0] false TL 0)):=k02.put _ (.inl (by omega))
 have h3:(M2.put M.next (.row [St [],St (eB s).1,aB,St [],N .i64 0] false TL 0)).heap M.next=some (.row [St [],St (eB s).1,aB,St [],N .i64 0] false TL 0):=ay _
 have n3:(M2.put M.next (.row [St [],St (eB s).1,aB,St [],N .i64 0] false TL 0)).next=M2.next:=rfl
 generalize M2.put M.next (.row [St [],St (eB s).1,aB,St [],N .i64 0] false TL 0)=M3 at *
 have hdl:=Py s
 refine bQ (fun ys M'=>ys=[St (hd4 s).2.2]∧ae [] M M'∧M.next + 1≤M'.next∧M'.heap M.next=some (.row [St (hd4 s).1,St (hd4 s).2.1,aB,St [],N .i64 0] false TL 0)) ?_ ?_
 rotate_left 1
 ·intro J hJ
  refine hc (by omega) ?_
  unfold CG
  unfold hd4 at hJ
  cases hd:aN 46 (eB s).2 with
  | false =>
    rw[if_neg (by simp),bI,bJ,dI]
    rw[if_neg (by rw[hd]; simp)] at hJ
    exact hJ _ _ ⟨rfl,k3,by omega,h3⟩
  | true =>
    rw[if_pos rfl,bI,bJ,eU]
    rw[if_pos hd] at hJ
    have hpos:=aW hd
    rw[bi,az h3 rfl,bi,bN (l':=[St (eB s).1,St (eB s).1,aB,St [],N .i64 0]) h3 (by simp) rfl rfl rfl]
    have k4:ae [] M (M3.put M.next (.row [St (eB s).1,St (eB s).1,aB,St [],N .i64 0] false TL 0)):=k3.put _ (.inl (by omega))
    have h4:(M3.put M.next (.row [St (eB s).1,St (eB s).1,aB,St [],N .i64 0] false TL 0)).heap M.next=some (.row [St (eB s).1,St (eB s).1,aB,St [],N .i64 0] false TL 0):=ay _
    have n4:(M3.put M.next (.row [St (eB s).1,St (eB s).1,aB,St [],N .i64 0] false TL 0)).next=M3.next:=rfl
    generalize M3.put M.next (.row [St (eB s).1,St (eB s).1,aB,St [],N .i64 0] false TL 0)=M4 at *
    refine hw (k4.base.trans hM) (by simp; omega) fun M5 k5=>?_
    have h5:=k5.ax h4 (by omega) (by simp)
    have n5:=k5.next
    rw[bI,bJ,bi,bN (l':=[St (eB s).1,St (eB ((eB s).2.drop 1)).1,aB,St [],N .i64 0]) h5 (by simp) rfl rfl rfl]
    exact hJ _ _ ⟨rfl,(k4.trans k5).put _ (.inl (by omega)),by rw[kH]; omega,ay _⟩
 rintro _ M4 ⟨rfl,k4,n4,h4⟩
 dsimp only[ag]
 rw[Ur] at hQ
 generalize hd4 s=hd at *
 obtain⟨g,n,s0⟩:=hd
 dsimp only at hQ hdl h4 ⊢
 generalize hP:kZ (s0.length + 1) s0 []=P at *
 refine aP (fun m ys M5=>∃ (t:Str) (v:AV) (acc:List gF),m=t.length∧ys=[St t]∧acc.length + t.length≤s0.length∧ae [] M M5∧M.next + 1≤M5.next∧M5.heap M.next=some (.row [St g,St n,v,St [],N .i64 0] false TL 0) ∧
   fe jl M5 (M.next + 1) TP v acc (fun b=>M.next + 1≤b∧b<M5.next∧b ∉ aC v)∧kZ (t.length + 1) t acc=P) _
  ⟨s0,aB,[],rfl,rfl,by simp,k4,n4,h4,.nil,hP⟩ ?_
 rintro next m ys M5 hnext ⟨t,v,acc,rfl,rfl,hal,k5,n5,h5,ho,hp⟩
 have hM5:M5.base=B:=k5.base.trans hM
 rw[kZ] at hp
 dsimp only[ag]
 refine hh (by omega) ?_
 have hvl:=ho.blk
 cases h59:aN 59 t with
 | false =>
   simp only[h59,Bool.false_eq_true,if_false] at hp
   rw[dI]
   rw[← hp] at hQ
   dsimp only at hQ
   have hsl:bE jl M5 v acc (fun b=>M.next + 1≤b):=(ho.mono (fun b h=>h.1)).Ev (fun b hb _=>hb)
   have hall:([St g,St n,v,St [],N .i64 0] : List AV).all oneCell=true:=by simp[fF,ho.one]
   have fin:∀ {M6:RM} {Q' : AV→RM→Prop},ae [] M5 M6→(∀ M',ae [] M M'→bE jl M' v acc (fun b=>M.next≤b)→Q' (.agg [St g,St n,v,St [],N .i64 0]) M') →
     aA M6 (.ptr M.next 0) (.agg [St g,St n,v,St [],N .i64 0]) 5 fun Yi=>aH Yi (.ptr M.next 0) 5 fun res=>Q' res Yi:=by
    intro M6 Q' k6 hq
    have h6:=k6.ax h5 (by omega) (by simp)
    rw[bK (n:=5) (x:=.agg [St g,St n,v,St [],N .i64 0]) h6 rfl rfl hall,aO (n:=5) (ay _) rfl]
    refine hq _ ((k5.trans k6).put _ (.inl (Nat.le_refl _))) ?_
    exact(((hsl.keep k6 (by simp)).keep (bs:=[M.next]) ((ae.refl _ _).put _ (.inr (by simp))) (fun b hb h=>by simp at hb; omega)).mono fun b hb=>by omega)
   rw[gP]
   refine bg (fun he=>?_) (fun he=>?_)
   ·have he:t=[]:=by simpa using he
    rw[if_pos he] at hQ
    rw[aO (n:=5) h5 rfl]
    exact fin (Q':=fun res M'=>Q (.tup [res,(N .i64 0),(Bo true)]) M') (ae.refl _ _) fun M' k' h'=>hQ M' v k' h'
   ·have he:¬ t=[]:=by simpa using he
    rw[if_neg he] at hQ
    refine hc (by omega) ?_
    have hcut:CG 35 t=.tup [St (if aN 35 t then t.drop 1 else t),Bo (aN 35 t)]:=by
     unfold CG
     cases aN 35 t with
     | true=>rfl
     | false=>rfl
    rw[hcut,bI,bJ]
    unfold nN at hQ
    dsimp only at hQ
    generalize hd:(if aN 35 t then t.drop 1 else t)=d at *
    have hdl' : d.length≤t.length:=by
     rw[← hd]; split
     ·simp
     ·exact Nat.le_refl _
    refine ha hM5 (by omega) fun M6 e k6 hE=>?_
    rw[bI,bJ,aO (n:=5) (k6.ax h5 (by omega) (by simp)) rfl,abJ]
    have done:∀ r:Bool,r=(aN 35 t && (AR d).2 && decide ((AR d).1 ≥ 2)) →
      aA M6 (.ptr M.next 0) (.agg [St g,St n,v,St [],N .i64 0]) 5 fun YB=>aH YB (.ptr M.next 0) 5 fun Yd=>Q (.tup [Yd,N .i64 (IntKind.wrap .i64 ((AR d).1 - 1)),Bo r]) YB:=by
     intro r hr
     refine fin (Q':=fun res M'=>Q (.tup [res,N .i64 (IntKind.wrap .i64 ((AR d).1 - 1)),Bo r]) M') k6 fun M' k' h'=>?_
     rw[hr]; exact hQ M' v k' h'
    cases hb:aN 35 t with
    | false =>
      simp only[oK,jd]
      exact done false (by rw[hb]; rfl)
    | true =>
      simp only[nu]
      refine hE _ ?_
      rw[gU]
      cases hb2:(AR d).2 with
      | false =>
        simp only[oK,jd]
        exact done false (by rw[hb,hb2]; rfl)
      | true =>
        simp only[nu]
        rw[fK,gU]
        exact done _ (by rw[hb,hb2]; rfl)
 | true =>
   simp only[h59,if_true] at hp
   have htl:=aW h59
   rw[eU,aG,show aU (St t) (some (N .i64 1)) none=some (St (t.drop 1)) from bD (l:=1) (by omega) .i64,dR]
   have h6:(M5.push (.row [St [],aB] false TP 0)).heap M5.next=some (.row [St [],aB] false TP 0):=RM.aS _
   have k6:ae [] M5 (M5.push (.row [St [],aB] false TP 0)):=(ae.refl _ _).push _
   have n6:(M5.push (.row [St [],aB] false TP 0)).next=M5.next + 1:=rfl
   generalize M5.push (.row [St [],aB] false TP 0)=M6 at *
   refine hw (k6.base.trans hM5) (by simp; omega) fun M7 k7=>?_
   have h7:=k7.ax h6 (by omega) (by simp)
   have n7:=k7.next
   have hw4:=uA (t.drop 1)
   rw[List.length_drop] at hw4
   generalize eB (t.drop 1)=w4 at *
   obtain⟨nm,t2⟩:=w4
   dsimp only at hp hw4 ⊢
   rw[bI,bJ,bi,bN (l':=[St nm,aB]) h7 (by simp) rfl rfl rfl]
   have k8:ae [] M5 (M7.put M5.next (.row [St nm,aB] false TP 0)):=(k6.trans k7).put _ (.inl (Nat.le_refl _))
   have h8:(M7.put M5.next (.row [St nm,aB] false TP 0)).heap M5.next=some (.row [St nm,aB] false TP 0):=ay _
   have n8:(M7.put M5.next (.row [St nm,aB] false TP 0)).next=M7.next:=rfl
   generalize M7.put M5.next (.row [St nm,aB] false TP 0)=M8 at *
   refine hh (by omega) ?_
   rw[bP]
   have Wp:P=none→∀ {M9:RM},ae [] M5 M9→eQ [(St []),(St []),(.sc (.slice none 0 0)),(St []),(N .i64 0)] [] fun t48=>aA M9 (.ptr M.next 0) t48 5 fun LU=>aH LU (.ptr M.next 0) 5 fun res=>Q (.tup [res,(N .i64 0),(Bo false)]) LU:=by
    intro hn M9 k9
    rw[hn] at hQ
    refine abj (k9.ax h5 (by omega) (by simp)) rfl fun M' k'=>?_
    exact hQ M' aB ((k5.trans k9).fI k' (fun c hc=>.inl (by simp at hc; omega))) bE.nil
   cases h61:aN 61 t2 with
   | false =>
     simp only[h61,Bool.false_eq_true,if_false] at hp
     rw[Bool.not_false,eU]
     exact Wp hp.symm k8
   | true =>
   simp only[h61,if_true] at hp
   rw[Bool.not_true,dI]
   refine aP (fun m zs M9=>∃ (u:Str) (vs:List Str) (w:AV) (more:Bool),m=2 * u.length + (if more then 1 else 0)∧zs=[St u,Bo more]∧u.length + vs.length≤t2.length∧ae [] M5 M9∧M8.next≤M9.next ∧
     M9.heap M5.next=some (.row [St nm,w] false TP 0)∧fe jO.ko M9 M8.next TS w vs (fun _=>False) ∧
     (more=true→1≤u.length∧jb u.length u vs=jb t2.length t2 [])∧(more=false→jb t2.length t2 []=some (vs,u))) _
    ⟨t2,[],aB,true,rfl,rfl,by simp,k8,Nat.le_refl _,h8,.nil,fun _=>⟨aW h61,rfl⟩,fun h=>by cases h⟩ ?_
   rintro Dr m zs M9 mg ⟨u,vs,w,more,rfl,rfl,hul,k9,n9,h9,how,hm1,hm2⟩
   dsimp only[ag]
   have hM9:M9.base=B:=k9.base.trans hM5
   cases more with
   | true =>
     obtain⟨hu1,hvf⟩:=hm1 rfl
     obtain⟨j,hj⟩ : ∃ j,u.length=j + 1:=⟨u.length - 1,by omega⟩
     rw[hj,jb] at hvf
     rw[eU,show aU (St u) (some (N .i64 1)) none=some (St (u.drop 1)) from bD (l:=1) (by omega) .i64,dR]
     have aaW:=AO (u.drop 1)
     refine hv hM9 (by simp; omega) fun Ma ka=>?_
     generalize sN (u.drop 1)=x at *
     obtain⟨a,after,ok⟩:=x
     simp only[List.length_drop] at aaW hvf
     rw[bI,bJ,jf,bP]
     dsimp only
     cases ok with
     | false =>
       rw[Bool.not_false,eU]
       refine Wp ?_ (k9.trans ka)
       dsimp only at hvf
       rw[← hvf] at hp
       exact hp.symm
     | true =>
     dsimp only at hvf
     have ha:=ka.ax h9 (by omega) (by simp)
     rw[Bool.not_true,dI,bi,az ha rfl,kE (x:=St a) (size:=1) rfl rfl rfl,aG]
     have aaR:=how.keep ka (by simp) (by simp)
     have na:=ka.next
     refine fe.app (R:=jO.ko) (a:=a) (cs:=[St a]) aaR rfl (by omega) (Nat.le_refl _) (by simp) (by simp) (by omega) (by omega) ?_
     intro w' Mb ob kb nb hwb _
     have Yc:∀ b∈aC w,M8.next≤b:=fun b hb=>(how.blk b hb).1
     have hb:=kb.ax ha (by omega) (fun h=>by have:=Yc _ h; omega)
     have UX:∀ b∈aC w',M8.next≤b:=fun b hb=>(ob.blk b hb).1
     rw[bi,bN (l':=[St nm,w']) hb (by simp) ob.cells ob.one rfl]
     refine hh (by omega) ?_
     have kc:ae [] M5 (Mb.put M5.next (.row [St nm,w'] false TP 0)):=ae.new ((k9.trans ka).fI kb fun c hc=>.inl (by have:=Yc c hc; omega)) _ (Nat.le_refl _)
     refine mg _ _ _ ?_ ⟨after,vs++[a],w',aN 44 after,rfl,rfl,by simp; omega,kc,by rw[kH]; omega,ay _, ?_, ?_, ?_⟩
     ·split <;> simp <;> omega
     ·refine ob.keep (bs:=[M5.next]) ((ae.refl _ _).put _ (.inr (by simp))) (by simp) fun b hb=>?_
      have:=UX b hb
      simp; omega
     ·intro hmo
      rw[if_pos hmo] at hvf
      refine⟨aW hmo, ?_⟩
      rw[← hvf,xL after.length after _ j (Nat.le_refl _) (aW hmo) (by omega)]
     ·intro hmo
      rw[hmo] at hvf
      simp only[Bool.false_eq_true,if_false] at hvf
      exact hvf.symm
   | false =>
     have hv4:=hm2 rfl
     rw[hv4] at hp
     simp only at hp
     rw[dI,bi,az (k9.ax h5 (by omega) (by simp)) rfl,aO (n:=2) h9 rfl,kE (x:=.agg [St nm,w]) (size:=2) rfl (by show([St nm,w] : List AV).all oneCell=true; simp[fF,how.one]) rfl,aG]
     let S' : Nat→Prop:=fun b=>M.next + 1≤b∧b<M9.next∧b ∉ aC v
     have n9':=k9.next
     have ho9:fe jl M9 (M.next + 1) TP v acc S':=(ho.keep k9 (by simp) (by simp)).mono fun b h=>⟨h.1,by omega,h.2.2⟩
     have hel:jl.rel M9 [St nm,w] (nm,vs) S':=KZ ((how.mono (S':=S') (fun _ h=>h.elim)).Ev (fun b h1 h2=>⟨by omega,h2,fun hb=>by have:=(hvl b hb).2; omega⟩))
     refine fe.app (R:=jl) ho9 hel (by omega) (by decide) (fun b hb h=>h.2.2 hb) (fun b h=>h.2.1) (by omega) (by omega) ?_
     intro v' Mb ob kb nb hvb hdb
     have hvs:=xM _ _ _ _ _ (aW h61) hv4
     have hb5:=kb.ax (k9.ax h5 (by omega) (by simp)) (by omega) (fun h=>by have:=(hvl _ h).1; omega)
     have hob:=ob.blk
     rw[bi,bN (l':=[St g,St n,v',St [],N .i64 0]) hb5 (by simp) ob.cells ob.one rfl]
     refine hnext _ _ _ (by omega) ⟨u,v',acc++[(nm,vs)],rfl,rfl,by simp; omega, ?_,by rw[kH]; omega,ay _, ?_, ?_⟩
     ·exact ae.new ((k5.trans k9).fI kb fun c hc=>.inl (by have:=(hvl c hc).1; omega)) _ (Nat.le_refl _)
     ·refine(ob.keep (bs:=[M.next]) ((ae.refl _ _).put _ (.inr (by simp))) (fun b hb h=>by simp at hb; have:=h.1; omega) fun b hb=>?_).mono fun b h=>⟨h.1,by rw[kH]; omega,fun hb=>hdb b hb h⟩
      have:=(hob b hb).1
      simp; omega
     ·rw[← hp,xO u.length u _ t.length (Nat.le_refl _) (by omega)]
def CZ (p s:Str) : Bool:=decide (p.length≤s.length) && (s.take p.length == p)
def Vk (c:aj) : Prop:=∀ {M:RM} {s p:Str} {Q:ai},Q (Bo (CZ p s)) M→c [St s,St p] M Q
theorem Kn:Vk fun args M Q=>∃ a0 a1,args=[a0,a1]∧Vl.dx a0 a1 M Q:=by
 intro M s p Q hQ
 refine⟨_,_,rfl, ?_⟩
 unfold Go.Ab.Vl.dx
 simp only[dS,bC,fK]
 unfold CZ at hQ
 by_cases h:p.length≤s.length
 ·have e:decide ((s.length:Int) ≥ (p.length:Int))=true:=by simp[h]
  rw[e]
  simp only[go_sem,if_true]
  rw[gZ h]
  simpa only[go_sem,h,decide_true,Bool.true_and,if_true] using hQ
 ·have e:decide ((s.length:Int) ≥ (p.length:Int))=false:=by simp; omega
  rw[e]
  simpa [go_sem,h] using hQ
def BL (p s:Str) : AV:=if CZ p s then .tup [St (s.drop p.length),Bo true] else .tup [St s,Bo false]
def uw (c:aj) : Prop:=∀ {M:RM} {s p:Str} {Q:ai},Q (BL p s) M→c [St s,St p] M Q
theorem EC {ch:aj} (hh:Vk ch) : uw fun args M Q=>∃ a0 a1,args=[a0,a1]∧Vl.dw ch a0 a1 M Q:=by
 intro M s p Q hQ
 refine⟨_,_,rfl, ?_⟩
 unfold Go.Ab.Vl.dw
 refine hh ?_
 unfold BL at hQ
 cases h:CZ p s
 ·rw[h] at hQ; simpa [go_sem] using hQ
 ·rw[h] at hQ
  have hl:p.length≤s.length:=by unfold CZ at h; simp at h; exact h.1
  simp only[bP,Bool.not_true,dI,bC]
  rw[bD hl]
  simpa [go_sem] using hQ
theorem Oi {ch:aj} (hh:uw ch) : uw fun args M Q=>∃ a0 a1,args=[a0,a1]∧Vl.iw ch a0 a1 M Q:=by
 intro M s p Q hQ
 refine⟨_,_,rfl, ?_⟩
 unfold Go.Ab.Vl.iw
 refine hh ?_
 unfold BL at hQ ⊢
 cases h:CZ p s <;> rw[h] at hQ <;> simpa [go_sem] using hQ
theorem YS (s:Str) : CZ gV s=decide (s.take 4=gV):=by
 unfold CZ
 rw[show gV.length=4 from rfl]
 by_cases h:s.take 4=gV
 ·have:=congrArg List.length h
  simp[gV] at this
  rw[decide_eq_true h,decide_eq_true (show 4≤s.length by omega),h]; rfl
 ·rw[decide_eq_false h,Bool.and_eq_false_iff]
  right; simpa using h
theorem XR {b:Bool} {x y:Str} {N:Nat} (hx:x.length≤N) (hy:y.length≤N) : (if b then x else y).length≤N:=by cases b <;> simpa
def lU (p:Fd) : Ln:=(bR p).1
theorem Xd {p:Fd} {N:Nat} (h1:3 * p.1.length≤N) (h2:2 * p.2.length≤N) : rU N (bR p).1:=by
 have hs:=WZ (if decide (p.1.take 4=gV) then p.1.drop 4 else p.1)
 have hl:(if decide (p.1.take 4=gV) then p.1.drop 4 else p.1).length≤p.1.length:=by
  split
  ·simp
  ·exact Nat.le_refl _
 have he:=O6 p.2
 unfold bR
 refine⟨?_, ?_, ?_, ?_⟩
 ·have:=hs.g; dsimp only at this ⊢; omega
 ·have:=hs.n; dsimp only at this ⊢; omega
 ·dsimp only; exact XR (by omega) (by omega)
 ·have:=hs.ps; dsimp only at this ⊢; omega
def KE (B:Base) (c:aj) : Prop:=∀ {M:RM} {p:Fd} {Q:ai},M.base=B→p.1.length≤10000000→p.2.length≤10000000 →
 (∀ M' cs,ae [] M M'→iO.rel M' cs ((bR p).1,0) (fun b=>M.next≤b)→Q (.tup [.agg cs,N .i64 (bR p).2.1,Bo (bR p).2.2]) M')→c [mJ p] M Q
theorem Hd (p q:Fd) : cB [2,2] [St p.1,St p.2] [St q.1,St q.2]=some (decide (p=q)):=by
 rw[Bb,Bb,Hl]
 by_cases h1:p.1=q.1
 ·by_cases h2:p.2=q.2
  ·rw[if_pos h1,if_pos h2,decide_eq_true (Prod.ext h1 h2)]
  ·rw[if_pos h1,if_neg h2,decide_eq_false (fun e=>h2 (by rw[e]))]
 ·rw[if_neg h1,decide_eq_false (fun e=>h1 (by rw[e]))]
theorem Un {B:Base} {TP TL:Nat} {cc cu ct ce cf:aj} (hc:uw cc) (hu:YV B cu) (ht:KL ct) (he:QC ce) (hf:F9 B cf) : KE B fun args M Q=>∃ a0,args=[a0]∧vC TP TL cc cu ct ce cf a0 M Q:=by
 intro M p Q hM hp1 hp2 hQ
 refine⟨_,rfl, ?_⟩
 unfold vC mJ
 simp only[dS,dK]
 rw[iZ (cs:=[St p.1,St p.2]) rfl (by simp),aG]
 have k1:ae [] M (M.push (.row [St p.1,St p.2] false TP 0)):=(ae.refl _ _).push _
 have h1:(M.push (.row [St p.1,St p.2] false TP 0)).heap M.next=some (.row [St p.1,St p.2] false TP 0):=RM.aS _
 have n1:(M.push (.row [St p.1,St p.2] false TP 0)).next=M.next + 1:=bH _
 generalize M.push (.row [St p.1,St p.2] false TP 0)=M1 at *
 rw[aG]
 have k2:ae [] M1 (M1.push (.row [St [],St [],aB,St [],N .i64 0] false TL 0)):=(ae.refl _ _).push _
 have h2:(M1.push (.row [St [],St [],aB,St [],N .i64 0] false TL 0)).heap M1.next=some (.row [St [],St [],aB,St [],N .i64 0] false TL 0):=RM.aS _
 have n2:(M1.push (.row [St [],St [],aB,St [],N .i64 0] false TL 0)).next=M1.next + 1:=bH _
 generalize M1.push (.row [St [],St [],aB,St [],N .i64 0] false TL 0)=M2 at *
 have h12:=k2.ax h1 (by omega) (by simp)
 have k02:=k1.trans k2
 rw[bi,az h12 rfl]
 refine hc ?_
 have hcut:BL gV p.1=.tup [St (if decide (p.1.take 4=gV) then p.1.drop 4 else p.1),Bo (decide (p.1.take 4=gV))]:=by
  unfold BL
  rw[YS]
  cases decide (p.1.take 4=gV) with
  | true=>rfl
  | false=>rfl
 rw[show([114,97,119,46] : Str)=gV from rfl,hcut,bI,bJ]
 have hlen:(if decide (p.1.take 4=gV) then p.1.drop 4 else p.1).length≤p.1.length:=by
  split
  ·simp
  ·exact Nat.le_refl _
 have hsz:=Xd (p:=p) (N:=30000000) (by omega) (by omega)
 unfold bR at hQ hsz
 dsimp only at hQ hsz
 generalize hraw:decide (p.1.take 4=gV)=raw at *
 generalize (if raw then p.1.drop 4 else p.1)=s at *
 refine hu (k02.base.trans hM) (by omega) fun M3 v k3 hv=>?_
 generalize Bl s=u at *
 obtain⟨u,j,uok⟩:=u
 dsimp only at hQ hsz hv ⊢
 rw[bI,bJ,jf]
 have k03:=k02.trans k3
 have h13:=k3.ax h12 (by omega) (by simp)
 have h23:=k3.ax h2 (by omega) (by simp)
 have n3:=k3.next
 have hall:∀ x:Str,([St u.g,St u.n,v,St x,N .i64 0] : List AV).all oneCell=true:=fun x=>by simp[fF,hv.one]
 rw[aG,bK (n:=5) (x:=.agg [St u.g,St u.n,v,St [],N .i64 0]) (l:=[St [],St [],aB,St [],N .i64 0]) (RM.aS _) rfl rfl (hall [])]
 have k4:ae [] M3 ((M3.push (.row [St [],St [],aB,St [],N .i64 0] false TL 0)).put M3.next (.row (AV.agg [St u.g,St u.n,v,St [],N .i64 0]).cells false TL 0)):=((ae.refl _ _).push _).new _ (Nat.le_refl _)
 have h4:((M3.push (.row [St [],St [],aB,St [],N .i64 0] false TL 0)).put M3.next (.row (AV.agg [St u.g,St u.n,v,St [],N .i64 0]).cells false TL 0)).heap M3.next=some (.row [St u.g,St u.n,v,St [],N .i64 0] false TL 0):=ay _
 have n4:((M3.push (.row [St [],St [],aB,St [],N .i64 0] false TL 0)).put M3.next (.row (AV.agg [St u.g,St u.n,v,St [],N .i64 0]).cells false TL 0)).next=M3.next + 1:=rfl
 generalize (M3.push (.row [St [],St [],aB,St [],N .i64 0] false TL 0)).put M3.next (.row (AV.agg [St u.g,St u.n,v,St [],N .i64 0]).cells false TL 0)=M4 at *
 have h14:=k4.ax h13 (by omega) (by simp)
 have h24:=k4.ax h23 (by omega) (by simp)
 rw[bi,az h14 rfl,bi,bN (l':=[St u.g,St u.n,v,St p.2,N .i64 0]) h4 (by simp) rfl rfl rfl]
 have k5:ae [] M3 (M4.put M3.next (.row [St u.g,St u.n,v,St p.2,N .i64 0] false TL 0)):=k4.put _ (.inl (Nat.le_refl _))
 have h5:(M4.put M3.next (.row [St u.g,St u.n,v,St p.2,N .i64 0] false TL 0)).heap M3.next=some (.row [St u.g,St u.n,v,St p.2,N .i64 0] false TL 0):=ay _
 have n5:(M4.put M3.next (.row [St u.g,St u.n,v,St p.2,N .i64 0] false TL 0)).next=M4.next:=rfl
 generalize M4.put M3.next (.row [St u.g,St u.n,v,St p.2,N .i64 0] false TL 0)=M5 at *
 have h15:=k5.ax h13 (by omega) (by simp)
 have h25:=k5.ax h23 (by omega) (by simp)
 generalize hx:(if !raw && yE u.n then esc p.2 else p.2)=x at *
 refine bQ (fun ys M'=>ae [] M3 M'∧M3.next<M'.next∧M'.heap M3.next=some (.row [St u.g,St u.n,v,St x,N .i64 0] false TL 0)) ?_ ?_
 rotate_left 1
 ·intro J hJ
  rw[bP]
  refine wN (p:=yE u.n) (fun hc' kk hk=>?_) ?_
  ·rw[bi,az h5 rfl]; exact ht hk
  refine bg (fun hb=>?_) (fun hb=>?_)
  ·rw[hb] at hx
   rw[if_pos rfl] at hx
   rw[bi,az h15 rfl]
   refine he (by omega) fun M6 k6=>?_
   have h6:=k6.ax h5 (by omega) (by simp)
   have n6:=k6.next
   rw[bi,bN (l':=[St u.g,St u.n,v,St x,N .i64 0]) h6 (by simp) rfl rfl (by rw[← hx]; rfl)]
   exact hJ _ _ ⟨(k5.trans k6).put _ (.inl (Nat.le_refl _)),by rw[kH]; omega,ay _⟩
  ·rw[hb] at hx
   rw[if_neg (by simp)] at hx
   rw[← hx] at hJ
   exact hJ _ _ ⟨k5,by omega,h5⟩
 rintro _ M6 ⟨k6,n6,h6⟩
 have h16:=k6.ax h13 (by omega) (by simp)
 have h26:=k6.ax h23 (by omega) (by simp)
 have k06:=k03.trans k6
 rw[aO (n:=5) h6 rfl]
 have hv6:=hv.keep k6 (by simp)
 have hrel:iO.rel M6 [St u.g,St u.n,v,St x,N .i64 0] ({ u with v:=x },0) (fun b=>M2.next≤b):=⟨v,rfl,hv6⟩
 have hla:=hsz.laid
 refine hf (k06.base.trans hM) hrel (hsz.mono (by omega)).lb (by omega) fun M7 k7=>?_
 have h17:=k7.ax h16 (by omega) (by simp)
 have h27:=k7.ax h26 (by omega) (by simp)
 have h67:=k7.ax h6 (by omega) (by simp)
 have n7:=k7.next
 generalize jy { u with v:=x } j=f at *
 obtain⟨f,fok⟩:=f
 dsimp only at hQ ⊢
 unfold mJ
 rw[bI,bJ,aG,bK (n:=2) (x:=.agg [St f.1,St f.2]) (l:=[St [],St []]) (RM.aS _) rfl rfl rfl]
 have k8:ae [] M7 ((M7.push (.row [St [],St []] false TP 0)).put M7.next (.row (AV.agg [St f.1,St f.2]).cells false TP 0)):=((ae.refl _ _).push _).new _ (Nat.le_refl _)
 have h8:((M7.push (.row [St [],St []] false TP 0)).put M7.next (.row (AV.agg [St f.1,St f.2]).cells false TP 0)).heap M7.next=some (.row [St f.1,St f.2] false TP 0):=ay _
 have n8:((M7.push (.row [St [],St []] false TP 0)).put M7.next (.row (AV.agg [St f.1,St f.2]).cells false TP 0)).next=M7.next + 1:=rfl
 generalize (M7.push (.row [St [],St []] false TP 0)).put M7.next (.row (AV.agg [St f.1,St f.2]).cells false TP 0)=M8 at *
 have h18:=k8.ax h17 (by omega) (by simp)
 have h28:=k8.ax h27 (by omega) (by simp)
 have h68:=k8.ax h67 (by omega) (by simp)
 have k08:=(k06.trans k7).trans k8
 rw[aO (n:=5) h68 rfl]
 have fin:∀ r:Bool,r=(uok && fok && decide (f=p)) →
   ∀ {M9:RM},M9=M8.put M1.next (.row (AV.agg [St u.g,St u.n,v,St x,N .i64 0]).cells false TL 0)→aH M9 (.ptr M1.next 0) 5 fun res=>Q (.tup [res,N .i64 j,Bo r]) M9:=by
  intro r hr M9 e
  have k9:ae [M1.next] M8 M9:=by rw[e]; exact(ae.refl _ _).put _ (.inr (by simp))
  rw[aO (n:=5) (l:=[St u.g,St u.n,v,St x,N .i64 0]) (by rw[e]; exact ay _) rfl,hr]
  refine hQ _ _ (k08.fI k9 (fun c hc=>.inl (by simp at hc; omega))) ⟨v,rfl, ?_⟩
  refine((hv6.keep (k7.trans k8) (by simp)).keep k9 fun b hb h=>?_).mono fun b hb=>by omega
  simp at hb; omega
 have hst:∀ {K:RM→Prop},aA M8 (.ptr M1.next 0) (.agg [St u.g,St u.n,v,St x,N .i64 0]) 5 K=K (M8.put M1.next (.row (AV.agg [St u.g,St u.n,v,St x,N .i64 0]).cells false TL 0)):=fun {K} => bK (n:=5) (x:=.agg [St u.g,St u.n,v,St x,N .i64 0]) h28 rfl rfl (hall x)
 cases uok with
 | false =>
   simp only[oK,Ms,jd]
   rw[hst]
   exact fin false rfl rfl
 | true =>
   simp only[nu,gU]
   cases fok with
   | false =>
     simp only[oK,Ms,jd]
     rw[hst]
     exact fin false rfl rfl
   | true =>
     simp only[nu,Ub,gU]
     rw[aO (n:=2) h8 rfl,aO (n:=2) h18 rfl,rF (r:=decide (f=p)) rfl rfl (Hd f p),hst]
     have h9a:(M8.put M1.next (.row (AV.agg [St u.g,St u.n,v,St x,N .i64 0]).cells false TL 0)).heap M7.next=some (.row [St f.1,St f.2] false TP 0):=dC h8 (by omega)
     have h9b:(M8.put M1.next (.row (AV.agg [St u.g,St u.n,v,St x,N .i64 0]).cells false TL 0)).heap M.next=some (.row [St p.1,St p.2] false TP 0):=dC h18 (by omega)
     rw[aO (n:=2) h9a rfl]
     refine⟨rfl, ?_⟩
     rw[aO (n:=2) h9b rfl]
     refine⟨rfl, ?_⟩
     refine fin _ ?_ rfl
     cases decide (f=p) <;> rfl
def rM:Enc Fd where
 size:=2
 cells p:=[St p.1,St p.2]
 len _:=rfl
 one _:=rfl
theorem AQ {M:RM} {v:AV} {xs:List Fd} (h:Sl rM M v xs) {i:Nat} (hi:i<xs.length) {K:AV→Prop} : (aX v (N .i64 (i:Int)) 2 fun p=>aH M p 2 K)=K (mJ xs[i]):=by
 obtain⟨b,o,hb,_,hidx,hld⟩:=Sl.elem h hi
 rw[show(2:Nat)=rM.size from rfl,hidx,rO,hld]
 simp[rM,mJ]
theorem zv {M:RM} {b T:Nat} {x:AV} {cs:List AV} (n:Nat) (h:x=.agg cs) (hl:cs.length=n) (zs:List AV) (hz:zs.length=n) (h1:cs.all oneCell=true) {K:RM→Prop} (hc:x.cells.length=n)
  (hK:∀ M',ae [] M M'→M'.next=M.next + 1→M'.heap M.next=some (.row cs false T 0)→K M') : aA (M.push (.row zs false T 0)) (.ptr M.next 0) x n K:=by
 subst h
 rw[bK (n:=n) (x:=.agg cs) (l:=zs) (RM.aS _) hc hz h1]
 exact hK _ (((ae.refl _ _).push _).new _ (Nat.le_refl _)) rfl (ay _)
def Ho (B:Base) (c:aj) : Prop:=∀ {M:RM} {p:Fd} {Q:ai},M.base=B→p.1.length≤10000000→p.2.length≤10000000 →
 (∀ M' cs,ae [] M M'→iO.rel M' cs (if (bR p).2.2 then(bR p).1 else PL,0) (fun b=>M.next≤b)→Q (.tup [.agg cs,N .i64 (if (bR p).2.2 then 0 else 1)]) M')→c [mJ p] M Q
theorem QX {B:Base} {TP TL:Nat} {cl:aj} (hl:KE B cl) : Ho B fun args M Q=>∃ a0,args=[a0]∧vX TP TL cl a0 M Q:=by
 intro M p Q hM hp1 hp2 hQ
 refine⟨_,rfl, ?_⟩
 unfold vX mJ
 rw[iZ (cs:=[St p.1,St p.2]) rfl (by simp),aG]
 have k1:ae [] M (M.push (.row [St p.1,St p.2] false TP 0)):=(ae.refl _ _).push _
 have h1:(M.push (.row [St p.1,St p.2] false TP 0)).heap M.next=some (.row [St p.1,St p.2] false TP 0):=RM.aS _
 have n1:(M.push (.row [St p.1,St p.2] false TP 0)).next=M.next + 1:=bH _
 generalize M.push (.row [St p.1,St p.2] false TP 0)=M1 at *
 rw[aG]
 have k2:ae [] M1 (M1.push (.row [St [],St [],aB,St [],N .i64 0] false TL 0)):=(ae.refl _ _).push _
 have h2:(M1.push (.row [St [],St [],aB,St [],N .i64 0] false TL 0)).heap M1.next=some (.row [St [],St [],aB,St [],N .i64 0] false TL 0):=RM.aS _
 have n2:(M1.push (.row [St [],St [],aB,St [],N .i64 0] false TL 0)).next=M1.next + 1:=bH _
 generalize M1.push (.row [St [],St [],aB,St [],N .i64 0] false TL 0)=M2 at *
 have k02:=k1.trans k2
 rw[aO (n:=2) (k2.ax h1 (by omega) (by simp)) rfl]
 refine hl (p:=p) (k02.base.trans hM) hp1 hp2 fun M3 cs k3 hrel=>?_
 have h23:=k3.ax h2 (by omega) (by simp)
 have n3:=k3.next
 rw[bI,bJ,jf,aG]
 obtain⟨v,rfl,hv,hall,_⟩:=zU hrel
 refine zv (b:=0) 5 rfl rfl _ rfl hall rfl fun M4 k4 n4 h4=>?_
 have h24:=k4.ax h23 (by omega) (by simp)
 have k04:=(k02.trans k3).trans k4
 rw[bP]
 cases hok:(bR p).2.2 with
 | false =>
   rw[hok] at hQ
   rw[Bool.not_false,eU,jX]
   refine⟨_,rfl, ?_⟩
   rw[bK (n:=5) (x:=.agg [St [],St [],aB,St [],N .i64 0]) h24 rfl rfl rfl,aO (n:=5) (ay _) rfl]
   exact hQ _ _ (k04.put _ (.inl (by omega))) ⟨aB,rfl,bE.nil⟩
 | true =>
   rw[hok] at hQ
   rw[Bool.not_true,dI,aO (n:=5) h4 rfl,bK (n:=5) (x:=.agg [St (bR p).1.g,St (bR p).1.n,v,St (bR p).1.v,N .i64 0]) h24 rfl rfl hall,aO (n:=5) (ay _) rfl]
   refine hQ _ _ (k04.put _ (.inl (by omega))) ⟨v,rfl, ?_⟩
   refine((hv.keep k4 (by simp)).keep (bs:=[M1.next]) ((ae.refl _ _).put _ (.inr (by simp))) fun b hb h=>?_).mono fun b hb=>by omega
   simp at hb; omega
def FJ (B:Base) (c:aj) : Prop:=∀ {M:RM} {p:Fd} {Q:ai},M.base=B→p.1.length≤10000000→p.2.length≤10000000→(∀ M',ae [] M M'→Q (Bo (jJ p)) M')→c [mJ p] M Q
theorem QO {i j:Nat} {K:AV→Prop} : af .leq (N .i64 (i:Int)) (N .i64 (j:Int)) K=K (Bo (decide (i≤j))):=by rw[oJ,show decide ((i:Int)≤(j:Int))=decide (i≤j) by simp]
theorem Cm {B:Base} {TP TL:Nat} {cl:aj} (hl:Ho B cl) : FJ B fun args M Q=>∃ a0,args=[a0]∧u6 TP cl TL a0 M Q:=by
 intro M p Q hM hp1 hp2 hQ
 refine⟨_,rfl, ?_⟩
 unfold u6 mJ
 simp only[dS]
 rw[iZ (cs:=[St p.1,St p.2]) rfl (by simp),aG]
 have k1:ae [] M (M.push (.row [St p.1,St p.2] false TP 0)):=(ae.refl _ _).push _
 have h1:(M.push (.row [St p.1,St p.2] false TP 0)).heap M.next=some (.row [St p.1,St p.2] false TP 0):=RM.aS _
 have n1:(M.push (.row [St p.1,St p.2] false TP 0)).next=M.next + 1:=bH _
 generalize M.push (.row [St p.1,St p.2] false TP 0)=M1 at *
 rw[aO (n:=2) h1 rfl]
 refine hl (p:=p) (k1.base.trans hM) hp1 hp2 fun M3 cs k3 hrel=>?_
 rw[bI,bJ,aG]
 obtain⟨v,rfl,hv,hall,_⟩:=zU hrel
 refine zv (b:=0) 5 rfl rfl _ rfl hall rfl fun M4 k4 n4 h4=>?_
 have h14:=(k3.trans k4).ax h1 (by omega) (by simp)
 have k04:=(k1.trans k3).trans k4
 rw[dV]
 have e:(((if (bR p).2.2=true then(0:Int) else 1)) == 0)=(bR p).2.2:=by cases(bR p).2.2 <;> rfl
 rw[e]
 refine wN (p:=decide (p.1.length≤64)) (fun hc kk hk=>?_) ?_
 ·rw[bi,az h14 rfl,bC,show(N .i64 (64:Int))=N .i64 ((64:Nat) : Int) from rfl,QO]; exact hk
 refine wN (p:=decide (p.2.length≤512)) (fun hc kk hk=>?_) ?_
 ·rw[bi,az h14 rfl,bC,show(N .i64 (512:Int))=N .i64 ((512:Nat) : Int) from rfl,QO]; exact hk
 exact hQ _ k04
def Va (B:Base) (c:aj) : Prop:=∀ {M:RM} {v:AV} {xs:List Fd} {Q:ai},M.base=B→Sl rM M v xs→xs.length≤1000000000→(∀ p∈xs,p.1.length≤10000000∧p.2.length≤10000000)→(∀ M',ae [] M M'→Q (Bo (xs.all jJ)) M')→c [v] M Q
theorem Vn {B:Base} {cg:aj} (hg:FJ B cg) : Va B fun args M Q=>∃ a0,args=[a0]∧yF cg a0 M Q:=by
 intro M v xs Q hM hv hl hp hQ
 refine⟨_,rfl, ?_⟩
 unfold yF
 refine aP (fun m ys M1=>∃ i:Nat,m=xs.length - i∧ys=[N .i64 (i:Int)]∧i≤xs.length∧ae [] M M1∧(xs.drop i).all jJ=xs.all jJ) _
  ⟨0,rfl,rfl,Nat.zero_le _,ae.refl _ _,rfl⟩ ?_
 rintro next m ys M1 hnext ⟨i,rfl,rfl,hi,k1,he⟩
 dsimp only[ag]
 have hv1:=dQ.keep hv k1 (by simp)
 rw[dQ.len hv1,jQ]
 refine bg (fun h=>?_) (fun h=>?_)
 ·have h:i<xs.length:=of_decide_eq_true h
  have hm:=hp _ (List.getElem_mem h)
  rw[AQ hv1 h]
  rw[List.drop_eq_getElem_cons h,List.all_cons] at he
  refine hg (k1.base.trans hM) hm.1 hm.2 fun M2 k2=>?_
  rw[bP]
  refine bg (fun hb=>?_) (fun hb=>?_)
  ·have hb:jJ xs[i]=false:=by simpa using hb
   rw[hb,Bool.false_and] at he
   rw[← he] at hQ
   exact hQ _ (k1.trans k2)
  ·have hb:jJ xs[i]=true:=by simpa using hb
   rw[hb,Bool.true_and] at he
   rw[add1 (by omega)]
   exact hnext _ _ _ (by omega) ⟨i + 1,rfl,rfl,by omega,k1.trans k2,he⟩
 ·have h:¬ i<xs.length:=of_decide_eq_false h
  rw[List.drop_eq_nil_of_le (by omega)] at he
  rw[← he] at hQ
  exact hQ _ k1
theorem JF (ns:List Str) (n x:Str) : eu (ns++[n]) x=if x=n then eu ns n + 1 else eu ns x:=by
 unfold eu
 rw[List.countP_append,List.countP_singleton]
 by_cases h:x=n
 ·subst h; simp
 ·have h' : ¬ n=x:=fun e=>h e.symm
  rw[if_neg h,if_neg (by simpa using h')]; rfl
theorem OV (ns:List Str) (n:Str) : eu ns n≤ns.length:=List.countP_le_length
def QT (B:Base) (c:aj) : Prop:=∀ {M:RM} {v:AV} {xs:List Fd} {ct:Str} {k:Int} {Q:ai},M.base=B→Sl rM M v xs→xs.length≤1000000→(∀ p∈xs,p.1.length≤10000000∧p.2.length≤10000000) →
 (∀ M',ae [] M M'→Q (match kX xs with | some s=>.tup [St s,N .i64 0] | none=>.tup [St [],N .i64 1]) M')→c [.agg [St ct,v,N .i64 k]] M Q
theorem Ih {p:Fd} (h:(bR p).2.2=true) : jy (bR p).1 (bR p).2.1=(p,true):=by
 have e:(bR p).2.2=((Bl (if decide (p.1.take 4=gV) then p.1.drop 4 else p.1)).2.2 && (jy (bR p).1 (bR p).2.1).2 && decide ((jy (bR p).1 (bR p).2.1).1=p)):=rfl
 rw[e] at h
 obtain⟨h1,h2⟩:=(Bool.and_eq_true ..).mp h
 obtain⟨_,h3⟩:=(Bool.and_eq_true ..).mp h1
 exact Prod.ext (of_decide_eq_true h2) h3
theorem Fp {L:Ln} {k:Int} {p:Fd} (h:jy L k=(p,true)) : (gB bF L).2=0∧L.g≠gq∧xQ L.n=false∧0≤k∧p=(gQ (aT L).1 k,(aT L).2):=by
 unfold jy at h
 split at h
 ·rename_i hc
  injection h with h1 h2
  exact⟨hc.1,hc.2.1,hc.2.2.1,hc.2.2.2,h1.symm⟩
 ·injection h with h1 h2
  cases h2
theorem Lh {p:Fd} (h:jJ p=true) : (bR p).2.2=true∧p.1.length≤64∧p.2.length≤512:=by
 unfold jJ at h
 simp only[Bool.and_eq_true,decide_eq_true_eq] at h
 exact⟨h.1.1,h.1.2,h.2⟩
theorem Vj {B:Base} {TC TP TL:Nat} {cl cg cp cr:aj} (hl:KE B cl) (hg:FJ B cg) (hp:F6 B cp) (hr:GQ B (gB bF) cr) : QT B fun args M Q=>∃ a0,args=[a0]∧qG TC TP cl TL cg cp cr a0 M Q:=by
 intro M v xs ct k Q hM hv hlen hps hQ
 refine⟨_,rfl, ?_⟩
 unfold qG
 simp only[dS]
 have hall:([St ct,v,N .i64 k] : List AV).all oneCell=true:=by simp[fF,dQ.one hv]
 rw[iZ hall (by simp),aG]
 have k1:ae [] M (M.push (.row [St ct,v,N .i64 k] false TC 0)):=(ae.refl _ _).push _
 have h1:(M.push (.row [St ct,v,N .i64 k] false TC 0)).heap M.next=some (.row [St ct,v,N .i64 k] false TC 0):=RM.aS _
 have n1:(M.push (.row [St ct,v,N .i64 k] false TC 0)).next=M.next + 1:=bH _
 generalize M.push (.row [St ct,v,N .i64 k] false TC 0)=M1 at *
 rw[aG]
 have k2:ae [] M1 (M1.push (.map [] 0)):=(ae.refl _ _).push _
 have c2:=ll.new M1
 have n2:(M1.push (.map [] 0)).next=M1.next + 1:=bH _
 generalize M1.push (.map [] 0)=M2 at *
 have k02:=k1.trans k2
 have hv2:=dQ.keep hv k02 (by simp)
 rw[bi,az (k2.ax h1 (by omega) (by simp)) rfl,dQ.len hv2]
 refine aP (fun m ys M3=>∃ (i:Nat) (acc:Str) (ns:List Str),m=xs.length - i∧ys=[St acc,N .i64 (i:Int)]∧i≤xs.length∧ae [] M M3∧M1.next<M3.next∧ll M3 M1.next (eu ns)∧ns.length=i∧acc.length≤26 + 4000 * i∧qd (xs.drop i) ns acc=kX xs) _
  ⟨0,Dw,[],rfl,rfl,Nat.zero_le _,k02,by omega,c2,rfl,by simp,rfl⟩ ?_
 rintro next m ys M3 hnext ⟨i,acc,ns,rfl,rfl,hi,k3,n3,c3,hns,hacc,he⟩
 dsimp only[ag]
 have hv3:=dQ.keep hv k3 (by simp)
 have hM3:M3.base=B:=k3.base.trans hM
 rw[jQ]
 refine bg (fun h=>?_) (fun h=>?_)
 ·have h:i<xs.length:=of_decide_eq_true h
  have hm:=hps _ (List.getElem_mem h)
  rw[AQ hv3 h,aG]
  rw[List.drop_eq_getElem_cons h,qd] at he
  generalize xs[i]=p at *
  refine zv (b:=0) 2 rfl rfl _ rfl rfl rfl fun M4 k4 n4 h4=>?_
  rw[aO (n:=2) h4 rfl]
  refine hl (p:=p) (k4.base.trans hM3) hm.1 hm.2 fun M5 cs k5 hrel=>?_
  rw[bI,bJ,jf,aG]
  obtain⟨w,rfl,hw,ZN,_⟩:=zU hrel
  refine zv (b:=0) 5 rfl rfl _ rfl ZN rfl fun M6 k6 n6 h6=>?_
  have n5:=k5.next
  have k46:=k5.trans k6
  have h46:=k46.ax h4 (by omega) (by simp)
  have k36:ae [] M3 M6:=k4.trans k46
  have c6:ll M6 M1.next (eu ns):=c3.keep k36 (by simp)
  have hw6:=hw.keep k6 (by simp)
  rw[bP]
  refine Rq (P:=fun M'=>ae [] M6 M') (p:=!jJ p) (ae.refl _ _) (fun hc kk hk=>?_) fun M7 k7=>?_
  ·rw[aO (n:=2) h46 rfl]
   refine hg (p:=p) (k36.base.trans hM3) hm.1 hm.2 fun M7 k7=>?_
   rw[bP]
   exact hk _ k7
  refine bg (fun hb=>?_) (fun hb=>?_)
  ·have hb:jJ p=false:=by
    simp only[Bool.or_eq_true,Bool.not_eq_true'] at hb
    rcases hb with hb | hb
    ·unfold jJ; rw[hb]; rfl
    ·exact hb
   rw[if_pos hb] at he
   rw[← he] at hQ
   exact hQ _ ((k3.trans k36).trans k7)
  ·simp only[Bool.or_eq_false_iff,Bool.not_eq_false'] at hb
   have hgd:=hb.2
   rw[if_neg (by rw[hgd]; simp)] at he
   have hfo:=Fp (Ih hb.1)
   have hpr:=nU hfo.1
   have hsz:=OT hpr.2.1
   have hLB:LB 1000000 (bR p).1:=(hsz.mono (by omega)).lb
   have Qd:=hsz.YD
   generalize bR p=lf at *
   obtain⟨L,j,ok⟩:=lf
   dsimp only at *
   have h67:=k7.ax h6 (by omega) (by simp)
   have k37:=k36.trans k7
   have n7:=k7.next
   rw[aO (n:=5) h67 rfl]
   refine hp (k37.base.trans hM3) (kQ (hw6.keep k7 (by simp))) hLB (by omega) fun M8 k8=>?_
   have c8:=(c6.keep k7 (by simp)).keep k8 (by simp)
   have n8:=k8.next
   rw[mJ,Tp]
   refine⟨St (aT L).1,rfl, ?_⟩
   refine c8.look ?_
   rw[dM]
   refine bg (fun hb=>?_) (fun hb=>?_)
   ·have hb:(eu ns (aT L).1:Int)≠j:=by simpa using hb
    rw[if_pos hb] at he
    rw[← he] at hQ
    exact hQ _ ((k3.trans k37).trans k8)
   ·have hb:(eu ns (aT L).1:Int)=j:=by simpa using hb
    rw[if_neg (fun h=>h hb)] at he
    refine c8.look ?_
    have hcl:=OV ns (aT L).1
    rw[add1 (by omega)]
    refine c8.upd fun M9 c9 k9 n9=>?_
    have k09:ae [] M M9:=((k3.trans k37).trans k8).fI k9 fun c hc=>.inl (by simp at hc; have:=k1.next; omega)
    have c9' : ll M9 M1.next (eu (ns++[(aT L).1])):=by
     have:eu (ns++[(aT L).1])=fun x=>if x=(aT L).1 then eu ns (aT L).1 + 1 else eu ns x:=funext fun x=>JF ns _ x
     rw[this]; exact c9
    have h69:=k9.ax (k8.ax h67 (by omega) (by simp)) (by omega) (by simp; omega)
    rw[aO (n:=5) h69 rfl]
    have hw9:bE jl M9 w L.ps (fun b=>M4.next≤b):=((hw6.keep k7 (by simp)).keep k8 (by simp)).keep k9 fun b hb h=>by simp at hb; omega
    refine hr (k09.base.trans hM) (kQ hw9) (Lc hLB) (by omega) fun Ma ka=>?_
    have na:=ka.next
    rw[bI,bJ,hfo.1,aaQ,dI,bM]
    have hfl:=Rl (ek L)
    have hpl:(gB bF L).1.length≤4000:=by rw[hpr.2.2]; simp; omega
    refine⟨by omega, ?_⟩
    rw[add1 (by omega)]
    exact hnext _ _ _ (by omega) ⟨i + 1,_,ns++[(aT L).1],rfl,rfl,by omega,k09.trans ka,by omega,c9'.keep ka (by simp),by simp[hns],by simp; omega,he⟩
 ·have h:¬ i<xs.length:=of_decide_eq_false h
  rw[List.drop_eq_nil_of_le (by omega),qd] at he
  rw[← he] at hQ
  rw[bM]
  refine⟨by simp; omega, ?_⟩
  exact hQ _ k3
abbrev Li:=Ln × Int
theorem wS {M:RM} {v:AV} {ls:List Li} {S:Nat→Prop} (h:bE iO M v ls S) {i:Nat} (hi:i<ls.length) :
  ∃ w,bE jl M w ls[i].1.ps S∧(∀ K:AV→Prop,(aX v (N .i64 (i:Int)) 5 fun p=>aH M p 5 K)=K (.agg [St ls[i].1.g,St ls[i].1.n,w,St ls[i].1.v,N .i64 ls[i].2])) ∧
    (∀ K:AV→Prop,(aX v (N .i64 (i:Int)) 5 fun p=>aF p 0 fun q=>ak M q K)=K (St ls[i].1.g)) ∧
    (∀ K:AV→Prop,(aX v (N .i64 (i:Int)) 5 fun p=>aF p 1 fun q=>ak M q K)=K (St ls[i].1.n)) ∧
    (∀ K:AV→Prop,(aX v (N .i64 (i:Int)) 5 fun p=>aF p 3 fun q=>ak M q K)=K (St ls[i].1.v)) ∧
    (∀ K:AV→Prop,(aX v (N .i64 (i:Int)) 5 fun p=>aF p 4 fun q=>ak M q K)=K (N .i64 ls[i].2)):=by
 obtain⟨b,o,cs,hb,hbm,hidx,hld,w,rfl,hw⟩:=bE.at h 5 (i:Int) hi
 have c0:M.cell b (o + 0)=some (St ls[i].1.g):=gW hld (j:=0) rfl
 have c1:M.cell b (o + 1)=some (St ls[i].1.n):=gW hld (j:=1) rfl
 have c3:M.cell b (o + 3)=some (St ls[i].1.v):=gW hld (j:=3) rfl
 have c4:M.cell b (o + 4)=some (N .i64 ls[i].2):=gW hld (j:=4) rfl
 refine⟨w,hw,fun K=>?_,fun K=>?_,fun K=>?_,fun K=>?_,fun K=>?_⟩
 ·rw[hidx,rO,hld]; simp
 ·rw[hidx,ja,eZ,c0]; simp
 ·rw[hidx,ja,eZ,c1]; simp
 ·rw[hidx,ja,eZ,c3]; simp
 ·rw[hidx,ja,eZ,c4]; simp
theorem qQ {b:Int} : ∀ (l acc c r:List Li),dJ b l acc=.ok (c,r)→r.length + 1≤l.length
 | [],_,_,_,h=>by cases h
 | x :: l,acc,c,r,h=>by
   rw[dJ] at h
   split at h
   ·cases h; simp
   ·split at h
    ·cases h
    ·have:=qQ l _ c r h; simp; omega
theorem fO (k:Nat) (x:Li) (r:List Li) (acc:List (List Li)) : iL (k + 1) (x :: r) acc=if fH x.1 rT=false then .error x.2 else match r with
  | []=>.error x.2
  | y :: r=>if fH y.1 iE=false then .error y.2 else match dJ x.2 r [x] with
    | .error e=>.error e
    | .ok (c,r')=>iL k r' (acc++[c]):=by cases r <;> rfl
theorem xB:∀ (n:Nat) (l:List Li) (acc:List (List Li)) (k k' : Nat),l.length≤n→l.length<k→l.length<k'→iL k l acc=iL k' l acc
 | n,l,acc,k,k',hn,h1,h2=>by
   obtain⟨i,rfl⟩ : ∃ i,k=i + 1:=⟨k - 1,by omega⟩
   obtain⟨j,rfl⟩ : ∃ j,k'=j + 1:=⟨k' - 1,by omega⟩
   cases l with
   | nil=>rfl
   | cons x r =>
     rw[fO,fO]
     split
     ·rfl
     ·cases r with
      | nil=>rfl
      | cons y r =>
        dsimp only
        split
        ·rfl
        ·cases hb:dJ x.2 r [x] with
         | error e=>rfl
         | ok p =>
           obtain⟨c,r'⟩:=p
           have:=qQ _ _ _ _ hb
           simp only[List.length_cons] at hn h1 h2
           dsimp only
           cases n with
           | zero=>omega
           | succ n=>exact xB n r' _ i j (by omega) (by omega) (by omega)
def oP {α:Type} (R:kg α) (M:RM) (base T:Nat) (v:AV) (xs:List α) (S:Nat→Prop) : Prop :=
 fe R M base T v xs S∨∃ b cs,v=.slc b 0 xs.length (.ex xs.length)∧base≤b∧b<M.next∧M.heap b=some (.row cs false T 0)∧dL R M S cs xs
section
variable {α:Type} {R:kg α} {M M' : RM} {base T:Nat} {v:AV} {xs:List α} {S S' : Nat→Prop} {a:α} {cs:List AV}
theorem oP.blk (h:oP R M base T v xs S) : ∀ b∈aC v,base≤b∧b<M.next:=by
 rcases h with h | ⟨b,cs,rfl,h1,h2,_⟩
 ·exact h.blk
 ·intro c hc; simp[aC] at hc; subst hc; exact⟨h1,h2⟩
theorem oP.keep {bs:List Nat} (h:oP R M base T v xs S) (hk:ae bs M M') (hb:∀ b∈bs,¬ S b) (hv:∀ b∈aC v,b ∉ bs) : oP R M' base T v xs S:=by
 rcases h with h | ⟨b,cs,rfl,h1,h2,h3,h4⟩
 ·exact .inl (h.keep hk hb hv)
 ·exact .inr ⟨b,cs,rfl,h1,Nat.lt_of_lt_of_le h2 hk.next,hk.ax h3 h2 (hv b (by simp[aC])),h4.keep hk hb⟩
theorem oP.mono (h:oP R M base T v xs S) (hs:∀ b,S b→S' b) : oP R M base T v xs S':=by
 rcases h with h | ⟨b,cs,rfl,h1,h2,h3,h4⟩
 ·exact .inl (h.mono hs)
 ·exact .inr ⟨b,cs,rfl,h1,h2,h3,h4.mono hs⟩
theorem oP.Ev (h:oP R M base T v xs S) (hs:∀ b,base≤b→b<M.next→S b) : bE R M v xs S:=by
 rcases h with h | ⟨b,cs,rfl,h1,h2,h3,h4⟩
 ·exact h.Ev hs
 ·refine⟨cs,.slc _ _ _ _ _ h2 ?_,fun c hc=>by simp[aC] at hc; subst hc; exact hs _ h1 h2,h4⟩
  rw[RM.lH h3 (by rw[h4.len]; omega),List.drop_zero,← h4.len,List.take_length]
theorem oP.one (h:oP R M base T v xs S) : oneCell v=true:=by
 rcases h with h | ⟨b,cs,rfl,_⟩
 ·exact h.one
 ·rfl
theorem oP.app {bytes:Nat} {zs:List AV} {K:ai} (ho:oP R M base T v xs S) (ha:R.rel M cs a S) (hb:base≤M.next) (hs:1≤R.size)
  (hd:∀ b∈aC v,¬ S b) (hS:∀ b,S b→b<M.next) (hn:(xs.length + 1) * bytes≤140737488355328) (hn2:xs.length + 1≤140737488355328)
  (hK:∀ v' M',oP R M' base T v' (xs++[a]) S→ae (aC v) M M'→M.next≤M'.next→(∀ b∈aC v',¬ S b)→K v' M') :
  appW T R.size bytes zs false v (.slc M.next 0 1 (.ex 1)) (M.push (.row cs false T 0)) K:=by
 rcases ho with ho | ⟨b,ds,rfl,h1,h2,h3,h4⟩
 ·exact ho.app ha hb hs hd hS hn hn2 fun v' M' h1 h2 h3 _ h5=>hK v' M' (.inl h1) h2 h3 h5
 ·have hk:ae [] M (M.push (.row cs false T 0)):=(ae.refl _ _).push _
  have hl:=R.len ha
  have hl4:=h4.len
  have hnl:nR (M.push (.row cs false T 0)) R.size zs false (.slc M.next 0 1 (.ex 1))=some (1,cs):=by
   simp only[nR,Nat.one_mul]
   rw[RM.lH (RM.aS _) (by omega),List.drop_zero,← hl,List.take_length]
  have hld:(M.push (.row cs false T 0)).loads b 0 (xs.length * R.size)=some ds:=by
   rw[RM.lH (uS h3 h2) (by omega),List.drop_zero,← hl4,List.take_length]
  have hone:(ds++cs).all oneCell=true:=by rw[List.all_append,h4.one,R.one ha]; rfl
  have hb1:1 * bytes≤140737488355328:=Nat.le_trans (Nat.mul_le_mul_right _ (by omega)) hn
  refine⟨1,cs,hnl,hb1,by omega, ?_⟩
  refine⟨.slc (M.next + 1) 0 (xs.length + 1) (.op R.size),(M.push (.row cs false T 0)).push (.row (ds++cs) true T 0), ?_,hK _ _ (.inl ⟨ds++cs, ?_, ?_⟩) ((hk.mono (by simp)).trans ((ae.refl _ _).push _)) (by simp[RM.push]; omega) ?_⟩
  ·simp only[tq,if_neg (show ¬ (1=0) by decide),if_neg (show ¬ xs.length + 1≤xs.length by omega),hld]
   rw[if_pos ⟨by omega,by omega,hone⟩]; rfl
  ·rw[List.length_append,List.length_singleton]
   exact .op _ _ _ (by show base≤M.next + 1; omega) (by simp[RM.push]) (RM.aS _) (by rw[List.length_append,hl4,hl,Nat.add_mul,Nat.one_mul])
  ·exact((h4.keep hk (by simp)).keep (bs:=[]) ((ae.refl _ _).push _) (by simp)).append (dL.single ((R.keep ha hk (by simp)) |> fun h=>R.keep h (bs:=[]) ((ae.refl _ _).push _) (by simp)))
  ·intro c hc h
   simp[aC] at hc
   have:=hS c h; omega
end
def MS (size:Nat) : AV→Prop
 | .slc _ _ n (.ex c)=>n≤c
 | .slc _ _ _ (.op e)=>e=size
 | _=>True
theorem fe.Wi {α:Type} {R:kg α} {M:RM} {base T:Nat} {v:AV} {xs:List α} {S:Nat→Prop} (h:fe R M base T v xs S) : MS R.size v:=by
 obtain⟨cs,h,_⟩:=h
 generalize xs.length=n at h
 cases h with
 | nil=>trivial
 | ex0=>exact Nat.le_refl 0
 | op=>rfl
theorem oP.Wi {α:Type} {R:kg α} {M:RM} {base T:Nat} {v:AV} {xs:List α} {S:Nat→Prop} (h:oP R M base T v xs S) : MS R.size v:=by
 rcases h with h | ⟨b,cs,rfl,_⟩
 ·exact fe.Wi h
 ·exact Nat.le_refl _
def KG:kg (List Li) where
 size:=1
 rel M cs xs S:=∃ v,cs=[v]∧bE iO M v xs S∧MS 5 v
 len h:=by obtain⟨v,rfl,_⟩:=h; rfl
 one h:=by obtain⟨v,rfl,h,_⟩:=h; simp[h.one]
 mono h hs:=by obtain⟨v,rfl,h,hc⟩:=h; exact⟨v,rfl,h.mono hs,hc⟩
 lt h:=by obtain⟨v,rfl,h,hc⟩:=h; exact⟨v,rfl,h.lt,hc⟩
 keep h hk hb:=by obtain⟨v,rfl,h,hc⟩:=h; exact⟨v,rfl,h.keep hk hb,hc⟩
def su (ls:List Li) : Except Int (List (List Li)):=iL (ls.length + 1) ls []
theorem SA (x:Li) (r:List Li) (acc:List (List Li)) (he:fH x.1 rT=true) (hv:∀ y r',r=y :: r'→fH y.1 iE=true) :
  iL ((x :: r).length + 1) (x :: r) acc=match dJ x.2 (r.drop 1) [x] with | .error e=>.error e | .ok (c,r')=>iL (r'.length + 1) r' (acc++[c]):=by
 rw[fO,if_neg (by rw[he]; simp)]
 cases r with
 | nil=>rfl
 | cons y r =>
   dsimp only
   rw[if_neg (by rw[hv y r rfl]; simp),List.drop_one,List.tail_cons]
   cases hb:dJ x.2 r [x] with
   | error e=>rfl
   | ok p =>
     obtain⟨c,r'⟩:=p
     have:=qQ _ _ _ _ hb
     exact xB r'.length r' _ _ _ (Nat.le_refl _) (by simp; omega) (by omega)
def yC (B:Base) (c:aj) : Prop:=∀ {M:RM} {v:AV} {ls:List Li} {S:Nat→Prop} {Q:ai},M.base=B→bE iO M v ls S→ls.length≤200000→(∀ x∈ls,LB 1000000 x.1) →
 (∀ M' w css,ae [] M M'→su ls=.ok css→bE KG M' w css (fun b=>M.next≤b∨S b)→css.length≤ls.length→Q (.tup [w,N .i64 0]) M') →
 (∀ M' k,ae [] M M'→su ls=.error k→Q (.tup [aB,N .i64 k]) M')→c [v] M Q
theorem EX {B:Base} {TL TS:Nat} {ce cr:aj} (he:Nn B ce) (hr:KF cr) : yC B fun args M Q=>∃ a0,args=[a0]∧yG TL ce cr TS a0 M Q:=by
 intro M v ls S Q hM hv0 hlen hLB hO hE
 refine⟨_,rfl, ?_⟩
 unfold yG
 simp only[dS]
 have hv:=hv0.lt
 refine aP (fun m ys M1=>∃ (i:Nat) (w:AV) (acc:List (List Li)),m=ls.length - i∧ys=[w,N .i64 (i:Int)]∧i≤ls.length∧acc.length≤i∧ae [] M M1 ∧
   fe KG M1 M.next TS w acc (fun b=>((M.next≤b∧b ∉ aC w)∨(S b∧b<M.next))∧b<M1.next)∧iL ((ls.drop i).length + 1) (ls.drop i) acc=su ls) _
  ⟨0,aB,[],rfl,rfl,Nat.zero_le _,Nat.le_refl _,ae.refl _ _,.nil,rfl⟩ ?_
 rintro next m ys M1 hnext ⟨i,w,acc,rfl,rfl,hi,hacc,k1,ho,hp⟩
 dsimp only[ag]
 have hM1:M1.base=B:=k1.base.trans hM
 have hv1:=hv.keep k1 (by simp)
 have hwb:=ho.blk
 rw[hv1.len,jQ]
 refine bg (fun h=>?_) (fun h=>?_)
 rotate_left 1
 ·have h:¬ i<ls.length:=of_decide_eq_false h
  rw[List.drop_eq_nil_of_le (by omega)] at hp
  refine hO M1 w acc k1 hp.symm ?_ (by omega)
  exact(ho.mono (fun b h=>(h.1.imp And.left And.left:M.next≤b∨S b))).Ev fun b hb _=>.inl hb
 have h:i<ls.length:=of_decide_eq_true h
 obtain⟨pw,hpw,hq,_,_,_,hq4⟩:=wS hv1 h
 have hL:=hLB _ (List.getElem_mem h)
 rw[hq,aG]
 rw[List.drop_eq_getElem_cons h] at hp
 generalize hx:ls[i]=x at *
 have hall:([St x.1.g,St x.1.n,pw,St x.1.v,N .i64 x.2] : List AV).all oneCell=true:=by simp[fF,hpw.one]
 refine zv (b:=0) 5 rfl rfl _ rfl hall rfl fun M2 k2 n2 h2=>?_
 rw[aO (n:=5) h2 rfl]
 have n1:=k1.next
 refine he (k2.base.trans hM1) (kQ (k:=x.2) (hpw.keep k2 (by simp))) (Lc hL) fun M3 k3=>?_
 have h3:=k3.ax h2 (by omega) (by simp)
 have n3:=k3.next
 rw[bP]
 refine bg (fun hb=>?_) (fun hb=>?_)
 ·have hb:fH x.1 rT=false:=by simpa using hb
  rw[fO,if_pos hb] at hp
  rw[bi,az h3 rfl]
  exact hE _ _ ((k1.trans k2).trans k3) hp.symm
 have hb:fH x.1 rT=true:=by simpa using hb
 have k13:=k2.trans k3
 rw[aO (n:=5) h3 rfl,kE (x:=.agg [St x.1.g,St x.1.n,pw,St x.1.v,N .i64 x.2]) (size:=5) rfl hall rfl,aG]
 -- the row of the card begun
 have k4:ae [] M3 (M3.push (.row (AV.agg [St x.1.g,St x.1.n,pw,St x.1.v,N .i64 x.2]).cells false TL 0)):=(ae.refl _ _).push _
 have o4:oP iO (M3.push (.row (AV.agg [St x.1.g,St x.1.n,pw,St x.1.v,N .i64 x.2]).cells false TL 0)) M3.next TL (.slc M3.next 0 1 (.ex 1)) [x] (fun b=>S b∧b<M.next) :=
  .inr ⟨M3.next,_,rfl,Nat.le_refl _,Nat.lt_succ_self _,RM.aS _,dL.single (R:=iO) ⟨pw,rfl,(hpw.keep k13 (by simp)).keep k4 (by simp)⟩⟩
 have n4:(M3.push (.row (AV.agg [St x.1.g,St x.1.n,pw,St x.1.v,N .i64 x.2]).cells false TL 0)).next=M3.next + 1:=rfl
 generalize M3.push (.row (AV.agg [St x.1.g,St x.1.n,pw,St x.1.v,N .i64 x.2]).cells false TL 0)=M4 at *
 have k14:ae [] M1 M4:=k13.trans k4
 have h4:=k4.ax h3 (by omega) (by simp)
 have hv4:=hv1.keep k14 (by simp)
 rw[add1 (by omega),hv4.len,jQ]
 refine P8 (P:=fun M'=>ae [] M4 M') (p:=!(ls[i+1]?.map fun y=>fH y.1 iE).getD true) (ae.refl _ _) (fun hc kk hk=>?_) fun M5 k5=>?_
 ·have hc:i + 1<ls.length:=of_decide_eq_true hc
  obtain⟨pw2,IA,hq2,_⟩:=wS hv4 hc
  rw[hq2]
  refine he (k14.base.trans hM1) (kQ (k:=ls[i+1].2) IA) (Lc (hLB _ (List.getElem_mem hc))) fun M5 k5=>?_
  rw[bP]
  refine hk M5 k5 |> fun h=>?_
  rw[List.getElem?_eq_getElem hc] at h
  exact h
 have n5:=k5.next
 have k15:=k14.trans k5
 have hv5:=hv1.keep k15 (by simp)
 refine bg (fun hc=>?_) (fun hc=>?_)
 ·simp only[Bool.and_eq_true] at hc
  obtain⟨hc1,hc2⟩:=hc
  have hc1:i + 1<ls.length:=of_decide_eq_true hc1
  rw[List.getElem?_eq_getElem hc1] at hc2
  have hc2:fH ls[i+1].1 iE=false:=by simpa using hc2
  obtain⟨_,_,_,_,_,_,Vu⟩:=wS hv5 hc1
  rw[Vu]
  rw[List.drop_eq_getElem_cons hc1,fO,if_neg (by rw[hb]; simp)] at hp
  dsimp only at hp
  rw[if_pos hc2] at hp
  exact hE _ _ (k1.trans k15) hp.symm
 have abS:∀ y r',ls.drop (i + 1)=y :: r'→fH y.1 iE=true:=by
  intro y r' hy
  have hlt:i + 1<ls.length:=by
   rcases Nat.lt_or_ge (i + 1) ls.length with h | h
   ·exact h
   ·rw[List.drop_eq_nil_of_le h] at hy; cases hy
  rw[List.drop_eq_getElem_cons hlt] at hy
  cases hy
  rw[List.getElem?_eq_getElem hlt,decide_eq_true hlt,Bool.true_and] at hc
  simpa using hc
 rw[SA x _ acc hb abS,List.drop_drop] at hp
 rw[show i + 1 + 1=i + 2 by omega] at hp
 rw[add1 (by omega)]
 -- the lines of the card
 generalize hR:dJ x.2 (ls.drop (i + 2)) [x]=R at *
 have o5:=o4.keep k5 (by simp) (by simp)
 have h5:=k5.ax h4 (by omega) (by simp)
 have ho5:=ho.keep k15 (by simp) (by simp)
 refine aP (fun m zs M6=>∃ (j:Nat) (c:AV) (CR:List Li),m=ls.length + 1 - j∧zs=[w,N .i64 (j:Int),c]∧i + 2≤j∧j≤ls.length + 1∧CR.length≤j∧ae [] M1 M6∧M4.next≤M6.next ∧
   M6.heap M1.next=some (.row [St x.1.g,St x.1.n,pw,St x.1.v,N .i64 x.2] false TL 0)∧oP iO M6 M3.next TL c CR (fun b=>S b∧b<M.next)∧dJ x.2 (ls.drop j) CR=R) _
  ⟨i + 2,_,[x],rfl,rfl,Nat.le_refl _,by omega,by simp,k15,by omega,h5,o5,hR⟩ ?_
 rintro Dr m zs M6 mg ⟨j,c,CR,rfl,rfl,hj1,hj2,hcl,k6,n6,h6,oc,hp2⟩
 dsimp only[ag]
 have hv6:=hv1.keep k6 (by simp)
 have hM6:M6.base=B:=k6.base.trans hM1
 rw[hv6.len,jQ]
 refine P8 (P:=fun M'=>ae [] M6 M') (p:=!(ls[j]?.map fun y=>fH y.1 CW).getD true) (ae.refl _ _) (fun hc kk hk=>?_) fun M7 k7=>?_
 ·have hc:j<ls.length:=of_decide_eq_true hc
  obtain⟨pw2,IA,hq2,_⟩:=wS hv6 hc
  rw[hq2]
  refine he hM6 (kQ (k:=ls[j].2) IA) (Lc (hLB _ (List.getElem_mem hc))) fun M7 k7=>?_
  rw[bP]
  refine hk M7 k7 |> fun h=>?_
  rw[List.getElem?_eq_getElem hc] at h
  exact h
 have n7:=k7.next
 have k17:=k6.trans k7
 have hv7:=hv1.keep k17 (by simp)
 have oc7:=oc.keep k7 (by simp) (by simp)
 have hcb:=oc7.blk
 have h7:=k7.ax h6 (by omega) (by simp)
 refine bg (fun hc=>?_) (fun hc=>?_)
 ·simp only[Bool.and_eq_true] at hc
  obtain⟨hc1,hc2⟩:=hc
  have hc1:j<ls.length:=of_decide_eq_true hc1
  rw[List.getElem?_eq_getElem hc1] at hc2
  have hc2:fH ls[j].1 CW=false:=by simpa using hc2
  obtain⟨pw2,IA,hq2,abH,abL,_,Vu⟩:=wS hv7 hc1
  rw[List.drop_eq_getElem_cons hc1,dJ,if_neg (by rw[hc2]; simp)] at hp2
  have hLj:=hLB _ (List.getElem_mem hc1)
  rw[abL]
  generalize hy:ls[j]=y at *
  refine hr ?_
  refine qo (p:=y.1.g == gq) (fun hc kk hk=>?_) ?_
  ·rw[abH,gP]; exact hk
  have eg:(y.1.g == gq)=decide (y.1.g=gq):=by by_cases h:y.1.g=gq <;> simp[h]
  rw[eg]
  refine bg (fun hd=>?_) (fun hd=>?_)
  ·rw[if_pos hd] at hp2
   rw[Vu]
   rw[← hp2] at hp
   exact hE _ _ (k1.trans k17) hp.symm
  ·rw[if_neg (by rw[hd]; simp)] at hp2
   rw[hq2,kE (x:=.agg [St y.1.g,St y.1.n,pw2,St y.1.v,N .i64 y.2]) (size:=5) rfl (by show([St y.1.g,St y.1.n,pw2,St y.1.v,N .i64 y.2] : List AV).all oneCell=true; simp[fF,IA.one]) rfl,aG]
   refine oP.app (R:=iO) (a:=y) oc7 ⟨pw2,rfl,IA⟩ (by omega) (by decide) (fun b hb h=>by have:=(hcb b hb).1; omega) (fun b h=>by omega) (by omega) (by omega) ?_
   intro c' M8 o8 k8 n8 _
   rw[add1 (by omega)]
   have k18:ae [] M1 M8:=k17.fI k8 fun d hd=>.inl (by have:=(hcb d hd).1; omega)
   exact mg _ _ _ (by omega) ⟨j + 1,c',CR++[y],rfl,rfl,by omega,by omega,by simp; omega,k18,by omega,k8.ax h7 (by omega) (fun h=>by have:=(hcb _ h).1; omega),o8,hp2⟩
 ·rw[hv7.len,fK]
  refine bg (fun hd=>?_) (fun hd=>?_)
  ·have hd:ls.length≤j:=by have:=of_decide_eq_true hd; omega
   rw[List.drop_eq_nil_of_le hd,dJ] at hp2
   rw[← hp2] at hp
   rw[bi,az h7 rfl]
   exact hE _ _ (k1.trans k17) hp.symm
  ·have hd:j<ls.length:=by have:=of_decide_eq_false hd; omega
   rw[List.getElem?_eq_getElem hd,decide_eq_true hd,Bool.true_and] at hc
   have hc:fH ls[j].1 CW=true:=by simpa using hc
   rw[List.drop_eq_getElem_cons hd,dJ,if_pos hc] at hp2
   rw[← hp2] at hp
   dsimp only at hp
   let S' : Nat→Prop:=fun b=>((M.next≤b∧b ∉ aC w)∨(S b∧b<M.next))∧b<M7.next
   have ho7:fe KG M7 M.next TS w acc S':=(ho.keep k17 (by simp) (by simp)).mono fun b hb=>⟨hb.1,by omega⟩
   have hcs:bE iO M7 c CR S':=(oc7.mono (S':=S') fun b hb=>⟨.inr hb,by omega⟩).Ev fun b h1 h2=>⟨.inl ⟨by omega,fun hb=>by have:=(hwb b hb).2; omega⟩,h2⟩
   rw[kE (x:=c) (size:=1) (by rw[hcs.cells]; rfl) (by rw[hcs.cells]; simp[hcs.one]) rfl,aG,hcs.cells]
   refine fe.app (R:=KG) (a:=CR) ho7 ⟨c,rfl,hcs,oc7.Wi⟩ (by omega) (by decide) (fun b hb h=>?_) (fun b h=>h.2) (by omega) (by omega) ?_
   ·rcases h.1 with h | h
    ·exact h.2 hb
    ·have:=(hwb b hb).1; omega
   intro w' M8 o8 k8 n8 _ hd8
   rw[add1 (by omega)]
   refine hnext _ _ _ (by omega) ⟨j + 1,w',acc++[CR],rfl,rfl,by omega,by simp; omega,(k1.trans k17).fI k8 fun d hd=>.inl (hwb d hd).1, ?_,hp⟩
   refine o8.mono fun b hb=>⟨?_,by have:=hb.2; omega⟩
   rcases hb.1 with h | h
   ·exact .inl ⟨h.1,fun hbw=>hd8 b hbw hb⟩
   ·exact .inr h
end Go.Ab.Vc
set_option maxRecDepth 100000
namespace Go.Ab.Sha
open Go Go.Ab
def Cw (p1:Nat) (p2:aj) (p3:Nat) (p4:aj) (p5:Nat) (p6 p7:aj) (p8:Nat) (a0:AV) (M0:RM) (Q:ai) : Prop:=aZ (.row [(N .u8 0),(N .u8 0),(N .u8 0),(N .u8 0),(N .u8 0),(N .u8 0),(N .u8 0),(N .u8 0),(N .u8 0),(N .u8 0),(N .u8 0),(N .u8 0),(N .u8 0),(N .u8 0),(N .u8 0),(N .u8 0),(N .u8 0),(N .u8 0),(N .u8 0),(N .u8 0),(N .u8 0),(N .u8 0),(N .u8 0),(N .u8 0),(N .u8 0),(N .u8 0),(N .u8 0),(N .u8 0),(N .u8 0),(N .u8 0),(N .u8 0),(N .u8 0)] false p1 0) (fun c=>.ptr c 0) M0 fun u v=>p2 [] v fun vf w=>aZ (.row [(N .u32 0),(N .u32 0),(N .u32 0),(N .u32 0),(N .u32 0),(N .u32 0),(N .u32 0),(N .u32 0),(N .u32 0),(N .u32 0),(N .u32 0),(N .u32 0),(N .u32 0),(N .u32 0),(N .u32 0),(N .u32 0),(N .u32 0),(N .u32 0),(N .u32 0),(N .u32 0),(N .u32 0),(N .u32 0),(N .u32 0),(N .u32 0),(N .u32 0),(N .u32 0),(N .u32 0),(N .u32 0),(N .u32 0),(N .u32 0),(N .u32 0),(N .u32 0),(N .u32 0),(N .u32 0),(N .u32 0),(N .u32 0),(N .u32 0),(N .u32 0),(N .u32 0),(N .u32 0),(N .u32 0),(N .u32 0),(N .u32 0),(N .u32 0),(N .u32 0),(N .u32 0),(N .u32 0),(N .u32 0),(N .u32 0),(N .u32 0),(N .u32 0),(N .u32 0),(N .u32 0),(N .u32 0),(N .u32 0),(N .u32 0),(N .u32 0),(N .u32 0),(N .u32 0),(N .u32 0),(N .u32 0),(N .u32 0),(N .u32 0),(N .u32 0)] false p3 0) (fun c=>.ptr c 0) w fun l x=>aA x l vf 64 fun B=>p4 [] B fun vg G=>aZ (.row [(N .u32 0),(N .u32 0),(N .u32 0),(N .u32 0),(N .u32 0),(N .u32 0),(N .u32 0),(N .u32 0)] false p5 0) (fun c=>.ptr c 0) G fun h I=>aA I h vg 8 fun L=>bZ a0 fun vh=>af .quo vh (N .i64 64) fun vi=>af .mul vi (N .i64 64) fun t=>bA (fun W i r=>af .lss (ag i 0) t fun vj=>au vj ( af .add (ag i 0) (N .i64 64) fun vl=>bO (kT 1 a0 (some (ag i 0)) (some vl) none) fun vm=>p6 [h,vm,l] r fun wo O=>af .add (ag i 0) (N .i64 64) fun vk=>W [vk] O) ( bO (kT 1 a0 (some t) none none) fun vn=>p7 [vn] r fun vo P=>eO p8 1 [(N .u8 0)] [(0,1,(N .u8 128))] fun vb S=>aZ vb S P fun vp R=>appW p8 1 1 [(N .u8 0)] false vo vp R fun vq y=>bA (fun X m n=>bZ (ag m 0) fun vr=>af .rem vr (N .i64 64) fun vs=>af .neq vs (N .i64 56) fun vt=>au vt ( eO p8 1 [(N .u8 0)] [(0,1,(N .u8 0))] fun vc U=>aZ vc U n fun vu z=>appW p8 1 1 [(N .u8 0)] false (ag m 0) vu z fun vv A=>X [vv] A) ( bA (fun Y d o=>af .lss (ag d 1) (N .i64 8) fun vw=>au vw ( bZ a0 fun vx=>pR .u64 vx fun vy=>af .mul vy (N .u64 8) fun vz=>af .mul (N .i64 8) (ag d 1) fun v0=>af .sub (N .i64 56) v0 fun v1=>qi .shr vz v1 fun v2=>pR .u8 v2 fun v3=>eO p8 1 [(N .u8 0)] [(0,1,v3)] fun vd V=>aZ vd V o fun v4 C=>appW p8 1 1 [(N .u8 0)] false (ag d 0) v4 C fun v5 D=>af .add (ag d 1) (N .i64 1) fun v6=>Y [v5,v6] D) ( bA (fun Z j p=>bZ (ag d 0) fun v7=>af .lss (ag j 0) v7 fun v8=>au v8 ( af .add (ag j 0) (N .i64 64) fun wa=>bO (kT 1 (ag d 0) (some (ag j 0)) (some wa) none) fun wb=>p6 [h,wb,l] p fun wp E=>af .add (ag j 0) (N .i64 64) fun v9=>Z [v9] E) ( aZ (.row [(N .u8 0),(N .u8 0),(N .u8 0),(N .u8 0),(N .u8 0),(N .u8 0),(N .u8 0),(N .u8 0),(N .u8 0),(N .u8 0),(N .u8 0),(N .u8 0),(N .u8 0),(N .u8 0),(N .u8 0),(N .u8 0),(N .u8 0),(N .u8 0),(N .u8 0),(N .u8 0),(N .u8 0),(N .u8 0),(N .u8 0),(N .u8 0),(N .u8 0),(N .u8 0),(N .u8 0),(N .u8 0),(N .u8 0),(N .u8 0),(N .u8 0),(N .u8 0)] false p1 0) (fun c=>.ptr c 0) p fun s F=>bA (fun va e g=>af .lss (ag e 0) (N .i64 32) fun wc=>au wc ( af .quo (ag e 0) (N .i64 4) fun wd=>dU h wd 8 1 fun we=>ak g we fun wf=>af .rem (ag e 0) (N .i64 4) fun wg=>af .mul (N .i64 8) wg fun wh=>af .sub (N .i64 24) wh fun wi=>qi .shr wf wi fun wj=>pR .u8 wj fun wk=>dU s (ag e 0) 32 1 fun wl=>aA g wl wk 1 fun H=>af .add (ag e 0) (N .i64 1) fun wm=>va [wm] H) ( aH g s 32 fun wn=>aA g u wn 32 fun q=>aH q u 32 fun ve=>Q ve q)) [(N .i64 0)] F)) [(N .i64 0)] o)) [(ag m 0),(N .i64 0)] n)) [vq] y)) [(N .i64 0)] L
def BI (p1 p2:Nat) (a0:AV) (M0:RM) (Q:ai) : Prop:=nO p1 a0 fun n j=>aZ n j M0 fun p e=>aH e p 32 fun y=>bA (fun m c d=>af .lss (ag c 1) (N .i64 32) fun z=>au z ( Ht y (ag c 1) 32 fun g=>qi .shr g (N .u64 4) fun q=>dG (St [48,49,50,51,52,53,54,55,56,57,97,98,99,100,101,102]) q fun r=>af .and g (N .u8 15) fun s=>dG (St [48,49,50,51,52,53,54,55,56,57,97,98,99,100,101,102]) s fun t=>eO p2 2 [(N .u8 0)] [(0,1,r),(1,1,t)] fun o l=>QR o l d fun u h A=>appW p2 1 1 [(N .u8 0)] false (ag c 0) u h fun v i=>af .add (ag c 1) (N .i64 1) fun w=>m [v,w] i) ( vS d (ag c 0) fun x=>Q x d)) [(.sc (.slice none 0 0)),(N .i64 0)] e
def qb (p1:Nat) (M0:RM) (Q:ai) : Prop:=aZ (.row [(N .u32 0),(N .u32 0),(N .u32 0),(N .u32 0),(N .u32 0),(N .u32 0),(N .u32 0),(N .u32 0),(N .u32 0),(N .u32 0),(N .u32 0),(N .u32 0),(N .u32 0),(N .u32 0),(N .u32 0),(N .u32 0),(N .u32 0),(N .u32 0),(N .u32 0),(N .u32 0),(N .u32 0),(N .u32 0),(N .u32 0),(N .u32 0),(N .u32 0),(N .u32 0),(N .u32 0),(N .u32 0),(N .u32 0),(N .u32 0),(N .u32 0),(N .u32 0),(N .u32 0),(N .u32 0),(N .u32 0),(N .u32 0),(N .u32 0),(N .u32 0),(N .u32 0),(N .u32 0),(N .u32 0),(N .u32 0),(N .u32 0),(N .u32 0),(N .u32 0),(N .u32 0),(N .u32 0),(N .u32 0),(N .u32 0),(N .u32 0),(N .u32 0),(N .u32 0),(N .u32 0),(N .u32 0),(N .u32 0),(N .u32 0),(N .u32 0),(N .u32 0),(N .u32 0),(N .u32 0),(N .u32 0),(N .u32 0),(N .u32 0),(N .u32 0)] false p1 0) (fun g=>.ptr g 0) M0 fun d e=>eQ [(N .u32 0),(N .u32 0),(N .u32 0),(N .u32 0),(N .u32 0),(N .u32 0),(N .u32 0),(N .u32 0),(N .u32 0),(N .u32 0),(N .u32 0),(N .u32 0),(N .u32 0),(N .u32 0),(N .u32 0),(N .u32 0),(N .u32 0),(N .u32 0),(N .u32 0),(N .u32 0),(N .u32 0),(N .u32 0),(N .u32 0),(N .u32 0),(N .u32 0),(N .u32 0),(N .u32 0),(N .u32 0),(N .u32 0),(N .u32 0),(N .u32 0),(N .u32 0),(N .u32 0),(N .u32 0),(N .u32 0),(N .u32 0),(N .u32 0),(N .u32 0),(N .u32 0),(N .u32 0),(N .u32 0),(N .u32 0),(N .u32 0),(N .u32 0),(N .u32 0),(N .u32 0),(N .u32 0),(N .u32 0),(N .u32 0),(N .u32 0),(N .u32 0),(N .u32 0),(N .u32 0),(N .u32 0),(N .u32 0),(N .u32 0),(N .u32 0),(N .u32 0),(N .u32 0),(N .u32 0),(N .u32 0),(N .u32 0),(N .u32 0),(N .u32 0)] [(0,1,(N .u32 1116352408)),(1,1,(N .u32 1899447441)),(2,1,(N .u32 3049323471)),(3,1,(N .u32 3921009573)),(4,1,(N .u32 961987163)),(5,1,(N .u32 1508970993)),(6,1,(N .u32 2453635748)),(7,1,(N .u32 2870763221)),(8,1,(N .u32 3624381080)),(9,1,(N .u32 310598401)),(10,1,(N .u32 607225278)),(11,1,(N .u32 1426881987)),(12,1,(N .u32 1925078388)),(13,1,(N .u32 2162078206)),(14,1,(N .u32 2614888103)),(15,1,(N .u32 3248222580)),(16,1,(N .u32 3835390401)),(17,1,(N .u32 4022224774)),(18,1,(N .u32 264347078)),(19,1,(N .u32 604807628)),(20,1,(N .u32 770255983)),(21,1,(N .u32 1249150122)),(22,1,(N .u32 1555081692)),(23,1,(N .u32 1996064986)),(24,1,(N .u32 2554220882)),(25,1,(N .u32 2821834349)),(26,1,(N .u32 2952996808)),(27,1,(N .u32 3210313671)),(28,1,(N .u32 3336571891)),(29,1,(N .u32 3584528711)),(30,1,(N .u32 113926993)),(31,1,(N .u32 338241895)),(32,1,(N .u32 666307205)),(33,1,(N .u32 773529912)),(34,1,(N .u32 1294757372)),(35,1,(N .u32 1396182291)),(36,1,(N .u32 1695183700)),(37,1,(N .u32 1986661051)),(38,1,(N .u32 2177026350)),(39,1,(N .u32 2456956037)),(40,1,(N .u32 2730485921)),(41,1,(N .u32 2820302411)),(42,1,(N .u32 3259730800)),(43,1,(N .u32 3345764771)),(44,1,(N .u32 3516065817)),(45,1,(N .u32 3600352804)),(46,1,(N .u32 4094571909)),(47,1,(N .u32 275423344)),(48,1,(N .u32 430227734)),(49,1,(N .u32 506948616)),(50,1,(N .u32 659060556)),(51,1,(N .u32 883997877)),(52,1,(N .u32 958139571)),(53,1,(N .u32 1322822218)),(54,1,(N .u32 1537002063)),(55,1,(N .u32 1747873779)),(56,1,(N .u32 1955562222)),(57,1,(N .u32 2024104815)),(58,1,(N .u32 2227730452)),(59,1,(N .u32 2361852424)),(60,1,(N .u32 2428436474)),(61,1,(N .u32 2756734187)),(62,1,(N .u32 3204031479)),(63,1,(N .u32 3329325298))] fun i=>aA e d i 64 fun c=>aH c d 64 fun h=>Q h c
def xS (p1:Nat) (M0:RM) (Q:ai) : Prop:=aZ (.row [(N .u32 0),(N .u32 0),(N .u32 0),(N .u32 0),(N .u32 0),(N .u32 0),(N .u32 0),(N .u32 0)] false p1 0) (fun g=>.ptr g 0) M0 fun d e=>eQ [(N .u32 0),(N .u32 0),(N .u32 0),(N .u32 0),(N .u32 0),(N .u32 0),(N .u32 0),(N .u32 0)] [(0,1,(N .u32 1779033703)),(1,1,(N .u32 3144134277)),(2,1,(N .u32 1013904242)),(3,1,(N .u32 2773480762)),(4,1,(N .u32 1359893119)),(5,1,(N .u32 2600822924)),(6,1,(N .u32 528734635)),(7,1,(N .u32 1541459225))] fun i=>aA e d i 8 fun c=>aH c d 8 fun h=>Q h c
def oC (p1:Nat) (p2:aj) (p3:Nat) (a0 a1 a2:AV) (M0:RM) (Q:ai) : Prop:=aZ (.row [(N .u32 0),(N .u32 0),(N .u32 0),(N .u32 0),(N .u32 0),(N .u32 0),(N .u32 0),(N .u32 0),(N .u32 0),(N .u32 0),(N .u32 0),(N .u32 0),(N .u32 0),(N .u32 0),(N .u32 0),(N .u32 0),(N .u32 0),(N .u32 0),(N .u32 0),(N .u32 0),(N .u32 0),(N .u32 0),(N .u32 0),(N .u32 0),(N .u32 0),(N .u32 0),(N .u32 0),(N .u32 0),(N .u32 0),(N .u32 0),(N .u32 0),(N .u32 0),(N .u32 0),(N .u32 0),(N .u32 0),(N .u32 0),(N .u32 0),(N .u32 0),(N .u32 0),(N .u32 0),(N .u32 0),(N .u32 0),(N .u32 0),(N .u32 0),(N .u32 0),(N .u32 0),(N .u32 0),(N .u32 0),(N .u32 0),(N .u32 0),(N .u32 0),(N .u32 0),(N .u32 0),(N .u32 0),(N .u32 0),(N .u32 0),(N .u32 0),(N .u32 0),(N .u32 0),(N .u32 0),(N .u32 0),(N .u32 0),(N .u32 0),(N .u32 0)] false p1 0) (fun vc=>.ptr vc 0) M0 fun i vg=>bA (fun vn j m=>af .lss (ag j 0) (N .i64 16) fun xz=>au xz ( af .mul (N .i64 4) (ag j 0) fun x0=>aX a1 x0 1 fun x1=>ak m x1 fun x2=>pR .u32 x2 fun x3=>qi .shl x3 (N .u64 24) fun x4=>af .mul (N .i64 4) (ag j 0) fun x5=>af .add x5 (N .i64 1) fun x6=>aX a1 x6 1 fun x7=>ak m x7 fun x8=>pR .u32 x8 fun x9=>qi .shl x9 (N .u64 16) fun ya=>af .or x4 ya fun yb=>af .mul (N .i64 4) (ag j 0) fun yc=>af .add yc (N .i64 2) fun yd=>aX a1 yd 1 fun ye=>ak m ye fun yf=>pR .u32 yf fun yg=>qi .shl yg (N .u64 8) fun yh=>af .or yb yh fun yi=>af .mul (N .i64 4) (ag j 0) fun yj=>af .add yj (N .i64 3) fun yk=>aX a1 yk 1 fun yl=>ak m yl fun ym=>pR .u32 ym fun yn=>af .or yi yn fun yo=>dU i (ag j 0) 64 1 fun yp=>aA m yp yo 1 fun vh=>af .add (ag j 0) (N .i64 1) fun yq=>vn [yq] vh) ( bA (fun vo l h=>af .lss (ag l 0) (N .i64 64) fun yr=>au yr ( af .sub (ag l 0) (N .i64 15) fun yt=>dU i yt 64 1 fun yu=>ak h yu fun vd=>af .sub (ag l 0) (N .i64 2) fun yv=>dU i yv 64 1 fun yw=>ak h yw fun ve=>af .sub (ag l 0) (N .i64 16) fun yx=>dU i yx 64 1 fun t=>ak h t fun u=>qi .shr vd (N .u64 3) fun y5=>af .sub (ag l 0) (N .i64 7) fun y8=>dU i y8 64 1 fun v=>ak h v fun w=>qi .shr ve (N .u64 10) fun zh=>p2 [vd,(N .i64 7)] h fun y2 X=>ak X t fun y1=>(y1=u∧ak X v fun zc=>(zc=w∧p2 [vd,(N .i64 18)] X fun y3 Z=>ak Z t fun y0=>(y0=u∧ak Z v fun zb=>(zb=w∧af .xor y2 y3 fun y4=>af .xor y4 y5 fun y6=>af .add u y6 fun y7=>af .add y7 w fun zd=>p2 [ve,(N .i64 17)] Z fun ze va=>ak va t fun yz=>(yz=u∧ak va v fun za=>(za=w∧p2 [ve,(N .i64 19)] va fun zf vb=>ak vb t fun yy=>(yy=u∧ak vb v fun y9=>(y9=w∧af .xor ze zf fun zg=>af .xor zg zh fun zi=>af .add zd zi fun zj=>dU i (ag l 0) 64 1 fun zk=>aA vb zk zj 1 fun vm=>af .add (ag l 0) (N .i64 1) fun ys=>vo [ys] vm))))))))) ( nQ a0 fun vr=>aH h vr 8 fun vs=>aZ (.row [(N .u32 0),(N .u32 0),(N .u32 0),(N .u32 0),(N .u32 0),(N .u32 0),(N .u32 0),(N .u32 0)] false p3 0) (fun vc=>.ptr vc 0) h fun c vi=>aA vi c vs 8 fun vj=>bA (fun vp W d=>af .lss (ag W 0) (N .i64 64) fun vt=>au vt ( dU c (N .i64 4) 8 1 fun vu=>ak d vu fun p=>dU c (N .i64 0) 8 1 fun vv=>ak d vv fun q=>dU c (N .i64 7) 8 1 fun y=>ak d y fun z=>dU c (N .i64 5) 8 1 fun A=>ak d A fun B=>af .and p B fun v8=>GN p fun v9=>dU c (N .i64 6) 8 1 fun C=>ak d C fun D=>af .and v9 D fun wd=>af .xor v8 wd fun we=>nQ a2 fun wg=>dU wg (ag W 0) 64 1 fun E=>ak d E fun F=>dU i (ag W 0) 64 1 fun G=>ak d G fun H=>p2 [p,(N .i64 6)] d fun vz n=>ak n y fun vy=>(vy=z∧ak n A fun v7=>(v7=B∧ak n C fun wc=>(wc=D∧ak n E fun wj=>(wj=F∧ak n G fun wn=>(wn=H∧p2 [p,(N .i64 11)] n fun v0 o=>ak o y fun vx=>(vx=z∧ak o A fun v6=>(v6=B∧ak o C fun wb=>(wb=D∧ak o E fun wi=>(wi=F∧ak o G fun wm=>(wm=H∧af .xor vz v0 fun v1=>p2 [p,(N .i64 25)] o fun v2 e=>ak e y fun vw=>(vw=z∧ak e A fun v5=>(v5=B∧ak e C fun wa=>(wa=D∧ak e E fun wh=>(wh=F∧ak e G fun wl=>(wl=H∧af .xor v1 v2 fun v3=>af .add z v3 fun v4=>af .add v4 we fun wf=>af .add wf F fun wk=>af .add wk H fun vf=>dU c (N .i64 1) 8 1 fun I=>ak e I fun L=>af .and q L fun ww=>dU c (N .i64 2) 8 1 fun O=>ak e O fun P=>af .and q P fun w0=>af .xor ww w0 fun w1=>dU c (N .i64 1) 8 1 fun R=>ak e R fun S=>dU c (N .i64 2) 8 1 fun U=>ak e U fun V=>af .and S V fun w8=>af .xor w1 w8 fun w9=>p2 [q,(N .i64 2)] e fun wo r=>ak r I fun wv=>(wv=L∧ak r O fun wz=>(wz=P∧ak r R fun w4=>(w4=S∧ak r U fun w7=>(w7=V∧p2 [q,(N .i64 13)] r fun wp s=>ak s I fun wu=>(wu=L∧ak s O fun wy=>(wy=P∧ak s R fun w3=>(w3=S∧ak s U fun w6=>(w6=V∧af .xor wo wp fun wq=>p2 [q,(N .i64 22)] s fun wr g=>ak g I fun wt=>(wt=L∧ak g O fun wx=>(wx=P∧ak g R fun w2=>(w2=S∧ak g U fun w5=>(w5=V∧af .xor wq wr fun ws=>af .add ws w9 fun xa=>af .add vf xa fun xb=>dU c (N .i64 1) 8 1 fun xc=>ak g xc fun xd=>dU c (N .i64 2) 8 1 fun xe=>ak g xe fun xf=>dU c (N .i64 3) 8 1 fun xg=>ak g xg fun xh=>af .add xh vf fun xi=>dU c (N .i64 5) 8 1 fun xj=>ak g xj fun xk=>dU c (N .i64 6) 8 1 fun xl=>ak g xl fun xm=>eQ [(N .u32 0),(N .u32 0),(N .u32 0),(N .u32 0),(N .u32 0),(N .u32 0),(N .u32 0),(N .u32 0)] [(0,1,xb),(1,1,q),(2,1,xd),(3,1,xf),(4,1,xi),(5,1,p),(6,1,xk),(7,1,xm)] fun xn=>aA g c xn 8 fun vk=>af .add (ag W 0) (N .i64 1) fun xo=>vp [xo] vk)))))))))))))))))))))))))))) ( aH d c 8 fun xp=>bA (fun vq x Y=>af .lss (ag x 0) (N .i64 8) fun xq=>au xq ( Ht xp (ag x 0) 8 fun xr=>nQ a0 fun xs=>dU xs (ag x 0) 8 1 fun xt=>ak Y xt fun xu=>af .add xu xr fun xv=>nQ a0 fun xw=>dU xw (ag x 0) 8 1 fun xx=>aA Y xx xv 1 fun vl=>af .add (ag x 0) (N .i64 1) fun xy=>vq [xy] vl) ( Q (.tup []) Y)) [(N .i64 0)] d)) [(N .i64 0)] vj)) [(N .i64 16)] m)) [(N .i64 0)] vg
def zM (p1:aj) (a0 a1:AV) (M0:RM) (Q:ai) : Prop:=Rj a1 fun d=>p1 [a0,d] M0 fun e c=>Q e c
def jD (a0 a1:AV) (M0:RM) (Q:ai) : Prop:=pR .u64 a1 fun i=>af .and i (N .u64 31) fun c=>qi .shl a0 c fun d=>af .sub (N .u64 32) c fun e=>qi .shr a0 e fun g=>af .or d g fun h=>Q h M0
set_option maxRecDepth 10000
def fU:Enc Int:=⟨1,fun n=>[N .u32 n],fun _=>rfl,fun _=>rfl⟩
theorem qW (xs:List Int) : fU.row xs=xs.map (N .u32):=by
 induction xs with
 | nil=>rfl
 | cons x xs ih=>rw[Enc.kS,ih]; rfl
theorem jS (xs:List Int) : (fU.row xs).length=xs.length:=by rw[qW,List.length_map]
def iC (a b:Int) : Int:=IntKind.u32.wrap (a + b)
def oH (x n:Int) : Int:=GM .u32 (uN .u32 x n) (MQ .u32 x (32 - n))
def K8 (a b c:Int) : Int:=Cz .u32 (Cz .u32 a b) c
def abo (x:Int) : Int:=K8 (oH x 7) (oH x 18) (uN .u32 x 3)
def abI (x:Int) : Int:=K8 (oH x 17) (oH x 19) (uN .u32 x 10)
def abl (x:Int) : Int:=Cz .u32 4294967295 x
def chU (e f g:Int) : Int:=Cz .u32 (Ay .u32 e f) (Ay .u32 (abl e) g)
def abG (a b c:Int) : Int:=Cz .u32 (Cz .u32 (Ay .u32 a b) (Ay .u32 a c)) (Ay .u32 b c)
def UH (b:Str) (i:Nat) : Int:=GM .u32 (GM .u32 (GM .u32 (MQ .u32 (IntKind.u32.wrap ((b.getD (4 * i) 0).toNat:Int)) 24) (MQ .u32 (IntKind.u32.wrap ((b.getD (4 * i + 1) 0).toNat:Int)) 16)) (MQ .u32 (IntKind.u32.wrap ((b.getD (4 * i + 2) 0).toNat:Int)) 8)) (IntKind.u32.wrap ((b.getD (4 * i + 3) 0).toNat:Int))
def Rp (l:List Int) (i:Nat) : Int:=iC (iC (iC (l.getD (i - 16) 0) (abo (l.getD (i - 15) 0))) (l.getD (i - 7) 0)) (abI (l.getD (i - 2) 0))
def sched (b:Str) : Nat→List Int
 | 0=>[]
 | i + 1=>sched b i++[if i<16 then UH b i else Rp (sched b i) i]
theorem oM (b:Str) : ∀ i,(sched b i).length=i
 | 0=>rfl
 | i + 1=>by rw[sched,List.length_append,oM b i]; rfl
def YX (v:List Int) (k w:Int) : List Int:=match v with
 | [a,b,c,d,e,f,g,h] =>
   [iC (iC (iC (iC (iC h (K8 (oH e 6) (oH e 11) (oH e 25))) (chU e f g)) k) w) (iC (K8 (oH a 2) (oH a 13) (oH a 22)) (abG a b c)),a,b,c,
    iC d (iC (iC (iC (iC h (K8 (oH e 6) (oH e 11) (oH e 25))) (chU e f g)) k) w),e,f,g]
 | _=>v
def Ar (k w:List Int) (h:List Int) : Nat→List Int
 | 0=>h
 | i + 1=>YX (Ar k w h i) (k.getD i 0) (w.getD i 0)
theorem eight {l:List Int} (h:l.length=8) : ∃ a b c d e f g i,l=[a,b,c,d,e,f,g,i]:=by
 rcases l with _ | ⟨a,_ | ⟨b,_ | ⟨c,_ | ⟨d,_ | ⟨e,_ | ⟨f,_ | ⟨g,_ | ⟨i,_ | ⟨j,l⟩⟩⟩⟩⟩⟩⟩⟩⟩ <;> first | (simp at h; done) | exact⟨_,_,_,_,_,_,_,_,rfl⟩ | (simp at h; omega)
theorem XE {v:List Int} (h:v.length=8) (k w:Int) : (YX v k w).length=8:=by
 obtain⟨a,b,c,d,e,f,g,i,rfl⟩:=eight h
 rfl
theorem FB (k w:List Int) {h:List Int} (hl:h.length=8) : ∀ i,(Ar k w h i).length=8
 | 0=>hl
 | i + 1=>XE (FB k w hl i) _ _
def rH (h k:List Int) (b:Str) : List Int:=List.zipWith iC h (Ar k (sched b 64) h 64)
theorem Rc {h:List Int} (k:List Int) (b:Str) (hl:h.length=8) : (rH h k b).length=8:=by
 unfold rH; rw[List.length_zipWith,FB k _ hl,hl]; rfl
section
variable {M:RM} {b T:Nat} {ws:List Int}
theorem uR (h:M.heap b=some (.row (fU.row ws) false T 0)) {i:Nat} (hi:i<ws.length) {K:AV→Prop} : ak M (.ptr b i) K=K (N .u32 (ws.getD i 0)):=by
 refine az h ?_
 rw[qW,List.getElem?_map,List.getElem?_eq_getElem hi]
 simp[List.getD,hi]
theorem Cx (h:M.heap b=some (.row (fU.row ws) false T 0)) {i:Nat} (hi:i<ws.length) (x:Int) {K:RM→Prop} : aA M (.ptr b i) (N .u32 x) 1 K=K (M.put b (.row (fU.row (ws.set i x)) false T 0)):=by
 refine bN _ h (by rw[jS]; exact hi) rfl rfl ?_
 rw[qW,qW,List.map_set]
theorem jw {k:IntKind} {j:Int} {i len:Nat} (hj:j=(i:Int)) (hi:i<len) {K:AV→Prop} : dU (.ptr b 0) (N k j) len 1 K=K (.ptr b i):=by
 subst hj
 rw[UI]
 simp only[Int.toNat_natCast,Nat.mul_one,Nat.zero_add]
 exact propext ⟨fun h=>h.2.2,fun h=>⟨by omega,by omega,h⟩⟩
end
theorem set_mid {l:List Int} {n:Nat} {x z:Int} (hn:0<n) : (l++List.replicate n z).set l.length x=(l++[x])++List.replicate (n - 1) z:=by
 obtain⟨m,rfl⟩ : ∃ m,n=m + 1:=⟨n - 1,by omega⟩
 rw[List.replicate_succ,List.set_append_right _ _ (Nat.le_refl _),Nat.sub_self]
 simp
theorem UA {l r:List Int} {i:Nat} (h:i<l.length) : (l++r).getD i 0=l.getD i 0:=by simp[List.getD,List.getElem?_append_left h]
theorem Jy (b:Str) {i:Nat} (hi:i<64) : (sched b i++List.replicate (64 - i) 0).set i (if i<16 then UH b i else Rp (sched b i) i)=sched b (i + 1)++List.replicate (64 - (i + 1)) 0:=by
 have:=set_mid (l:=sched b i) (n:=64 - i) (x:=if i<16 then UH b i else Rp (sched b i) i) (z:=0) (by omega)
 rw[oM] at this
 rw[this,sched]
 congr 2
def turns:List Int:=[2,6,7,11,13,17,18,19,22,25]
def QQ (kd:IntKind) (c:aj) : Prop:=∀ {M:RM} {x n:Int} {Q:ai},n∈turns→Q (N .u32 (oH x n)) M→c [N .u32 x,N kd n] M Q
def Vb (c:aj) : Prop:=∀ {M:RM} {x n:Int} {Q:ai},n∈turns→Q (N .u32 (oH x n)) M→c [N .u32 x,N .i64 (IntKind.i64.wrap (0 - n))] M Q
theorem Tn:∀ n∈turns,Ay .u64 (IntKind.u64.wrap (IntKind.i64.wrap (0 - n))) 31=32 - n:=by decide +kernel
theorem Us:∀ n∈turns,IntKind.u64.wrap (32 - (32 - n))=n∧IntKind.u64.wrap (32 - n)=32 - n∧0≤n∧0≤32 - n:=by decide +kernel
theorem UT (k:IntKind) (a b:Int) : GM k a b=GM k b a:=by unfold GM; rw[BitVec.or_comm]
theorem UB:Vb fun args M Q=>∃ a0 a1,args=[a0,a1]∧jD a0 a1 M Q:=by
 intro M x n Q hn hQ
 refine⟨_,_,rfl, ?_⟩
 unfold jD
 obtain⟨h1,h2,h3,h4⟩:=Us n hn
 rw[rY,lV,Tn n hn,DW]
 refine⟨h4, ?_⟩
 rw[mM,h1,uu]
 refine⟨h3, ?_⟩
 rw[jR,UT]
 exact hQ
theorem Ut {c:aj} (hc:Vb c) : QQ .i64 fun args M Q=>∃ a0 a1,args=[a0,a1]∧zM c a0 a1 M Q:=by
 intro M x n Q hn hQ
 refine⟨_,_,rfl, ?_⟩
 unfold zM
 rw[YI]
 exact hc hn hQ
end Go.Ab.Sha
namespace Go.Ab.Sha
open Go Go.Ab Go.Ab.Sm
theorem Qb {i:Nat} (hi:i<1000) {K:AV→Prop} : af .mul (N .i64 4) (N .i64 (i:Int)) K=K (N .i64 ((4 * i:Nat) : Int)):=by
 rw[uG,fw (by omega) (by omega)]; rfl
theorem qz {i:Nat} (j:Nat) (hi:i<1000000000) (hj:j<1000) {K:AV→Prop} {n:Int} (hn:n=(j:Int)) : af .add (N .i64 (i:Int)) (N .i64 n) K=K (N .i64 ((i + j:Nat) : Int)):=by
 subst hn; exact addN (by omega)
theorem Rv {i:Nat} (j:Nat) (hi:i<1000000000) (hj:j≤i) {K:AV→Prop} {n:Int} (hn:n=(j:Int)) : af .sub (N .i64 (i:Int)) (N .i64 n) K=K (N .i64 ((i - j:Nat) : Int)):=by
 subst hn; exact YH hj (by omega)
theorem EQ {i:Nat} (j:Nat) {K:AV→Prop} {n:Int} (hn:n=(j:Int)) : af .lss (N .i64 (i:Int)) (N .i64 n) K=K (Bo (decide (i<j))):=by
 subst hn; exact jQ
theorem Bs.KA {M:RM} {v:AV} {b:Str} (h:Bs M v b) {i:Nat} (hi:i<b.length) {K:AV→Prop} : (aX v (N .i64 (i:Int)) 1 fun t=>ak M t K)=K (By (b.getD i 0)):=by
 rw[h.read hi]; simp[List.getD,hi]
theorem VC {h v:List Int} {j:Nat} (hj:j<8) (hh:h.length=8) (hv:v.length=8) :
  ((List.zipWith iC h v).take j++h.drop j).set j (iC (h.getD j 0) (v.getD j 0))=(List.zipWith iC h v).take (j + 1)++h.drop (j + 1):=by
 have hz:(List.zipWith iC h v).length=8:=by rw[List.length_zipWith,hh,hv]; rfl
 have h1:((List.zipWith iC h v).take j).length=j:=by rw[List.length_take]; omega
 have h2:h.drop j=h[j] :: h.drop (j + 1):=List.drop_eq_getElem_cons (by omega)
 rw[h2,List.set_append_right _ _ (by omega),h1,Nat.sub_self,List.set_cons_zero,List.take_succ_eq_append_getElem (by omega),List.append_assoc]
 congr 1
 rw[List.getElem_zipWith]
 simp[List.getD,show j<h.length by omega,show j<v.length by omega]
theorem Xv {h v:List Int} {j:Nat} (hj:j<8) (hh:h.length=8) (hv:v.length=8) : ((List.zipWith iC h v).take j++h.drop j).getD j 0=h.getD j 0:=by
 have hz:(List.zipWith iC h v).length=8:=by rw[List.length_zipWith,hh,hv]; rfl
 have h1:((List.zipWith iC h v).take j).length=j:=by rw[List.length_take]; omega
 simp[List.getD,List.getElem?_append_right (show((List.zipWith iC h v).take j).length≤j by omega),h1]
theorem Xo {h v:List Int} {j:Nat} (hj:j≤8) (hh:h.length=8) (hv:v.length=8) : ((List.zipWith iC h v).take j++h.drop j).length=8:=by
 rw[List.length_append,List.length_take,List.length_drop,List.length_zipWith,hh,hv]; omega
theorem nH {cs:List AV} {rest:List (Nat × Nat × AV)} {off:Nat} {k:IntKind} {n:Int} (h:off<cs.length) : nA cs ((off,1,N k n) :: rest)=nA (cs.set off (N k n)) rest:=by
 rw[nA,if_pos ⟨rfl,rfl,by omega⟩,List.set_eq_take_append_cons_drop,if_pos h,List.append_assoc]
 rfl
theorem ZF {a b c d e f g h:Int} : nA [N .u32 0,N .u32 0,N .u32 0,N .u32 0,N .u32 0,N .u32 0,N .u32 0,N .u32 0] [(0,1,N .u32 a),(1,1,N .u32 b),(2,1,N .u32 c),(3,1,N .u32 d),(4,1,N .u32 e),(5,1,N .u32 f),(6,1,N .u32 g),(7,1,N .u32 h)]=some (fU.row [a,b,c,d,e,f,g,h]):=by
 rw[nH (by decide)]
 simp only[List.set]
 rw[nH (by simp)]
 simp only[List.set]
 rw[nH (by simp)]
 simp only[List.set]
 rw[nH (by simp)]
 simp only[List.set]
 rw[nH (by simp)]
 simp only[List.set]
 rw[nH (by simp)]
 simp only[List.set]
 rw[nH (by simp)]
 simp only[List.set]
 rw[nH (by simp)]
 simp only[List.set]
 rfl
def Ry (TK TS:Nat) (c:aj) : Prop:=∀ {M:RM} {sb kb:Nat} {bv:AV} {h k:List Int} {b:Str} {Q:ai},M.heap sb=some (.row (fU.row h) false TS 0)→sb<M.next→h.length=8 →
 M.heap kb=some (.row (fU.row k) false TK 0)→kb<M.next→kb≠sb→k.length=64→Bs M bv b→b.length=64 →
 (∀ M',ae [sb] M M'→M'.heap sb=some (.row (fU.row (rH h k b)) false TS 0)→Q (.tup []) M')→c [.ptr sb 0,bv,.ptr kb 0] M Q
theorem SK {TK TS:Nat} {ct:aj} (ht:QQ .i64 ct) : Ry TK TS fun args M Q=>∃ a0 a1 a2,args=[a0,a1,a2]∧oC TK ct TS a0 a1 a2 M Q:=by
 intro M sb kb bv h k b Q hs hsl hhl hk hkl hks hkn hb hbl hQ
 refine⟨_,_,_,rfl, ?_⟩
 unfold oC
 rw[aG]
 have k0:ae [] M (M.push (.row (fU.row (List.replicate 64 0)) false TK 0)):=(ae.refl _ _).push _
 have n0:(M.push (.row (fU.row (List.replicate 64 0)) false TK 0)).heap M.next=some (.row (fU.row (sched b 0++List.replicate (64 - 0) 0)) false TK 0):=by simp[RM.push,sched]
 have l0:M.next<(M.push (.row (fU.row (List.replicate 64 0)) false TK 0)).next:=by simp[RM.push]
 show bA _ _ (M.push (.row (fU.row (List.replicate 64 0)) false TK 0))
 generalize M.push (.row (fU.row (List.replicate 64 0)) false TK 0)=M0 at *
 refine aP (fun m ys M3=>∃ i:Nat,m=16 - i∧ys=[N .i64 (i:Int)]∧i≤16∧ae [] M M3∧M.next<M3.next∧M3.heap M.next=some (.row (fU.row (sched b i++List.replicate (64 - i) 0)) false TK 0)) _
  ⟨0,rfl,rfl,by omega,k0,l0,n0⟩ ?_
 rintro next m ys M3 hnext ⟨i,rfl,rfl,hi,k3,l3,n3⟩
 simp only[jr]
 rw[EQ 16 (by rfl)]
 have hb3:=hb.keep k3 (by simp)
 refine bg (fun hc=>?_) fun hc=>?_
 ·have UC:i<16:=of_decide_eq_true hc
  rw[Qb (by omega),hb3.KA (by omega),By,rY,DW]
  refine⟨by decide, ?_⟩
  rw[Qb (by omega),qz 1 (by omega) (by omega) (by rfl),hb3.KA (by omega),By,rY,DW]
  refine⟨by decide, ?_⟩
  rw[jR,Qb (by omega),qz 2 (by omega) (by omega) (by rfl),hb3.KA (by omega),By,rY,DW]
  refine⟨by decide, ?_⟩
  rw[jR,Qb (by omega),qz 3 (by omega) (by omega) (by rfl),hb3.KA (by omega),By,rY,jR,jw rfl (by omega)]
  have e:=Jy b (i:=i) (by omega)
  rw[if_pos UC] at e
  have hlen:(sched b i++List.replicate (64 - i) 0).length=64:=by rw[List.length_append,oM,List.length_replicate]; omega
  rw[Cx n3 (by omega),qz 1 (by omega) (by omega) (by rfl)]
  refine hnext _ _ _ (by omega) ⟨i + 1,rfl,rfl,by omega,k3.new _ (Nat.le_refl _),l3, ?_⟩
  rw[ay,← e]
  rfl
 have UC:i=16:=by have:=of_decide_eq_false hc; omega
 subst UC
 clear hnext
 refine aP (fun m ys M4=>∃ i:Nat,m=64 - i∧ys=[N .i64 (i:Int)]∧16≤i∧i≤64∧ae [] M M4∧M.next<M4.next∧M4.heap M.next=some (.row (fU.row (sched b i++List.replicate (64 - i) 0)) false TK 0)) _
  ⟨16,rfl,rfl,by omega,by omega,k3,l3,n3⟩ ?_
 rintro next m ys M4 hnext ⟨i,rfl,rfl,hi0,hi,k4,l4,n4⟩
 simp only[jr]
 rw[EQ 64 (by rfl)]
 refine bg (fun hc=>?_) fun hc=>?_
 ·have Fh:i<64:=of_decide_eq_true hc
  have hlen:(sched b i++List.replicate (64 - i) 0).length=64:=by rw[List.length_append,oM,List.length_replicate]; omega
  have ld:∀ (j:Nat),j<i→∀ {K:AV→Prop},ak M4 (.ptr M.next j) K=K (N .u32 ((sched b i).getD j 0)):=fun j hj K=>by
   rw[uR n4 (by omega),UA (by rw[oM]; exact hj)]
  have L15:∀ {K:AV→Prop},ak M4 (.ptr M.next (i - 15)) K=K (N .u32 ((sched b i).getD (i - 15) 0)):=ld _ (by omega)
  have L2:∀ {K:AV→Prop},ak M4 (.ptr M.next (i - 2)) K=K (N .u32 ((sched b i).getD (i - 2) 0)):=ld _ (by omega)
  have L16:∀ {K:AV→Prop},ak M4 (.ptr M.next (i - 16)) K=K (N .u32 ((sched b i).getD (i - 16) 0)):=ld _ (by omega)
  have L7:∀ {K:AV→Prop},ak M4 (.ptr M.next (i - 7)) K=K (N .u32 ((sched b i).getD (i - 7) 0)):=ld _ (by omega)
  rw[Rv 15 (by omega) (by omega) (by rfl),jw rfl (by omega),L15,Rv 2 (by omega) (by omega) (by rfl),jw rfl (by omega),L2,Rv 16 (by omega) (by omega) (by rfl),jw rfl (by omega),L16,uu]
  refine⟨by decide, ?_⟩
  rw[Rv 7 (by omega) (by omega) (by rfl),jw rfl (by omega),L7,uu]
  refine⟨by decide, ?_⟩
  refine ht (by decide) ?_
  rw[L16]; refine⟨rfl, ?_⟩
  rw[L7]; refine⟨rfl, ?_⟩
  refine ht (by decide) ?_
  rw[L16]; refine⟨rfl, ?_⟩
  rw[L7]; refine⟨rfl, ?_⟩
  rw[jE,jE,fq,fq]
  refine ht (by decide) ?_
  rw[L16]; refine⟨rfl, ?_⟩
  rw[L7]; refine⟨rfl, ?_⟩
  refine ht (by decide) ?_
  rw[L16]; refine⟨rfl, ?_⟩
  rw[L7]; refine⟨rfl, ?_⟩
  rw[jE,jE,fq,jw rfl (by omega)]
  have e:=Jy b (i:=i) (by omega)
  rw[if_neg (by omega)] at e
  rw[Cx n4 (by omega),qz 1 (by omega) (by omega) (by rfl)]
  refine hnext _ _ _ (by omega) ⟨i + 1,rfl,rfl,by omega,by omega,k4.new _ (Nat.le_refl _),l4, ?_⟩
  rw[ay,← e]
  rfl
 have Fh:i=64:=by have:=of_decide_eq_false hc; omega
 subst Fh
 clear hnext
 rw[Nat.sub_self,List.replicate_zero,List.append_nil] at n4
 have hwl:=oM b 64
 generalize hwe:sched b 64=w at *
 have hs4:=k4.ax hs hsl (by simp)
 have hk4:=k4.ax hk hkl (by simp)
 rw[kJ,aO hs4 (by rw[jS,hhl]),aG]
 have n5:(M4.push (.row [N .u32 0,N .u32 0,N .u32 0,N .u32 0,N .u32 0,N .u32 0,N .u32 0,N .u32 0] false TS 0)).heap M4.next=some (.row [N .u32 0,N .u32 0,N .u32 0,N .u32 0,N .u32 0,N .u32 0,N .u32 0,N .u32 0] false TS 0):=by simp[RM.push]
 rw[CU n5 (by rw[jS,hhl]) (by rfl) (fU.lD h)]
 have k5:ae [] M4 ((M4.push (.row [N .u32 0,N .u32 0,N .u32 0,N .u32 0,N .u32 0,N .u32 0,N .u32 0,N .u32 0] false TS 0)).put M4.next (.row (fU.row h) false TS 0)):=((ae.refl _ _).push _).new _ (Nat.le_refl _)
 have n5' : ((M4.push (.row [N .u32 0,N .u32 0,N .u32 0,N .u32 0,N .u32 0,N .u32 0,N .u32 0,N .u32 0] false TS 0)).put M4.next (.row (fU.row h) false TS 0)).heap M4.next=some (.row (fU.row (Ar k w h 0)) false TS 0):=ay _
 have l5:M4.next<((M4.push (.row [N .u32 0,N .u32 0,N .u32 0,N .u32 0,N .u32 0,N .u32 0,N .u32 0,N .u32 0] false TS 0)).put M4.next (.row (fU.row h) false TS 0)).next:=by simp[RM.push,RM.put]
 generalize (M4.push (.row [N .u32 0,N .u32 0,N .u32 0,N .u32 0,N .u32 0,N .u32 0,N .u32 0,N .u32 0] false TS 0)).put M4.next (.row (fU.row h) false TS 0)=M5 at *
 refine aP (fun m ys M6=>∃ i:Nat,m=64 - i∧ys=[N .i64 (i:Int)]∧i≤64∧ae [] M4 M6∧M4.next<M6.next∧M6.heap M4.next=some (.row (fU.row (Ar k w h i)) false TS 0)) _
  ⟨0,rfl,rfl,by omega,k5,l5,n5'⟩ ?_
 rintro next m ys M6 hnext ⟨i,rfl,rfl,hi,k6,l6,n6⟩
 simp only[jr]
 rw[EQ 64 (by rfl)]
 have hs6:=k6.ax hs4 (Nat.lt_of_lt_of_le hsl k4.next) (by simp)
 have hk6:=k6.ax hk4 (Nat.lt_of_lt_of_le hkl k4.next) (by simp)
 have n46:=k6.ax n4 l4 (by simp)
 have hrl:=FB k w hhl i
 refine bg (fun hc=>?_) fun hc=>?_
 ·have Fh:i<64:=of_decide_eq_true hc
  have hstep:Ar k w h (i + 1)=YX (Ar k w h i) (k.getD i 0) (w.getD i 0):=rfl
  obtain⟨va,vb,vc,vd,ve,vf,vg,vh,hv⟩:=eight hrl
  rw[hv] at n6 hstep
  have hrow:fU.row [va,vb,vc,vd,ve,vf,vg,vh]=[N .u32 va,N .u32 vb,N .u32 vc,N .u32 vd,N .u32 ve,N .u32 vf,N .u32 vg,N .u32 vh]:=rfl
  rw[hrow] at n6
  have I:∀ (j:Nat),j<8→∀ {K:AV→Prop},dU (.ptr M4.next 0) (N .i64 (j:Int)) 8 1 K=K (.ptr M4.next j):=fun j hj K=>jw rfl hj
  have I0:∀ {K:AV→Prop},dU (.ptr M4.next 0) (N .i64 0) 8 1 K=K (.ptr M4.next 0):=I 0 (by omega)
  have I1:∀ {K:AV→Prop},dU (.ptr M4.next 0) (N .i64 1) 8 1 K=K (.ptr M4.next 1):=I 1 (by omega)
  have I2:∀ {K:AV→Prop},dU (.ptr M4.next 0) (N .i64 2) 8 1 K=K (.ptr M4.next 2):=I 2 (by omega)
  have I3:∀ {K:AV→Prop},dU (.ptr M4.next 0) (N .i64 3) 8 1 K=K (.ptr M4.next 3):=I 3 (by omega)
  have I4:∀ {K:AV→Prop},dU (.ptr M4.next 0) (N .i64 4) 8 1 K=K (.ptr M4.next 4):=I 4 (by omega)
  have I5:∀ {K:AV→Prop},dU (.ptr M4.next 0) (N .i64 5) 8 1 K=K (.ptr M4.next 5):=I 5 (by omega)
  have I6:∀ {K:AV→Prop},dU (.ptr M4.next 0) (N .i64 6) 8 1 K=K (.ptr M4.next 6):=I 6 (by omega)
  have I7:∀ {K:AV→Prop},dU (.ptr M4.next 0) (N .i64 7) 8 1 K=K (.ptr M4.next 7):=I 7 (by omega)
  have L0:∀ {K:AV→Prop},ak M6 (.ptr M4.next 0) K=K (N .u32 va):=az n6 rfl
  have L1:∀ {K:AV→Prop},ak M6 (.ptr M4.next 1) K=K (N .u32 vb):=az n6 rfl
  have L2:∀ {K:AV→Prop},ak M6 (.ptr M4.next 2) K=K (N .u32 vc):=az n6 rfl
  have L3:∀ {K:AV→Prop},ak M6 (.ptr M4.next 3) K=K (N .u32 vd):=az n6 rfl
  have L4:∀ {K:AV→Prop},ak M6 (.ptr M4.next 4) K=K (N .u32 ve):=az n6 rfl
  have L5:∀ {K:AV→Prop},ak M6 (.ptr M4.next 5) K=K (N .u32 vf):=az n6 rfl
  have L6:∀ {K:AV→Prop},ak M6 (.ptr M4.next 6) K=K (N .u32 vg):=az n6 rfl
  have L7:∀ {K:AV→Prop},ak M6 (.ptr M4.next 7) K=K (N .u32 vh):=az n6 rfl
  have Ik:∀ {K:AV→Prop},dU (.ptr kb 0) (N .i64 (i:Int)) 64 1 K=K (.ptr kb i):=jw rfl Fh
  have Iw:∀ {K:AV→Prop},dU (.ptr M.next 0) (N .i64 (i:Int)) 64 1 K=K (.ptr M.next i):=jw rfl Fh
  have Lk:∀ {K:AV→Prop},ak M6 (.ptr kb i) K=K (N .u32 (k.getD i 0)):=uR hk6 (by omega)
  have Lw:∀ {K:AV→Prop},ak M6 (.ptr M.next i) K=K (N .u32 (w.getD i 0)):=uR n46 (by omega)
  simp only[I0,I1,I2,I3,I4,I5,I6,I7,L0,L1,L2,L3,L4,L5,L6,L7,kJ,Ik,Iw,Lk,Lw,lV,jR,jE,fq,oD,true_and]
  refine ht (by decide) ?_
  simp only[I0,I1,I2,I3,I4,I5,I6,I7,L0,L1,L2,L3,L4,L5,L6,L7,kJ,Ik,Iw,Lk,Lw,lV,jR,jE,fq,oD,true_and]
  refine ht (by decide) ?_
  simp only[I0,I1,I2,I3,I4,I5,I6,I7,L0,L1,L2,L3,L4,L5,L6,L7,kJ,Ik,Iw,Lk,Lw,lV,jR,jE,fq,oD,true_and]
  refine ht (by decide) ?_
  simp only[I0,I1,I2,I3,I4,I5,I6,I7,L0,L1,L2,L3,L4,L5,L6,L7,kJ,Ik,Iw,Lk,Lw,lV,jR,jE,fq,oD,true_and]
  refine ht (by decide) ?_
  simp only[I0,I1,I2,I3,I4,I5,I6,I7,L0,L1,L2,L3,L4,L5,L6,L7,kJ,Ik,Iw,Lk,Lw,lV,jR,jE,fq,oD,true_and]
  refine ht (by decide) ?_
  simp only[I0,I1,I2,I3,I4,I5,I6,I7,L0,L1,L2,L3,L4,L5,L6,L7,kJ,Ik,Iw,Lk,Lw,lV,jR,jE,fq,oD,true_and]
  refine ht (by decide) ?_
  simp only[I0,I1,I2,I3,I4,I5,I6,I7,L0,L1,L2,L3,L4,L5,L6,L7,kJ,Ik,Iw,Lk,Lw,lV,jR,jE,fq,oD,true_and]
  rw[jX]
  refine⟨_,ZF, ?_⟩
  rw[CU n6 (by rw[jS]; rfl) (by rfl) (fU.lD _),show(IntKind.i64.wrap ((i:Int) + 1))=((i + 1:Nat) : Int) from nz (by omega)]
  refine hnext _ _ _ (by omega) ⟨i + 1,rfl,rfl,by omega,k6.new _ (Nat.le_refl _),l6, ?_⟩
  rw[ay,hstep]
  rfl
 have Fh:i=64:=by have:=of_decide_eq_false hc; omega
 subst Fh
 clear hnext
 have hbf:rH h k b=List.zipWith iC h (Ar k w h 64):=by
  unfold rH
  rw[hwe]
 rw[hbf] at hQ
 generalize Ar k w h 64=v at *
 rw[aO n6 (by rw[jS,hrl])]
 have k46:=k4.trans k6
 refine aP (fun m ys M7=>∃ j:Nat,m=8 - j∧ys=[N .i64 (j:Int)]∧j≤8∧ae [sb] M M7∧M7.heap sb=some (.row (fU.row ((List.zipWith iC h v).take j++h.drop j)) false TS 0)) _
  ⟨0,rfl,rfl,by omega,k46.mono (by simp),by rw[List.take_zero,List.drop_zero]; exact hs6⟩ ?_
 rintro next m ys M7 hnext ⟨j,rfl,rfl,hj,k7,s7⟩
 simp only[jr]
 rw[EQ 8 (by rfl)]
 refine bg (fun hc=>?_) fun hc=>?_
 ·have hj8:j<8:=of_decide_eq_true hc
  rw[Jk]
  refine⟨by omega,by omega,N .u32 (v.getD j 0), ?_, ?_⟩
  ·rw[Int.toNat_natCast,qW,List.getElem?_map,List.getElem?_eq_getElem (by omega)]
   simp[List.getD,show j<v.length by omega]
  have hl7:=Xo (v:=v) (Nat.le_of_lt hj8) hhl hrl
  rw[kJ,jw rfl hj8,uR s7 (by omega),fq,kJ,jw rfl hj8,Cx s7 (by omega),qz 1 (by omega) (by omega) (by rfl)]
  refine hnext _ _ _ (by omega) ⟨j + 1,rfl,rfl,by omega,k7.put _ (.inr (by simp)), ?_⟩
  rw[ay,Xv hj8 hhl hrl,← VC hj8 hhl hrl]
  rfl
 ·have hj8:j=8:=by have:=of_decide_eq_false hc; omega
  subst hj8
  refine hQ M7 k7 ?_
  rw[s7,List.drop_of_length_le (by omega),List.append_nil,List.take_of_length_le (by rw[List.length_zipWith]; omega)]
end Go.Ab.Sha
set_option maxRecDepth 100000
namespace Go.Ab.Dot
open Go Go.Ab
def vD (p1:Nat) (a0:AV) (M0:RM) (Q:ai) : Prop:=iA false 2 a0 (.sc (.slice none 0 0)) fun h=>au h ( Q (.sc (.slice none 0 0)) M0) ( eO p1 0 [(N .u8 0)] [] fun g e=>aZ g e M0 fun i c=>appW p1 1 1 [(N .u8 0)] false i a0 c fun j d=>Q j d)
end Go.Ab.Dot
set_option maxRecDepth 10000
namespace Go.Ab.Sha
open Go Go.Ab Go.Ab.Sm
def kW:List Int:=[1116352408,1899447441,3049323471,3921009573,961987163,1508970993,2453635748,2870763221,3624381080,310598401,607225278,1426881987,1925078388,2162078206,2614888103,3248222580,3835390401,4022224774,264347078,604807628,770255983,1249150122,1555081692,1996064986,2554220882,2821834349,2952996808,3210313671,3336571891,3584528711,113926993,338241895,666307205,773529912,1294757372,1396182291,1695183700,1986661051,2177026350,2456956037,2730485921,2820302411,3259730800,3345764771,3516065817,3600352804,4094571909,275423344,430227734,506948616,659060556,883997877,958139571,1322822218,1537002063,1747873779,1955562222,2024104815,2227730452,2361852424,2428436474,2756734187,3204031479,3329325298]
def hW:List Int:=[1779033703,3144134277,1013904242,2773480762,1359893119,2600822924,528734635,1541459225]
theorem Gr:kW.length=64:=by decide
theorem LM:hW.length=8:=by decide
def dO (k:List Int) : Nat→List Int→Str→List Int
 | 0,h,_=>h
 | n + 1,h,m=>dO k n (rH h k (m.take 64)) (m.drop 64)
theorem rD {k:List Int} : ∀ {n:Nat} {h:List Int} {m:Str},h.length=8→(dO k n h m).length=8
 | 0,h,m,hl=>hl
 | n + 1,h,m,hl=>rD (n:=n) (h:=rH h k (m.take 64)) (m:=m.drop 64) (Rc k _ hl)
theorem yA {k:List Int} : ∀ {a n:Nat} {h:List Int} {m:Str},dO k (a + n) h m=dO k n (dO k a h m) (m.drop (64 * a))
 | 0,n,h,m=>by rw[Nat.zero_add]; rfl
 | a + 1,n,h,m=>by
   rw[Nat.add_right_comm,dO,dO,yA (a:=a),List.drop_drop,show 64 + 64 * a=64 * (a + 1) by omega]
theorem De {k:List Int} {n:Nat} {h:List Int} {m:Str} : dO k (n + 1) h m=rH (dO k n h m) k ((m.drop (64 * n)).take 64):=by rw[yA]; rfl
theorem Er {k:List Int} : ∀ {n:Nat} {h:List Int} {m p:Str},64 * n≤m.length→dO k n h (m++p)=dO k n h m
 | 0,h,m,p,_=>rfl
 | n + 1,h,m,p,hl=>by
   rw[dO,dO,List.take_append_of_le_length (by omega),List.drop_append_of_le_length (by omega),Er (by rw[List.length_drop]; omega)]
def JX (n:Int) : UInt8:=UInt8.ofNat (n % 256).toNat
theorem Y1 (n:Int) : IntKind.u8.wrap n=n % 256:=by
 simp only[IntKind.wrap,IntKind.bits,IntKind.signed,IntKind.max,IntKind.min]
 simp
theorem Pf (n:Int) : N .u8 (IntKind.u8.wrap n)=By (JX n):=by
 have:((JX n).toNat:Int)=n % 256:=by
  unfold JX
  rw[UInt8.toNat_ofNat']
  have h1:0≤n % 256:=Int.emod_nonneg _ (by decide)
  have h2:n % 256<256:=Int.emod_lt_of_pos _ (by decide)
  rw[Nat.mod_eq_of_lt (by omega)]
  omega
 rw[By,this,Y1]
def zp (L:Nat) : Nat:=(119 - L % 64) % 64
def sM (L:Nat) : Str:=(List.range 8).map fun i=>JX (uN .u64 ((8 * L:Nat) : Int) ((56 - 8 * i:Nat) : Int))
def EH (L:Nat) : Str:=128 :: (List.replicate (zp L) 0++sM L)
def nN (h:List Int) : Str:=(List.range 32).map fun i=>JX (uN .u32 (h.getD (i / 4) 0) ((24 - 8 * (i % 4) : Nat) : Int))
theorem Md (h:List Int) : (nN h).length=32:=by simp[nN]
def IW (b:Str) : Str:=nN (dO kW ((b.length + 9 + zp b.length) / 64) hW (b++EH b.length))
theorem Ng (b:Str) : (IW b).length=32:=Md _
theorem SX (b:Str) : dO kW ((b.length + 9 + zp b.length) / 64) hW (b++EH b.length) =
  dO kW ((b.length - b.length / 64 * 64 + 9 + zp b.length) / 64) (dO kW (b.length / 64) hW b) (b.drop (b.length / 64 * 64)++EH b.length):=by
 have e:(b.length + 9 + zp b.length) / 64=b.length / 64 + (b.length - b.length / 64 * 64 + 9 + zp b.length) / 64:=by omega
 rw[e,yA,Er (by omega),List.drop_append_of_le_length (by omega),Nat.mul_comm 64]
def partsOf:Nat→List Int→List (Nat × Nat × AV)
 | _,[]=>[]
 | i,x :: xs=>(i,1,N .u32 x) :: partsOf (i + 1) xs
theorem Eo:∀ (xs pre:List Int),nA (fU.row (pre++List.replicate xs.length 0)) (partsOf pre.length xs)=some (fU.row (pre++xs))
 | [],pre=>by simp[partsOf,nA]
 | x :: xs,pre=>by
   have h:=Eo xs (pre++[x])
   rw[List.length_append,List.length_singleton] at h
   rw[partsOf,nH (by rw[jS]; simp),show pre++x :: xs=pre++[x]++xs by simp,← h]
   congr 1
   rw[qW,qW,show(N .u32 x)=(fun n=>N .u32 n) x from rfl,← List.map_set,set_mid (by simp)]
   simp
theorem JA {T n:Nat} {xs:List Int} {M:RM} {K:AV→RM→Prop} (hn:xs.length=n) (hK:∀ M',ae [] M M'→K (.agg (fU.row xs)) M') :
  aZ (.row (fU.row (List.replicate n 0)) false T 0) (fun b=>.ptr b 0) M fun t0 M1=>eQ (fU.row (List.replicate n 0)) (partsOf 0 xs) fun t1=>aA M1 t0 t1 n fun M2=>aH M2 t0 n fun res=>K res M2:=by
 subst hn
 rw[aG,jX]
 refine⟨_,Eo xs [], ?_⟩
 have n1:(M.push (.row (fU.row (List.replicate xs.length 0)) false T 0)).heap M.next=some (.row (fU.row (List.replicate xs.length 0)) false T 0):=by simp[RM.push]
 rw[List.nil_append,CU n1 (by rw[jS]) (by rw[jS,List.length_replicate]) (fU.lD _),aO (ay _) (by rw[jS])]
 exact hK _ (((ae.refl _ _).push _).new _ (Nat.le_refl _))
def yZ (xs:List Int) (c:aj) : Prop:=∀ {M:RM} {Q:ai},(∀ M',ae [] M M'→Q (.agg (fU.row xs)) M')→c [] M Q
theorem Hz {T:Nat} : yZ kW fun args M Q=>args=[]∧qb T M Q:=by
 intro M Q hQ
 refine⟨rfl, ?_⟩
 unfold qb
 exact JA (xs:=kW) (n:=64) Gr hQ
theorem Rt {T:Nat} : yZ hW fun args M Q=>args=[]∧xS T M Q:=by
 intro M Q hQ
 refine⟨rfl, ?_⟩
 unfold xS
 exact JA (xs:=hW) (n:=8) LM hQ
def MZ (T:Nat) (c:aj) : Prop:=∀ {M:RM} {v:AV} {s:Str} {Q:ai},Sl BY M v s→s.length≤1000000000→(∀ v' M',Ow BY M' M.next T v' s→ae [] M M'→Q v' M')→c [v] M Q
theorem QY {T:Nat} : MZ T fun args M Q=>∃ a0,args=[a0]∧Go.Ab.Dot.vD T a0 M Q:=by
 intro M v s Q hv hl hQ
 refine⟨_,rfl, ?_⟩
 unfold Go.Ab.Dot.vD
 rcases dQ.AJ hv false with⟨rfl,he⟩ | ⟨hne,he⟩
 ·rw[he,show(!false)=true from rfl,eU]
  have:s=[]:=by
   unfold Sl at hv
   cases s with
   | nil=>rfl
   | cons x s=>generalize hcs:BY.row (x :: s)=cs at *; generalize hn:(x :: s).length=n at *; cases hv; cases hcs
  subst this
  exact hQ aB M .nil (ae.refl _ _)
 ·rw[he,dI,ZL]
  simp only[aG]
  have k1:ae [] M (M.push (.row [] false T 0)):=(ae.refl _ _).push _
  refine IE (E:=BY) (Ow.lit BY M) (by simp[RM.push]) (by decide) (dQ.keep hv k1 (by simp)) (by simp; omega) (by simp; omega) fun v7 M7 o7 k7 _ _=>?_
  refine hQ v7 M7 (by simpa using o7) ?_
  refine ae.own k1 k7 (fun b hb=>?_)
  simp[aC] at hb; omega
theorem V4 {L i:Nat} (hi:i<8) : (sM L).take (i + 1)=(sM L).take i++[JX (uN .u64 ((8 * L:Nat) : Int) ((56 - 8 * i:Nat) : Int))]:=by
 have hl:i<(sM L).length:=by simp[sM]; exact hi
 rw[List.take_succ_eq_append_getElem hl]
 simp[sM]
theorem Vy {d:Str} {n i:Nat} {x:UInt8} (hi:i<n) (hd:d.length=n) (hx:d[i]?=some x) : (d.take i++List.replicate (n - i) 0).set i x=d.take (i + 1)++List.replicate (n - (i + 1)) 0:=by
 have hl:(d.take i).length=i:=by rw[List.length_take]; omega
 have hx' : d[i]'(by omega)=x:=by rw[List.getElem?_eq_getElem (by omega)] at hx; exact Option.some.inj hx
 obtain⟨m,hm⟩ : ∃ m,n - i=m + 1:=⟨n - i - 1,by omega⟩
 rw[hm,List.replicate_succ,List.set_append_right _ _ (by omega),hl,Nat.sub_self,List.set_cons_zero,List.take_succ_eq_append_getElem (by omega),hx',List.append_assoc,show n - (i + 1)=m by omega]
 rfl
def Vv (c:aj) : Prop:=∀ {M:RM} {v:AV} {b:Str} {Q:ai},Bs M v b→b.length≤100000000→(∀ M',ae [] M M'→Q (.agg (BY.row (IW b))) M')→c [v] M Q
theorem U6 {T32 TK TS T8:Nat} {cc cf ct cl:aj} (hc:yZ kW cc) (hf:yZ hW cf) (ht:Ry TK TS ct) (hcl:MZ T8 cl) : Vv fun args M Q=>∃ a0,args=[a0]∧Cw T32 cc TK cf TS ct cl T8 a0 M Q:=by
 intro M v b Q hv hl hQ
 refine⟨_,rfl, ?_⟩
 unfold Cw
 rw[aG]
 have k1:ae [] M (M.push (.row (BY.row (List.replicate 32 0)) false T32 0)):=(ae.refl _ _).push _
 have n1:(M.push (.row (BY.row (List.replicate 32 0)) false T32 0)).heap M.next=some (.row (BY.row (List.replicate 32 0)) false T32 0):=by simp[RM.push]
 have l1:M.next<(M.push (.row (BY.row (List.replicate 32 0)) false T32 0)).next:=by simp[RM.push]
 show cc _ (M.push (.row (BY.row (List.replicate 32 0)) false T32 0)) _
 generalize M.push (.row (BY.row (List.replicate 32 0)) false T32 0)=M1 at *
 refine hc fun M2 k2=>?_
 have zz:∀ n,(fU.row (List.replicate n 0)).length=n:=fun n=>by rw[jS,List.length_replicate]
 refine WX (K:=fun t aaM=>_) (z:=fU.row (List.replicate 64 0)) 64 (zz 64) (by rw[jS,Gr]) (fU.lD _) fun M3 k3 n3 l3=>?_
 refine hf fun M4 k4=>?_
 refine WX (K:=fun t aaM=>_) (z:=fU.row (List.replicate 8 0)) 8 (zz 8) (by rw[jS,LM]) (fU.lD _) fun M5 k5 n5 l5=>?_
 have hk34:=k4.next
 have hk23:=k3.next
 have k35:ae [] M3 M5:=k4.trans k5
 have n35:=k35.ax n3 l3 (by simp)
 have l35:M2.next<M5.next:=Nat.lt_of_lt_of_le l3 k35.next
 have k05:ae [] M M5:=k1.trans (k2.trans (k3.trans k35))
 have k25:ae [] M2 M5:=k3.trans k35
 have n15:=(k2.trans k25).ax n1 l1 (by simp)
 have l15:M.next<M5.next:=Nat.lt_of_lt_of_le l1 (k2.trans k25).next
 have hl1:M.next<M2.next:=Nat.lt_of_lt_of_le l1 k2.next
 have hne:M2.next≠M4.next:=by omega
 have hv5:=hv.keep k05 (by simp)
 have abB:=hv.lt
 have hvn:∀ x∈aC v,x ∉ [M4.next]:=fun x hx hm=>by have:=abB x hx; simp at hm; omega
 rw[hv5.len,MM]
 refine⟨by decide, ?_⟩
 have e1:IntKind.i64.wrap ((b.length:Int).tdiv 64)=((b.length / 64:Nat) : Int):=by
  rw[show(b.length:Int).tdiv 64=((b.length / 64:Nat) : Int) by rw[Int.natCast_ediv]; exact Int.tdiv_eq_ediv_of_nonneg (by omega)]
  exact fw (by omega) (by omega)
 rw[e1,uG,show IntKind.i64.wrap (((b.length / 64:Nat) : Int) * 64)=((b.length / 64 * 64:Nat) : Int) by rw[fw (by omega) (by omega)]; omega]
 generalize hwe:b.length / 64=q at *
 have hq:q * 64≤b.length∧b.length<q * 64 + 64:=by omega
 refine aP (fun m ys M6=>∃ j:Nat,m=q - j∧ys=[N .i64 ((j * 64:Nat) : Int)]∧j≤q∧ae [M4.next] M5 M6∧M6.heap M4.next=some (.row (fU.row (dO kW j hW b)) false TS 0)) _
  ⟨0,rfl,rfl,by omega,ae.refl _ _,n5⟩ ?_
 rintro next m ys M6 hnext ⟨j,rfl,rfl,hj,k6,n6⟩
 simp only[jr]
 have l6:M4.next<M6.next:=Nat.lt_of_lt_of_le l5 k6.next
 have n36:=k6.ax n35 l35 (by simp; omega)
 have l36:M2.next<M6.next:=Nat.lt_of_lt_of_le l35 k6.next
 have hv6:=hv5.keep k6 hvn
 have VR:(dO kW j hW b).length=8:=rD LM
 rw[jQ]
 refine bg (fun hc=>?_) fun hc=>?_
 ·have hjq:j<q:=by have:=of_decide_eq_true hc; omega
  rw[qz 64 (by omega) (by omega) (by rfl)]
  refine hv6.sub (Na _ _ _) (Na _ _ _) (by omega) (by omega) fun v7 h7 hs7=>?_
  rw[show j * 64 + 64 - j * 64=64 by omega] at h7
  refine ht n6 l6 VR n36 l36 hne Gr h7 (by rw[List.length_take,List.length_drop]; omega) fun M7 k7 n7=>?_
  rw[qz 64 (by omega) (by omega) (by rfl),show j * 64 + 64=(j + 1) * 64 by omega]
  refine hnext _ _ _ (by omega) ⟨j + 1,rfl,rfl,by omega,k6.trans k7, ?_⟩
  rw[De,Nat.mul_comm 64]
  exact n7
 have hjq:j=q:=by have:=of_decide_eq_false hc; omega
 subst hjq
 clear hnext
 refine hv6.sub (Na _ _ _) (abr _) (by omega) (Nat.le_refl _) fun v7 h7 hs7=>?_
 rw[List.take_of_length_le (by simp)] at h7
 have hdl:(b.drop (j * 64)).length=b.length - j * 64:=List.length_drop
 refine hcl h7.sl (by omega) fun v8 M8 o8 k8=>?_
 rw[kE (by rfl) (by rfl) (by rfl),aG]
 refine oW (E:=BY) (a:=(128:UInt8)) o8 k8.next (by decide) (by omega) (by omega) fun v9 M9 o9 k9 _ _=>?_
 have k69:ae [] M6 M9:=ae.own k8 k9 (fun x hx=>(Own.blk o8 x hx).1)
 have hzp:zp b.length<64:=Nat.mod_lt _ (by decide)
 have hz:(b.length - j * 64 + 1 + zp b.length) % 64=56:=by unfold zp; omega
 refine aP (fun m ys M10=>∃ (i:Nat) (rv:AV),m=zp b.length - i∧ys=[rv]∧i≤zp b.length∧ae [] M6 M10∧Ow BY M10 M6.next T8 rv (b.drop (j * 64)++128 :: List.replicate i 0)) _
  ⟨0,v9,rfl,rfl,by omega,k69,o9⟩ ?_
 rintro next m ys M10 hnext ⟨i,rv,rfl,rfl,hi,k10,o10⟩
 simp only[jr]
 have hrl:(b.drop (j * 64)++128 :: List.replicate i 0).length=b.length - j * 64 + 1 + i:=by simp; omega
 rw[dQ.len (Own.uK o10),hrl,K7]
 refine⟨by decide, ?_⟩
 rw[show(((b.length - j * 64 + 1 + i:Nat) : Int)).tmod 64=(((b.length - j * 64 + 1 + i) % 64:Nat) : Int) by rw[Int.natCast_emod]; exact Int.tmod_eq_emod_of_nonneg (by omega),dM]
 refine bg (fun hc=>?_) fun hc=>?_
 ·have hne:(b.length - j * 64 + 1 + i) % 64≠56:=fun e=>by rw[e] at hc; cases hc
  have hlt:i<zp b.length:=by
   rcases Nat.lt_or_ge i (zp b.length) with h | h
   ·exact h
   ·have:i=zp b.length:=by omega
    subst this; exact absurd hz hne
  rw[kE (by rfl) (by rfl) (by rfl),aG]
  refine oW (E:=BY) (a:=(0:UInt8)) o10 k10.next (by decide) (by omega) (by omega) fun v11 M11 o11 k11 _ _=>?_
  refine hnext _ _ _ (by omega) ⟨i + 1,v11,rfl,rfl,by omega,ae.own k10 k11 (fun x hx=>(Own.blk o10 x hx).1), ?_⟩
  have e:b.drop (j * 64)++128 :: List.replicate (i + 1) 0=b.drop (j * 64)++128 :: List.replicate i 0++[0]:=by rw[List.replicate_succ']; simp
  rw[e]; exact o11
 have hi56:(b.length - j * 64 + 1 + i) % 64=56:=by
  have:((((b.length - j * 64 + 1 + i) % 64:Nat) : Int) != 56)=false:=hc
  have:=bne_eq_false_iff_eq.1 this
  omega
 have hiz:i=zp b.length:=by omega
 subst hiz
 clear hnext
 generalize hpre:b.drop (j * 64)++128 :: List.replicate (zp b.length) 0=P at *
 refine aP (fun m ys M11=>∃ (i:Nat) (rv:AV),m=8 - i∧ys=[rv,N .i64 (i:Int)]∧i≤8∧ae [] M6 M11∧Ow BY M11 M6.next T8 rv (P++(sM b.length).take i)) _
  ⟨0,rv,rfl,rfl,by omega,k10,by rw[List.take_zero,List.append_nil]; exact o10⟩ ?_
 rintro next m ys M11 hnext ⟨i,rv2,rfl,rfl,hi,k11,o11⟩
 simp only[jr,Jt]
 have aaV:=hv6.keep k11 (by simp)
 have hll:((sM b.length).take i).length=i:=by rw[List.length_take]; simp[sM]; omega
 have hpl:(P++(sM b.length).take i).length=b.length - j * 64 + 1 + zp b.length + i:=by rw[List.length_append,hrl,hll]
 rw[EQ 8 (by rfl)]
 refine bg (fun hc=>?_) fun hc=>?_
 ·have hi8:i<8:=of_decide_eq_true hc
  rw[aaV.len,rY,Eu (by omega) (by omega),uG,Eu (by omega) (by omega),uG,fw (by omega) (by omega),mM,fw (by omega) (by omega),uu]
  refine⟨by omega, ?_⟩
  rw[rY,show((b.length:Int) * 8)=((8 * b.length:Nat) : Int) by omega,show(56 - 8 * (i:Int))=((56 - 8 * i:Nat) : Int) by omega,Pf,kE (by rfl) (by rfl) (by rfl),aG]
  refine oW (E:=BY) (a:=JX (uN .u64 ((8 * b.length:Nat) : Int) ((56 - 8 * i:Nat) : Int))) o11 k11.next (by decide) (by omega) (by omega) fun v12 M12 o12 k12 _ _=>?_
  rw[qz 1 (by omega) (by omega) (by rfl)]
  refine hnext _ _ _ (by omega) ⟨i + 1,v12,rfl,rfl,by omega,ae.own k11 k12 (fun x hx=>(Own.blk o11 x hx).1), ?_⟩
  rw[V4 hi8,← List.append_assoc]
  exact o12
 have hi8:i=8:=by have:=of_decide_eq_false hc; omega
 subst hi8
 clear hnext
 rw[List.take_of_length_le (by simp[sM])] at o11 hpl
 have hfull:P++sM b.length=b.drop (j * 64)++EH b.length:=by rw[← hpre]; simp[EH]
 rw[hfull] at o11 hpl
 have hrest:(b.drop (j * 64)++EH b.length).length=b.length - j * 64 + 9 + zp b.length:=by rw[hpl]; omega
 generalize hRe:b.drop (j * 64)++EH b.length=R at *
 have hmod:(b.length - j * 64 + 9 + zp b.length) % 64=0:=by omega
 obtain⟨n,hn⟩ : ∃ n,b.length - j * 64 + 9 + zp b.length=64 * n:=⟨(b.length - j * 64 + 9 + zp b.length) / 64,by omega⟩
 rw[hn] at hrest
 have abO:=Bs.own o11
 have n11:=k11.ax n6 l6 (by simp)
 have n311:=k11.ax n36 l36 (by simp)
 have l11:M4.next<M11.next:=Nat.lt_of_lt_of_le l6 k11.next
 have YO:M2.next<M11.next:=Nat.lt_of_lt_of_le l36 k11.next
 generalize hH:dO kW j hW b=H at *
 have hrn:∀ x∈aC rv2,x ∉ [M4.next]:=fun x hx hm=>by
  have:=(Own.blk o11 x hx).1
  simp at hm; omega
 refine aP (fun m ys M12=>∃ i:Nat,m=n - i∧ys=[N .i64 ((i * 64:Nat) : Int)]∧i≤n∧ae [M4.next] M11 M12∧M12.heap M4.next=some (.row (fU.row (dO kW i H R)) false TS 0)) _
  ⟨0,rfl,rfl,by omega,ae.refl _ _,n11⟩ ?_
 rintro next m ys M12 hnext ⟨i,rfl,rfl,hi,k12,n12⟩
 simp only[jr]
 have l12:M4.next<M12.next:=Nat.lt_of_lt_of_le l11 k12.next
 have n312:=k12.ax n311 YO (by simp; omega)
 have abq:M2.next<M12.next:=Nat.lt_of_lt_of_le YO k12.next
 have Yl:=abO.keep k12 hrn
 rw[Yl.len,jQ]
 refine bg (fun hc=>?_) fun hc=>?_
 ·have hin:i<n:=by have:=of_decide_eq_true hc; omega
  rw[qz 64 (by omega) (by omega) (by rfl)]
  refine Yl.sub (Na _ _ _) (Na _ _ _) (by omega) (by omega) fun v13 h13 hs13=>?_
  rw[show i * 64 + 64 - i * 64=64 by omega] at h13
  refine ht n12 l12 (rD VR) n312 abq hne Gr h13 (by rw[List.length_take,List.length_drop]; omega) fun M13 k13 n13=>?_
  rw[qz 64 (by omega) (by omega) (by rfl),show i * 64 + 64=(i + 1) * 64 by omega]
  refine hnext _ _ _ (by omega) ⟨i + 1,rfl,rfl,by omega,k12.trans k13, ?_⟩
  rw[De,Nat.mul_comm 64]
  exact n13
 have hin:i=n:=by have:=of_decide_eq_false hc; omega
 subst hin
 clear hnext
 have aaG:IW b=nN (dO kW i H R):=by
  unfold IW
  rw[SX,hwe,hRe,hH,hn,Nat.mul_div_cancel_left _ (by decide)]
 have hF:(dO kW i H R).length=8:=rD VR
 generalize dO kW i H R=F at *
 have hdF:=Md F
 rw[aG]
 have U3:ae [M4.next] M5 M12:=k6.trans ((k11.mono (by simp)).trans k12)
 have n112:=U3.ax n15 l15 (by simp; omega)
 have aaC:M.next<M12.next:=Nat.lt_of_lt_of_le l15 U3.next
 have k14:ae [] M12 (M12.push (.row (BY.row (List.replicate 32 0)) false T32 0)):=(ae.refl _ _).push _
 have n14:(M12.push (.row (BY.row (List.replicate 32 0)) false T32 0)).heap M12.next=some (.row (BY.row ((nN F).take 0++List.replicate (32 - 0) 0)) false T32 0):=by simp[RM.push]
 have l14:M12.next<(M12.push (.row (BY.row (List.replicate 32 0)) false T32 0)).next:=by simp[RM.push]
 show bA _ _ (M12.push (.row (BY.row (List.replicate 32 0)) false T32 0))
 generalize M12.push (.row (BY.row (List.replicate 32 0)) false T32 0)=M14 at *
 refine aP (fun m ys M15=>∃ i:Nat,m=32 - i∧ys=[N .i64 (i:Int)]∧i≤32∧ae [] M12 M15∧M12.next<M15.next∧M15.heap M12.next=some (.row (BY.row ((nN F).take i++List.replicate (32 - i) 0)) false T32 0)) _
  ⟨0,rfl,rfl,by omega,k14,l14,n14⟩ ?_
 rintro next m ys M15 hnext ⟨i',rfl,rfl,hi',k15,aaT,n15'⟩
 simp only[jr]
 have aaX:=k15.ax n12 l12 (by simp)
 rw[EQ 32 (by rfl)]
 refine bg (fun hc=>?_) fun hc=>?_
 ·have Cv:i'<32:=of_decide_eq_true hc
  rw[MM]
  refine⟨by decide, ?_⟩
  rw[show IntKind.i64.wrap (((i' : Nat) : Int).tdiv 4)=((i' / 4:Nat) : Int) by
   rw[show((i' : Nat) : Int).tdiv 4=((i' / 4:Nat) : Int) by rw[Int.natCast_ediv]; exact Int.tdiv_eq_ediv_of_nonneg (by omega)]
   exact fw (by omega) (by omega)]
  rw[jw rfl (by omega),uR aaX (by omega),K7]
  refine⟨by decide, ?_⟩
  rw[show(((i' : Nat) : Int)).tmod 4=((i' % 4:Nat) : Int) by rw[Int.natCast_emod]; exact Int.tmod_eq_emod_of_nonneg (by omega),uG,fw (by omega) (by omega),mM,fw (by omega) (by omega),uu]
  refine⟨by omega, ?_⟩
  rw[rY,Pf,jw rfl Cv,show(24 - 8 * ((i' % 4:Nat) : Int))=((24 - 8 * (i' % 4) : Nat) : Int) by omega]
  have hget:(nN F)[i']?=some (JX (uN .u32 (F.getD (i' / 4) 0) ((24 - 8 * (i' % 4) : Nat) : Int))):=by
   simp[nN,Cv]
  have hset:=Vy Cv hdF hget
  have hrow15:((nN F).take i'++List.replicate (32 - i') 0).length=32:=by rw[List.length_append,List.length_take,List.length_replicate]; omega
  rw[bN (BY.row ((nN F).take (i' + 1)++List.replicate (32 - (i' + 1)) 0)) n15' (by rw[uQ]; omega) rfl rfl (by rw[← hset,rQ,rQ,List.map_set]),qz 1 (by omega) (by omega) (by rfl)]
  exact hnext _ _ _ (by omega) ⟨i' + 1,rfl,rfl,by omega,k15.new _ (Nat.le_refl _),aaT,ay _⟩
 ·have Cv:i'=32:=by have:=of_decide_eq_false hc; omega
  subst Cv
  have e:(nN F).take 32++List.replicate (32 - 32) 0=nN F:=by rw[List.take_of_length_le (by omega)]; simp
  rw[e] at n15'
  have n115:=k15.ax n112 aaC (by simp)
  rw[aO n15' (by rw[uQ,hdF]),CU n115 (by rw[uQ,hdF]) (by rw[uQ,List.length_replicate]) (BY.lD _),aO (ay _) (by rw[uQ,hdF]),← aaG]
  have Wl:ae [M4.next] M M12:=(k05.mono (by simp)).trans U3
  have Z7:ae [] M M12:=⟨Wl.base,Wl.next,fun x hx _=>Wl.heap x hx (by simp; omega)⟩
  exact hQ _ ((Z7.trans k15).new _ (Nat.le_refl _))
theorem Td {p:UInt8→Bool} (h:(List.range 256).all (fun n=>p (UInt8.ofNat n))=true) (x:UInt8) : p x=true:=by
 have:=List.all_eq_true.1 h x.toNat (List.mem_range.2 x.toNat_lt)
 simpa using this
abbrev Wm:Str:=[48,49,50,51,52,53,54,55,56,57,97,98,99,100,101,102]
def hx (n:Nat) : UInt8:=Wm.getD n 0
def A9 (d:Str) : Str:=d.flatMap fun x=>[hx (x.toNat / 16),hx (x.toNat % 16)]
theorem NN (d:Str) : (A9 d).length=2 * d.length:=by
 induction d with
 | nil=>rfl
 | cons x d ih=>unfold A9 at ih ⊢; rw[List.flatMap_cons,List.length_append,ih,List.length_cons]; simp; omega
theorem Sk (d:Str) {i:Nat} (h:i<d.length) : A9 (d.take (i + 1))=A9 (d.take i)++[hx (d[i].toNat / 16),hx (d[i].toNat % 16)]:=by
 rw[List.take_succ_eq_append_getElem h]
 unfold A9
 rw[List.flatMap_append]
 simp
def qHi (x:UInt8) : Bool:=uN .u8 (x.toNat:Int) 4 == ((x.toNat / 16:Nat) : Int)
def qLo (x:UInt8) : Bool:=Ay .u8 (x.toNat:Int) 15 == ((x.toNat % 16:Nat) : Int)
theorem XD:∀ x,qHi x=true:=Td (by decide +kernel)
theorem XO:∀ x,qLo x=true:=Td (by decide +kernel)
theorem aad (x:UInt8) : uN .u8 (x.toNat:Int) 4=((x.toNat / 16:Nat) : Int):=eq_of_beq (XD x)
theorem ZE (x:UInt8) : Ay .u8 (x.toNat:Int) 15=((x.toNat % 16:Nat) : Int):=eq_of_beq (XO x)
theorem Wq {n:Nat} (h:n<16) {k:IntKind} {K:AV→Prop} : dG (St Wm) (N k (n:Int)) K=K (By (hx n)):=by
 rw[DJ (by show n<16; exact h)]
 have:Wm[n]'(by show n<16; exact h)=hx n:=by
  unfold hx
  rw[List.getD_eq_getElem?_getD,List.getElem?_eq_getElem (by show n<16; exact h)]; rfl
 rw[this]
theorem aae {T:Nat} {a b z:AV} {K:RB→(Nat→AV)→Prop} (ha:a.cells=[a]) (hb:b.cells=[b]) (ha1:oneCell a=true) (hb1:oneCell b=true) :
  eO T 2 [z] [(0,1,a),(1,1,b)] K=K (.row [a,b] false T 0) (fun b=>.slc b 0 2 (.ex 2)):=by
 have:uk (nM [z] 2) [(0,1,a),(1,1,b)]=some [a,b]:=by simp[uk,nM,ha,hb,ha1,hb1]
 apply propext; unfold eO
 constructor
 ·rintro⟨l,h,hk⟩; rw[this] at h; cases h; exact hk
 ·intro hk; exact⟨_,this,hk⟩
theorem XF {M:RM} {base T:Nat} {v:AV} {xs:Str} {x y:UInt8} {zs:List AV} {K:ai} (ho:Ow BY M base T v xs) (hb:base≤M.next) (hn:xs.length≤1000000000)
  (hK:∀ v' M',Ow BY M' base T v' (xs++[x,y])→ae (aC v) M M'→K v' M') :
  appW T 1 1 zs false v (.slc M.next 0 2 (.ex 2)) (M.push (.row [By x,By y] false T 0)) K:=by
 have hk:ae [] M (M.push (.row (BY.row [x,y]) false T 0)):=(ae.refl _ _).push _
 refine IE (E:=BY) (ys:=[x,y]) (Own.keep ho hk (by simp)) (Nat.le_trans hb hk.next) (by decide) (Sl.new [x,y]) (by simp; omega) (by simp; omega) fun v' M' h1 h2 _ _=>?_
 exact hK v' M' h1 ((hk.mono (by simp)).trans h2)
def Re (c:aj) : Prop:=∀ {M:RM} {d:Str} {Q:ai},d.length=32→(∀ M',ae [] M M'→Q (St (A9 d)) M')→c [.agg (BY.row d)] M Q
theorem YY {d:Str} {i:Nat} (h:i<d.length) : (BY.row d)[i]?=some (By d[i]):=by rw[rQ,List.getElem?_map,List.getElem?_eq_getElem h]; rfl
theorem Uh {T32 T8:Nat} : Re fun args M Q=>∃ a0,args=[a0]∧BI T32 T8 a0 M Q:=by
 intro M d Q hd hQ
 refine⟨_,rfl, ?_⟩
 unfold BI
 rw[iZ (BY.lD d) (by rw[uQ]; omega),aG]
 have k0:ae [] M (M.push (.row (BY.row d) false T32 0)):=(ae.refl _ _).push _
 have n0:(M.push (.row (BY.row d) false T32 0)).heap M.next=some (.row (BY.row d) false T32 0):=by simp[RM.push]
 generalize M.push (.row (BY.row d) false T32 0)=M0 at *
 rw[aO n0 (by rw[uQ,hd])]
 refine aP (fun m ys M3=>∃ (i:Nat) (ov:AV),m=32 - i∧ys=[ov,N .i64 (i:Int)]∧i≤32∧ae [] M M3∧Ow BY M3 M.next T8 ov (A9 (d.take i))) _ ⟨0,aB,rfl,rfl,by omega,k0,.nil⟩ ?_
 rintro next m ys M3 hnext ⟨i,ov,rfl,rfl,hi,k3,o3⟩
 simp only[jr,Jt]
 rw[EQ 32 (by rfl)]
 refine bg (fun hc=>?_) fun hc=>?_
 ·have Cv:i<32:=of_decide_eq_true hc
  have hid:i<d.length:=by omega
  have hlt:=Kz d[i]
  rw[Jk]
  refine⟨by omega,by omega,By d[i],by rw[Int.toNat_natCast]; exact YY hid, ?_⟩
  rw[By,uu]
  refine⟨by decide, ?_⟩
  rw[aad,Wq (by omega),lV,ZE,Wq (by omega),aae rfl rfl rfl rfl,OJ]
  have hhl:=NN (d.take i)
  have htl:(d.take i).length=i:=by rw[List.length_take]; omega
  refine XF o3 k3.next (by omega) fun v4 M4 o4 k4=>?_
  rw[qz 1 (by omega) (by omega) (by rfl)]
  refine hnext _ _ _ (by omega) ⟨i + 1,v4,rfl,rfl,by omega,ae.own k3 k4 (fun x hx=>(Own.blk o3 x hx).1), ?_⟩
  rw[Sk d hid]; exact o4
 ·have Cv:i=32:=by have:=of_decide_eq_false hc; omega
  subst Cv
  rw[List.take_of_length_le (by omega)] at o3
  rw[Sl.str (Own.uK o3)]
  exact hQ M3 k3
def eT (b:Str) : Str:=A9 (IW b)
theorem J4 (b:Str) : (eT b).length=64:=by unfold eT; rw[NN,Ng]
end Go.Ab.Sha
namespace Go.Ab.Vc
open Go Go.Ab Go.Ab.Vl Go.Ab.Sm
theorem WV {α:Type} {R:kg α} {M:RM} {v:AV} {xs:List α} {S:Nat→Prop} (h:bE R M v xs S) (hc:MS R.size v) (h0:0<xs.length) {K:AV→Prop}
  (hK:∀ v',bE R M v' (xs.drop 1) S→K v') : bO (kT R.size v (some (N .i64 1)) none none) K:=by
 obtain⟨cs,h1,h2,h3⟩:=h
 have hl:=h3.len
 have h3':=h3.drop 1
 have hlen:(xs.drop 1).length=xs.length - 1:=by simp
 generalize hn:xs.length=n at h1
 cases h1 with
 | nil=>omega
 | emp=>omega
 | slc b o _ cap cs hb hld =>
   have hp:=Gb hld (1 * R.size) ((n - 1) * R.size) (by rw[← Nat.add_mul]; exact Nat.mul_le_mul_right _ (by omega))
   have hcs:(cs.drop (1 * R.size)).take ((n - 1) * R.size)=cs.drop (1 * R.size):=by
    apply List.take_of_length_le
    rw[List.length_drop,hl,hn,Nat.sub_mul]; omega
   rw[hcs] at hp
   have b1:bnd 0 (some (N .i64 (1:Int)))=some 1:=rfl
   have b2:∀ k,bnd k none=some k:=fun _=>rfl
   have mk:∀ cap',bE R M (.slc b (o + 1 * R.size) (n - 1) cap') (xs.drop 1) S:=fun cap'=>⟨_,by rw[hlen,hn]; exact .slc _ _ _ _ _ hb hp,fun x hx=>h2 x hx,h3'⟩
   have zero:n=1→∀ {w:AV},(∀ x∈aC w,S x)→dQ M R.size w [] 0→bE R M w (xs.drop 1) S:=by
    intro e w hw hr
    have:xs.drop 1=[]:=List.drop_eq_nil_of_le (by omega)
    rw[this]
    exact⟨[],hr,hw,.nil⟩
   have hSb:S b:=h2 b (by simp[aC])
   cases cap with
   | ex c =>
     have hc:n≤c:=hc
     by_cases e:c=1
     ·subst e
      refine⟨.slc b o 0 (.ex 0),by simp only[kT,b1,b2]; rw[if_pos ⟨by omega,by omega⟩]; simp,hK _ (zero (by omega) (fun x hx=>by simp[aC] at hx; subst hx; exact hSb) (.slc _ _ _ _ _ hb ?_))⟩
      have:=Gb hld 0 0 (by omega)
      simpa using this
     ·exact⟨_,by simp only[kT,b1,b2]; rw[if_pos ⟨by omega,by omega⟩,if_neg e],hK _ (mk _)⟩
   | op esz =>
     have hc:esz=R.size:=hc
     subst hc
     by_cases e:n≤1
     ·exact⟨.emp b,by simp only[kT,b1,b2]; simp[e]; omega,hK _ (zero (by omega) (fun x hx=>by simp[aC] at hx) (.emp _))⟩
     ·exact⟨_,by simp only[kT,b1,b2]; simp only[and_true]; rw[if_pos ⟨by omega,by omega⟩,if_neg e],hK _ (mk _)⟩
def GI (x:Li) : Bool:=decide (x.1.n=jG) && decide (x.1.g=[])
def Rk (B:Base) (c:aj) : Prop:=∀ {M:RM} {v:AV} {ls:List Li} {S:Nat→Prop} {all:Str} {Q:ai},bE iO M v ls S→ls.length≤200000→all.length≤100000000→(∀ M',ae [] M M'→Q (St (jh Sha.eT ls all)) M')→c [v,St all] M Q
theorem Tw {B:Base} {TL TU:Nat} {cs ch:aj} (hs:Sha.Vv cs) (hh:Sha.Re ch) : Rk B fun args M Q=>∃ a0 a1,args=[a0,a1]∧pO TL TU cs ch a0 a1 M Q:=by
 intro M v ls S all Q hv hlen hal hQ
 refine⟨_,_,rfl, ?_⟩
 unfold pO
 simp only[dS,dK]
 have hf:jh Sha.eT ls all=match ls.find? GI with
  | some x=>if 1≤x.1.v.length∧x.1.v.length≤64 then x.1.v else[99,45]++(Sha.eT all).take 16
  | none=>[99,45]++(Sha.eT all).take 16:=rfl
 rw[hf] at hQ
 refine bQ (fun ys M'=>ae [] M M'∧jh Sha.eT ls all=[99,45]++(Sha.eT all).take 16) ?_ ?_
 ·rintro ys M1 ⟨k1,he⟩
  rw[hf] at he
  rw[he] at hQ
  rw[sw,aG]
  have k2:ae [] M1 (M1.push (.row (BY.row all) true TU 0)):=(ae.refl _ _).push _
  have o2:Ow BY (M1.push (.row (BY.row all) true TU 0)) M1.next TU (.slc M1.next 0 all.length (.op 1)) all:=.op _ _ _ (Nat.le_refl _) (by simp[RM.push]) (RM.aS _) (by simp[BY,Enc.fQ])
  generalize M1.push (.row (BY.row all) true TU 0)=M2 at *
  refine hs (Sha.Bs.own o2) hal fun M3 k3=>?_
  refine hh (Sha.Ng all) fun M4 k4=>?_
  have h64:(Sha.A9 (Sha.IW all)).length=64:=Sha.J4 all
  rw[show(N .i64 (16:Int))=N .i64 ((16:Nat) : Int) from rfl,gZ (by omega),dR,bM]
  refine⟨by simp; omega, ?_⟩
  exact hQ M4 (((k1.trans k2).trans k3).trans k4)
 intro J hJ
 rw[hv.len]
 refine aP (fun m ys M1=>∃ i:Nat,m=ls.length - i∧ys=[N .i64 (i:Int)]∧i≤ls.length∧ae [] M M1∧(ls.drop i).find? GI=ls.find? GI) _
  ⟨0,rfl,rfl,Nat.zero_le _,ae.refl _ _,rfl⟩ ?_
 rintro next m ys M1 hnext ⟨i,rfl,rfl,hi,k1,he⟩
 dsimp only[ag]
 have hv1:=hv.keep k1 (bs:=[]) (by simp)
 rw[jQ]
 refine bg (fun h=>?_) (fun h=>?_)
 rotate_left 1
 ·have h:¬ i<ls.length:=of_decide_eq_false h
  rw[List.drop_eq_nil_of_le (by omega)] at he
  refine hJ _ _ ⟨k1, ?_⟩
  rw[hf,← he]; rfl
 have h:i<ls.length:=of_decide_eq_true h
 obtain⟨pw,hpw,hq,_⟩:=wS hv1 h
 rw[hq,aG]
 rw[List.drop_eq_getElem_cons h,List.find?_cons] at he
 generalize ls[i]=x at *
 have hall:([St x.1.g,St x.1.n,pw,St x.1.v,N .i64 x.2] : List AV).all oneCell=true:=by simp[fF,hpw.one]
 refine zv (b:=0) 5 rfl rfl _ rfl hall rfl fun M2 k2 n2 h2=>?_
 rw[bi,az h2 rfl,mR]
 refine qo (p:=x.1.g != []) (fun hc kk hk=>?_) ?_
 ·rw[bi,az h2 rfl,mR]; exact hk
 have hu:GI x=!((x.1.n != jG) || (x.1.g != [])):=by
  unfold GI
  by_cases h1:x.1.n=jG <;> by_cases h2:x.1.g=[] <;> simp[h1,h2]
 refine bg (fun hc=>?_) (fun hc=>?_)
 ·rw[hu,hc] at he
  rw[add1 (by omega)]
  exact hnext _ _ _ (by omega) ⟨i + 1,rfl,rfl,by omega,k1.trans k2,he⟩
 ·rw[hu,hc] at he
  simp only[Bool.not_false] at he
  rw[bi,az h2 rfl,bC,show(N .i64 (1:Int))=N .i64 ((1:Nat) : Int) from rfl,fK]
  have hd:jh Sha.eT ls all=if 1≤x.1.v.length∧x.1.v.length≤64 then x.1.v else[99,45]++(Sha.eT all).take 16:=by rw[hf,← he]
  rw[← hf,hd] at hQ
  refine wN (p:=decide (x.1.v.length≤64)) (fun hc kk hk=>?_) ?_
  ·rw[bi,az h2 rfl,bC,show(N .i64 (64:Int))=N .i64 ((64:Nat) : Int) from rfl,QO]; exact hk
  refine bg (fun hc=>?_) (fun hc=>?_)
  ·simp only[Bool.and_eq_true,decide_eq_true_eq] at hc
   rw[if_pos ⟨by omega,hc.2⟩] at hQ
   rw[bi,az h2 rfl]
   exact hQ _ (k1.trans k2)
  ·refine hJ _ _ ⟨k1.trans k2, ?_⟩
   rw[hd,if_neg]
   rintro⟨a1,a2⟩
   simp only[Bool.and_eq_false_iff,decide_eq_false_iff_not] at hc
   rcases hc with hc | hc <;> omega
theorem U9 (n:Str) (k:Nat) (hk:k<4611686018427387904) : (gQ n k).length≤n.length + 22:=by
 unfold gQ
 split
 ·omega
 ·have hw : -9223372036854775808≤IntKind.wrap .i64 ((k:Int) + 1)∧IntKind.wrap .i64 ((k:Int) + 1)≤9223372036854775807:=by
   rw[IntKind.wrap_i64]; omega
  have:=Lib.itoa_length_le _ hw.1 hw.2
  simp; omega
theorem JB (fs:List Fd) (p:Fd) : pV (fs++[p])=pV fs++(p.1++[0]++p.2++[0]):=by simp[pV]
def Rm (B:Base) (c:aj) : Prop:=∀ {M:RM} {v:AV} {ls:List Li} {S:Nat→Prop} {Q:ai},M.base=B→bE iO M v ls S→MS 5 v→ls≠[]→ls.length≤110000→(∀ x∈ls,rU 100000 x.1) →
 (∀ M' w c,ae [] M M'→jL Sha.eT ls=.ok c→Ow rM M' M.next 30 w c.2.1→Q (.tup [.agg [St c.1,w,N .i64 c.2.2],N .i64 0,N .i64 0]) M') →
 (∀ M' k e,ae [] M M'→jL Sha.eT ls=.error (k,e)→e≠0→Q (.tup [.agg [St [],aB,N .i64 0],N .i64 k,N .i64 e]) M')→c [v] M Q
theorem CO {B:Base} {TC TL:Nat} {cp cn cc:aj} (hp:F6 B cp) (hn:Qf B cn) (hc:Rk B cc) : Rm B fun args M Q=>∃ a0,args=[a0]∧wD TC TL cp 30 cn cc a0 M Q:=by
 intro M v ls S Q hM hv0 hcap hne hlen hsz hO hE
 refine⟨_,rfl, ?_⟩
 unfold wD
 simp only[dS]
 have hv:=hv0.lt
 obtain⟨b,r,rfl⟩ : ∃ b r,ls=b :: r:=by
  cases ls with
  | nil=>exact absurd rfl hne
  | cons b r=>exact⟨b,r,rfl⟩
 have hr:jL Sha.eT (b :: r)=match iU r [] [] with | .error e=>.error e | .ok fs=>.ok (jh Sha.eT r (pV fs),fs,b.2):=rfl
 simp only[List.length_cons] at hlen
 rw[aG]
 have k1:ae [] M (M.push (.row [St [],aB,N .i64 0] false TC 0)):=(ae.refl _ _).push _
 have h1:(M.push (.row [St [],aB,N .i64 0] false TC 0)).heap M.next=some (.row [St [],aB,N .i64 0] false TC 0):=RM.aS _
 have n1:(M.push (.row [St [],aB,N .i64 0] false TC 0)).next=M.next + 1:=bH _
 generalize M.push (.row [St [],aB,N .i64 0] false TC 0)=M1 at *
 have hv1:=hv.keep k1 (by simp)
 obtain⟨_,_,_,_,_,_,hq4⟩:=wS hv1 (i:=0) (by simp)
 rw[show(N .i64 (0:Int))=N .i64 ((0:Nat) : Int) from rfl,hq4,List.getElem_cons_zero,bi,bN (l':=[St [],aB,N .i64 b.2]) h1 (by simp) rfl rfl rfl]
 have k2:ae [] M (M1.put M.next (.row [St [],aB,N .i64 b.2] false TC 0)):=k1.put _ (.inl (Nat.le_refl _))
 have h2:(M1.put M.next (.row [St [],aB,N .i64 b.2] false TC 0)).heap M.next=some (.row [St [],aB,N .i64 b.2] false TC 0):=ay _
 have n2:(M1.put M.next (.row [St [],aB,N .i64 b.2] false TC 0)).next=M1.next:=rfl
 generalize M1.put M.next (.row [St [],aB,N .i64 b.2] false TC 0)=M2 at *
 rw[aG]
 have k3:ae [] M2 (M2.push (.map [] 0)):=(ae.refl _ _).push _
 have c3:=ll.new M2
 have n3:(M2.push (.map [] 0)).next=M2.next + 1:=bH _
 generalize M2.push (.map [] 0)=M3 at *
 have h3:=k3.ax h2 (by omega) (by simp)
 have k03:=k2.trans k3
 have hv3:=hv.keep k03 (by simp)
 refine WV (R:=iO) hv3 hcap (by simp) fun v' hv'=>?_
 rw[List.drop_one,List.tail_cons] at hv'
 rw[hv'.len]
 refine aP (fun m ys M4=>∃ (i:Nat) (ns:List Str) (fs:List Fd) (w:AV),m=r.length - i∧ys=[St (pV fs),N .i64 (i:Int)]∧i≤r.length∧ae [M.next,M2.next] M3 M4∧M2.next<M4.next ∧
   M4.heap M.next=some (.row [St [],w,N .i64 b.2] false TC 0)∧Ow rM M4 (M2.next + 1) 30 w fs∧ll M4 M2.next (eu ns)∧ns.length=i∧fs.length=i∧(pV fs).length≤600 * i∧iU (r.drop i) ns fs=iU r [] []) _
  ⟨0,[],[],aB,rfl,rfl,Nat.zero_le _,ae.refl _ _,by omega,h3,.nil,c3,rfl,rfl,by simp[pV],rfl⟩ ?_
 rintro next m ys M4 hnext ⟨i,ns,fs,w,rfl,rfl,hi,k34,n4,h4,o4,c4,hns,hfs,hal,he⟩
 have k4:ae [] M M4:=k03.fI k34 fun c hc=>.inl (by simp at hc; rcases hc with rfl | rfl <;> omega)
 dsimp only[ag]
 have hM4:M4.base=B:=k4.base.trans hM
 have hwb:=o4.blk
 rw[jQ]
 refine bg (fun h=>?_) (fun h=>?_)
 rotate_left 1
 ·have h:¬ i<r.length:=of_decide_eq_false h
  rw[List.drop_eq_nil_of_le (by omega),iU] at he
  rw[← he] at hr
  refine WV (R:=iO) (hv.keep k4 (by simp)) hcap (by simp) fun v4 hv4=>?_
  rw[List.drop_one,List.tail_cons] at hv4
  refine hc hv4 (by omega) (by omega) fun M5 k5=>?_
  have h5:=k5.ax h4 (by omega) (by simp)
  have n5:=k5.next
  have o5:=o4.keep k5 (by simp)
  have how:∀ x:Str,([St x,w,N .i64 b.2] : List AV).all oneCell=true:=fun x=>by
   have hw1:oneCell w=true:=dQ.one (Own.uK o4)
   simp[fF,hw1]
  rw[bi,bN (l':=[St (jh Sha.eT r (pV fs)),w,N .i64 b.2]) h5 (by simp) rfl rfl rfl,aO (n:=3) (ay _) rfl,
   bK (n:=3) (x:=.agg [St (jh Sha.eT r (pV fs)),w,N .i64 b.2]) (ay _) rfl rfl (how _),aO (n:=3) (ay _) rfl]
  refine hO _ w _ (((k4.trans k5).put _ (.inl (Nat.le_refl _))).put _ (.inl (Nat.le_refl _))) hr ?_
  have kA:ae [M.next] M5 (M5.put M.next (.row [St (jh Sha.eT r (pV fs)),w,N .i64 b.2] false TC 0)):=(ae.refl _ _).put _ (.inr (by simp))
  generalize M5.put M.next (.row [St (jh Sha.eT r (pV fs)),w,N .i64 b.2] false TC 0)=MA at *
  have kB:ae [M.next] MA (MA.put M.next (.row (AV.agg [St (jh Sha.eT r (pV fs)),w,N .i64 b.2]).cells false TC 0)):=(ae.refl _ _).put _ (.inr (by simp))
  exact((o5.keep kA (fun c hc=>by have:=(hwb c hc).1; simp; omega)).keep kB (fun c hc=>by have:=(hwb c hc).1; simp; omega)).mono (by omega)
 have h:i<r.length:=of_decide_eq_true h
 have hv4:=hv'.keep k34 (fun c hc=>by simp at hc; rcases hc with rfl | rfl <;> omega)
 obtain⟨pw,hpw,hq,_⟩:=wS hv4 h
 have hx:=hsz _ (List.mem_cons_of_mem _ (List.getElem_mem h))
 rw[hq,aG]
 rw[List.drop_eq_getElem_cons h,iU] at he
 generalize r[i]=x at *
 have hall:([St x.1.g,St x.1.n,pw,St x.1.v,N .i64 x.2] : List AV).all oneCell=true:=by simp[fF,hpw.one]
 refine zv (b:=0) 5 rfl rfl _ rfl hall rfl fun M5 k5 n5 h5=>?_
 have hLB:LB 1000000 x.1:=(hx.mono (by omega)).lb
 have Qd:=hx.YD
 rw[aO (n:=5) h5 rfl]
 refine hp (k5.base.trans hM4) (kQ (k:=x.2) (hpw.keep k5 (by simp))) hLB (by omega) fun M6 k6=>?_
 have hpl:=Nk hLB
 have hcl:=OV ns (aT x.1).1
 have hnl:=U9 (aT x.1).1 (eu ns (aT x.1).1) (by omega)
 have hcs:∀ y:Str,eu (ns++[(aT x.1).1]) y=if y=(aT x.1).1 then eu ns (aT x.1).1 + 1 else eu ns y:=fun y=>JF ns _ y
 generalize aT x.1=p at *
 have h6:=k6.ax h5 (by omega) (by simp)
 have n6:=k6.next
 unfold mJ
 rw[aG]
 refine zv (b:=0) 2 rfl rfl _ rfl rfl rfl fun M7 k7 n7 h7=>?_
 have k47:ae [] M4 M7:=(k5.trans k6).trans k7
 have h67:=k7.ax h6 (by omega) (by simp)
 rw[bi,az h7 rfl]
 have c7:ll M7 M2.next (eu ns):=c4.keep k47 (by simp)
 refine c7.look ?_
 refine hn (k47.base.trans hM4) (by omega) fun M8 k8=>?_
 have h8:=k8.ax h7 (by omega) (by simp)
 have h68:=k8.ax h67 (by omega) (by simp)
 have n8:=k8.next
 rw[bi,bN (l':=[St (gQ p.1 (eu ns p.1)),St p.2]) h8 (by simp) rfl rfl rfl]
 have k9:ae [] M4 (M8.put M6.next (.row [St (gQ p.1 (eu ns p.1)),St p.2] false 30 0)):=(k47.trans k8).put _ (.inl (by omega))
 have h9:(M8.put M6.next (.row [St (gQ p.1 (eu ns p.1)),St p.2] false 30 0)).heap M6.next=some (.row [St (gQ p.1 (eu ns p.1)),St p.2] false 30 0):=ay _
 have h69:(M8.put M6.next (.row [St (gQ p.1 (eu ns p.1)),St p.2] false 30 0)).heap M4.next=_:=dC h68 (by omega)
 have n9:(M8.put M6.next (.row [St (gQ p.1 (eu ns p.1)),St p.2] false 30 0)).next=M8.next:=rfl
 generalize M8.put M6.next (.row [St (gQ p.1 (eu ns p.1)),St p.2] false 30 0)=M9 at *
 have c9:ll M9 M2.next (eu ns):=c4.keep k9 (by simp)
 refine c9.look ?_
 rw[add1 (by omega)]
 refine c9.upd fun Ma ca ka na=>?_
 have ca' : ll Ma M2.next (eu (ns++[p.1])):=by rw[show eu (ns++[p.1])=_ from funext hcs]; exact ca
 have ha:=ka.ax h9 (by omega) (by simp; omega)
 have h6a:=ka.ax h69 (by omega) (by simp; omega)
 have h4a:=ka.ax (k9.ax h4 (by omega) (by simp)) (by omega) (by simp; omega)
 have k3a:ae [M.next,M2.next] M3 Ma:=(k34.trans (k9.mono (by simp))).trans (ka.mono (by simp))
 have oa:Ow rM Ma (M2.next + 1) 30 w fs:=(o4.keep k9 (by simp)).keep ka fun c hc=>by have:=(hwb c hc).1; simp; omega
 rw[bi,az ha rfl,bC,show(N .i64 (64:Int))=N .i64 ((64:Nat) : Int) from rfl,Fz]
 refine qo (p:=decide (p.2.length > 512)) (fun hc kk hk=>?_) ?_
 ·rw[bi,az ha rfl,bC,show(N .i64 (512:Int))=N .i64 ((512:Nat) : Int) from rfl,Fz]; exact hk
 have hMa:ae [] M Ma:=k03.fI k3a fun c hc=>.inl (by simp at hc; rcases hc with rfl | rfl <;> omega)
 refine bg (fun hb=>?_) (fun hb=>?_)
 ·simp only[Bool.or_eq_true,decide_eq_true_eq] at hb
  rw[if_pos hb] at he
  rw[← he] at hr
  rw[jX]
  refine⟨[St [],aB,N .i64 0],rfl, ?_⟩
  rw[bi,az h6a rfl,bK (n:=3) (x:=.agg [St [],aB,N .i64 0]) h4a rfl rfl rfl,az (dC h6a (by omega)) rfl]
  refine⟨rfl, ?_⟩
  rw[aO (n:=3) (ay _) rfl]
  exact hE _ _ _ (hMa.put _ (.inl (Nat.le_refl _))) hr (by decide)
 ·simp only[Bool.or_eq_false_iff,decide_eq_false_iff_not] at hb
  rw[if_neg (by omega)] at he
  generalize hnf:gQ p.1 (eu ns p.1)=nf at *
  rw[bi,az h4a rfl,aO (n:=2) ha rfl,kE (x:=.agg [St nf,St p.2]) (size:=2) rfl rfl rfl,aG]
  refine oW (E:=rM) (a:=(nf,p.2)) oa (by omega) (by decide) (by omega) (by omega) ?_
  intro w' Mb ob kb nb hwv
  have hb4:=kb.ax h4a (by omega) (fun h=>by have:=(hwb _ h).1; omega)
  have hb9:=kb.ax ha (by omega) (fun h=>by have:=(hwb _ h).2; omega)
  have hob:=ob.blk
  have how' : oneCell w'=true:=dQ.one (Own.uK ob)
  have abb:w'.cells=[w']:=dQ.cells (Own.uK ob)
  rw[bi,bN (l':=[St [],w',N .i64 b.2]) hb4 (by simp) abb how' rfl]
  have kc:ae [M.next] Mb (Mb.put M.next (.row [St [],w',N .i64 b.2] false TC 0)):=(ae.refl _ _).put _ (.inr (by simp))
  have hc4:(Mb.put M.next (.row [St [],w',N .i64 b.2] false TC 0)).heap M.next=some (.row [St [],w',N .i64 b.2] false TC 0):=ay _
  have hc9:(Mb.put M.next (.row [St [],w',N .i64 b.2] false TC 0)).heap M6.next=_:=dC hb9 (by omega)
  have nc:(Mb.put M.next (.row [St [],w',N .i64 b.2] false TC 0)).next=Mb.next:=rfl
  generalize Mb.put M.next (.row [St [],w',N .i64 b.2] false TC 0)=Mc at *
  have oc:Ow rM Mc (M2.next + 1) 30 w' (fs++[(nf,p.2)]):=ob.keep kc fun c hc=>by have:=(hob c hc).1; simp; omega
  have cc' : ll Mc M2.next (eu (ns++[p.1])):=(ca'.keep kb (fun h=>by have:=(hwb _ h).1; omega)).keep kc (by simp; omega)
  rw[bi,az hc9 rfl,bM]
  refine⟨by simp; omega, ?_⟩
  rw[bi,az hc9 rfl,bM]
  refine⟨by simp; omega, ?_⟩
  rw[bM]
  refine⟨by simp; omega, ?_⟩
  rw[bM]
  refine⟨by simp; omega, ?_⟩
  rw[add1 (by omega)]
  have k3c:ae [M.next,M2.next] M3 Mc:=(k3a.fI kb fun c hc=>.inl (by have:=(hwb c hc).1; omega)).trans (kc.mono (by simp))
  exact hnext _ _ _ (by omega) ⟨i + 1,ns++[p.1],fs++[(nf,p.2)],w',rfl,by rw[JB],by omega,k3c,by omega,hc4,oc,cc',by simp[hns],by simp[hfs],by rw[JB]; simp; omega,he⟩
theorem Vq (s:Str) : (iD s).1.length + (iD s).2.1.length≤s.length:=by
 unfold iD
 cases hh:aN 34 s with
 | true =>
   have:=aW hh
   rw[if_pos rfl]
   cases hb:brk 34 (s.drop 1) with
   | none=>simp
   | some x =>
     have:=O0 (a:=x.1) (b:=x.2) (by rw[hb])
     simp at this ⊢; omega
 | false =>
   rw[if_neg (by simp)]
   split
   ·simp
   ·simp; omega
theorem Mo:∀ (k:Nat) (s:Str) (acc vs:List Str) (r:Str),1≤s.length→gH k s acc=some (vs,r)→eF vs + 3 * r.length≤eF acc + 3 * s.length
 | 0,_,_,_,_,_,h=>by cases h
 | k + 1,s,acc,vs,r,h1,h=>by
   rw[gH] at h
   have hl:=Vq (s.drop 1)
   rw[List.length_drop] at hl
   generalize iD (s.drop 1)=x at *
   obtain⟨v,q,ok⟩:=x
   dsimp only at h hl
   split at h
   ·split at h
    ·rename_i hh
     have:=Mo k q _ vs r (aW hh) h
     rw[Dy] at this
     omega
    ·cases h
     rw[Dy]; omega
   ·cases h
theorem Pj (f:Str→Str) : ∀ (k:Nat) (s:Str) (acc ps:List gF) (r:Str),kY f k s acc=some (ps,r)→jo ps + 3 * r.length≤jo acc + 3 * s.length
 | 0,_,_,_,_,h=>by cases h
 | k + 1,s,acc,ps,r,h=>by
   rw[kY] at h
   split at h
   ·rename_i h59
    have hp:=aW h59
    have hw:=wM (s.drop 1)
    rw[List.length_drop] at hw
    split at h
    ·rename_i h61
     simp only[Bool.and_eq_true] at h61
     have hq:=aW h61.2
     cases hv:gH ((s.drop 1).drop (wk (s.drop 1))).length ((s.drop 1).drop (wk (s.drop 1))) [] with
     | none=>rw[hv] at h; cases h
     | some x =>
       obtain⟨vs,q⟩:=x
       rw[hv] at h
       dsimp only at h
       have h1:=Mo _ _ _ _ _ hq hv
       have h2:=Pj f k q _ ps r h
       rw[PN] at h2
       simp only[show eF []=0 from rfl,List.length_drop,List.length_map,List.length_take] at h1 h2
       omega
    ·cases h
   ·cases h; omega
theorem UZ {f:Str→Str} {s:Str} {L:Ln} (h:iH f s=some L) : rU (3 * s.length) L:=by
 unfold iH at h
 split at h
 ·have hd:∀ {g n r:Str},pE f s=some (g,n,r)→g.length≤s.length∧n.length≤s.length∧r.length≤s.length:=by
   intro g n r hh
   have h1:=wM s
   unfold pE at hh
   split at hh
   ·split at hh
    ·cases hh
     simp[bY]; omega
    ·cases hh
   ·cases hh
    simp[bY]; omega
  split at h
  ·cases h
  ·rename_i g n r hh
   obtain⟨h1,h2,h3⟩:=hd hh
   unfold wZ at h
   split at h
   ·cases h
   ·rename_i ps q hp
    unfold ou at hp
    have:=Pj f _ _ _ _ _ hp
    simp only[show jo []=0 from rfl] at this
    split at h
    ·cases h
     exact⟨by dsimp only; omega,by dsimp only; omega,by dsimp only; simp; omega,by dsimp only; omega⟩
    ·cases h
 ·cases h
theorem Aa {f:Str→Str} (P:Li→Prop) : ∀ (l:List (Str × Int)) (acc ls:List Li),(∀ x∈acc,P x)→(∀ s k L,(s,k)∈l→s.length≤912→iH f s=some L→P (L,k))→gu f l acc=.ok ls→∀ x∈ls,P x
 | [],acc,ls,ha,_,h=>by
   cases h; exact ha
 | (s,k) :: r,acc,ls,ha,hl,h=>by
   have hl' : ∀ s k L,(s,k)∈r→s.length≤912→iH f s=some L→P (L,k):=fun s k L h=>hl s k L (List.mem_cons_of_mem _ h)
   rw[gu] at h
   split at h
   ·exact Aa P r acc ls ha hl' h
   ·split at h
    ·cases h
    ·rename_i hn
     split at h
     ·cases h
     ·rename_i L hL
      refine Aa P r _ ls (fun x hx=>?_) hl' h
      rcases List.mem_append.1 hx with hx | hx
      ·exact ha x hx
      ·simp at hx; subst hx; exact hl s k L (List.mem_cons_self ..) (by omega) hL
theorem KV:∀ (xs acc:List Str) (ns:List Int) (k:Int),(∀ n∈ns,0<n)→0<k→k + xs.length<4611686018427387904→∀ n∈(kR acc ns k xs).2,0<n
 | [],acc,ns,k,h,_,_,n,hn=>h n hn
 | x :: xs,acc,ns,k,h,hk,hb,n,hn=>by
   rw[kR] at hn
   simp only[List.length_cons] at hb
   have hw:IntKind.wrap .i64 (k + 1)=k + 1:=by rw[IntKind.wrap_i64]; omega
   rw[hw] at hn
   refine KV xs _ _ (k + 1) (fun m hm=>?_) (by omega) (by omega) n hn
   split at hm
   ·exact h m hm
   ·rcases List.mem_append.1 hm with hm | hm
    ·exact h m hm
    ·simp at hm; omega
theorem Y2 {s:Str} {ls:List Li} (hs:s.length≤100000000) (h:wH bF s=.ok ls) : ∀ x∈ls,rU 2736 x.1∧0<x.2:=by
 refine Aa (fun x=>rU 2736 x.1∧0<x.2) _ [] ls (by simp) (fun t k L hm hl hr=>⟨(UZ hr).mono (by omega), ?_⟩) h
 have:=(List.of_mem_zip hm).2
 have hr:=vN s []
 exact KV _ _ _ _ (by simp) (by decide) (by omega) k this
theorem zG {f:Str→Str} : ∀ (l:List (Str × Int)) (acc ls:List Li),gu f l acc=.ok ls→ls.length≤acc.length + l.length
 | [],acc,ls,h=>by cases h; simp
 | (s,k) :: r,acc,ls,h=>by
   rw[gu] at h
   split at h
   ·have:=zG r acc ls h; simp; omega
   ·split at h
    ·cases h
    ·split at h
     ·cases h
     ·have:=zG r _ ls h; simp at this ⊢; omega
theorem CJ {s:Str} {ls:List Li} (h:wH bF s=.ok ls) : ls.length≤s.length + 1:=by
 have h1:=zG _ _ _ h
 have h2:=Ia (bU [] s) [] [] 1
 have h3:=vN s []
 unfold Nr at h1
 rw[List.length_zip] at h1
 simp only[List.length_nil] at h1 h2
 omega
theorem Ah {b:Int} : ∀ (l acc c r:List Li),dJ b l acc=.ok (c,r)→(∃ d,c=acc++d∧∀ x∈d,x∈l)∧(∀ x∈r,x∈l)∧c.length + r.length≤acc.length + l.length
 | [],_,_,_,h=>by cases h
 | x :: l,acc,c,r,h=>by
   rw[dJ] at h
   split at h
   ·cases h
    exact⟨⟨[],by simp,by simp⟩,fun x hx=>List.mem_cons_of_mem _ hx,by simp⟩
   ·split at h
    ·cases h
    ·obtain⟨⟨d,h1,h2⟩,h3,h4⟩:=Ah l _ c r h
     refine⟨⟨x :: d,by rw[h1]; simp,fun y hy=>?_⟩,fun y hy=>List.mem_cons_of_mem _ (h3 y hy),by simp at h4 ⊢; omega⟩
     rcases List.mem_cons.1 hy with rfl | hy
     ·exact List.mem_cons_self ..
     ·exact List.mem_cons_of_mem _ (h2 y hy)
theorem ND {b:Int} : ∀ (l acc:List Li) (e:Int),dJ b l acc=.error e→e=b∨∃ x∈l,e=x.2
 | [],_,_,h=>by cases h; exact .inl rfl
 | x :: l,acc,e,h=>by
   rw[dJ] at h
   split at h
   ·cases h
   ·split at h
    ·cases h; exact .inr ⟨x,List.mem_cons_self ..,rfl⟩
    ·rcases ND l _ e h with h | ⟨y,hy,h⟩
     ·exact .inl h
     ·exact .inr ⟨y,List.mem_cons_of_mem _ hy,h⟩
theorem Ak:∀ (k:Nat) (l:List Li) (acc css:List (List Li)),iL k l acc=.ok css→∀ c∈css,c∈acc∨(c≠[]∧c.length≤l.length∧∀ x∈c,x∈l)
 | 0,l,acc,css,h,c,hc=>by cases h; exact .inl hc
 | k + 1,[],acc,css,h,c,hc=>by cases h; exact .inl hc
 | k + 1,x :: r,acc,css,h,c,hc=>by
   rw[fO] at h
   split at h
   ·cases h
   ·cases r with
    | nil=>cases h
    | cons y r =>
      dsimp only at h
      split at h
      ·cases h
      ·cases hb:dJ x.2 r [x] with
       | error e=>rw[hb] at h; cases h
       | ok p =>
         obtain⟨c1,r'⟩:=p
         rw[hb] at h
         dsimp only at h
         obtain⟨⟨d,h1,h2⟩,h3,h4⟩:=Ah _ _ _ _ hb
         have hl:=qQ _ _ _ _ hb
         rcases Ak k r' _ css h c hc with h5 | ⟨h5,h6,h7⟩
         ·rcases List.mem_append.1 h5 with h5 | h5
          ·exact .inl h5
          ·simp at h5; subst h5
           refine .inr ⟨by rw[h1]; simp,by simp at h4 ⊢; omega,fun z hz=>?_⟩
           rw[h1] at hz
           rcases List.mem_append.1 hz with hz | hz
           ·simp at hz; subst hz; exact List.mem_cons_self ..
           ·exact List.mem_cons_of_mem _ (List.mem_cons_of_mem _ (h2 z hz))
         ·exact .inr ⟨h5,by simp; omega,fun z hz=>List.mem_cons_of_mem _ (List.mem_cons_of_mem _ (h3 z (h7 z hz)))⟩
theorem Nu:∀ (k:Nat) (l:List Li) (acc:List (List Li)) (e:Int),iL k l acc=.error e→∃ x∈l,e=x.2
 | 0,l,acc,e,h=>by cases h
 | k + 1,[],acc,e,h=>by cases h
 | k + 1,x :: r,acc,e,h=>by
   rw[fO] at h
   split at h
   ·cases h; exact⟨x,List.mem_cons_self ..,rfl⟩
   ·cases r with
    | nil=>cases h; exact⟨x,List.mem_cons_self ..,rfl⟩
    | cons y r =>
      dsimp only at h
      split at h
      ·cases h; exact⟨y,by simp,rfl⟩
      ·cases hb:dJ x.2 r [x] with
       | error e' =>
         rw[hb] at h; cases h
         rcases ND _ _ _ hb with h | ⟨z,hz,h⟩
         ·exact⟨x,List.mem_cons_self ..,h⟩
         ·exact⟨z,by simp[hz],h⟩
       | ok p =>
         obtain⟨c1,r'⟩:=p
         rw[hb] at h
         obtain⟨_,h3,_⟩:=Ah _ _ _ _ hb
         obtain⟨z,hz,h⟩:=Nu k r' _ e h
         exact⟨z,by simp[h3 z hz],h⟩
def Gm:kg Cd where
 size:=3
 rel M cs c S:=∃ v,cs=[St c.1,v,N .i64 c.2.2]∧bE rM.ko M v c.2.1 S
 len h:=by obtain⟨v,rfl,h⟩:=h; rfl
 one h:=by obtain⟨v,rfl,h⟩:=h; simp[h.one,fF]
 mono h hs:=by obtain⟨v,rfl,h⟩:=h; exact⟨v,rfl,h.mono hs⟩
 lt h:=by obtain⟨v,rfl,h⟩:=h; exact⟨v,rfl,h.lt⟩
 keep h hk hb:=by obtain⟨v,rfl,h⟩:=h; exact⟨v,rfl,h.keep hk hb⟩
def IL (B:Base) (c:aj) : Prop:=∀ {M:RM} {s:Str} {Q:ai},M.base=B→s.length≤100000000→(∀ ls,wH bF s=.ok ls→ls.length≤100000) →
 (∀ M' w cs,ae [] M M'→mr Sha.eT s=.ok cs→bE Gm M' w cs (fun b=>M.next≤b)→cs.length≤s.length + 1→Q (.tup [w,N .i64 0,N .i64 0]) M') →
 (∀ M' k e,ae [] M M'→mr Sha.eT s=.error (k,e)→e≠0→Q (.tup [aB,N .i64 k,N .i64 e]) M')→c [St s] M Q
theorem BQ {f:Str→Str} : ∀ (l:List (Str × Int)) (acc:List Li) {k e:Int},gu f l acc=.bad k e→e≠0
 | [],acc,k,e,h=>by cases h
 | (s,n) :: r,acc,k,e,h=>by
   rw[gu] at h
   split at h
   ·exact BQ r acc h
   ·split at h
    ·cases h; decide
    ·split at h
     ·cases h; decide
     ·exact BQ r _ h
theorem Ve {B:Base} {TC:Nat} {cr cc cd:aj} (hr:vY B bF cr) (hc:yC B cc) (hd:Rm B cd) : IL B fun args M Q=>∃ a0,args=[a0]∧qB cr cc cd TC a0 M Q:=by
 intro M s Q hM hlen hcnt hO hE
 refine⟨_,rfl, ?_⟩
 unfold qB
 unfold mr at hO hE
 refine hr hM hlen ?_ ?_
 rotate_left 1
 ·intro M1 k e k1 hrd
  rw[hrd] at hE
  have h0:=BQ _ _ hrd
  rw[bI,bJ,jf,dM,show(e != 0)=true by simpa using h0,eU]
  exact hE M1 k e k1 rfl h0
 intro v M1 ls k1 hrd hv hll
 have hall:=Y2 hlen hrd
 have hll':=hcnt ls hrd
 rw[hrd] at hO hE
 dsimp only at hO hE
 rw[bI,bJ,jf,dM,show((0:Int) != 0)=false from rfl,dI]
 have n1:=k1.next
 refine hc (k1.base.trans hM) hv (by omega) (fun x hx=>((hall x hx).1.mono (by omega)).lb) ?_ ?_
 rotate_left 1
 ·intro M2 k k2 hcut
  obtain⟨x,hx,rfl⟩:=Nu _ _ _ _ hcut
  unfold su at hcut
  rw[hcut] at hE
  rw[bI,bJ,uL,show decide (x.2 > 0)=true from decide_eq_true (hall x hx).2,eU]
  exact hE M2 x.2 3 (k1.trans k2) rfl (by decide)
 intro M2 w css k2 hcut hw hcl
 have hcs:=Ak _ _ _ _ hcut
 unfold su at hcut
 rw[hcut] at hO hE
 dsimp only at hO hE
 rw[bI,bJ,uL,show decide ((0:Int) > 0)=false from rfl,dI,hw.len]
 have k02:=k1.trans k2
 have hw2:=(hw.mono (S':=fun b=>M.next≤b) fun b h=>by rcases h with h | h <;> omega).lt
 refine aP (fun m ys M3=>∃ (i:Nat) (o:AV) (acc:List Cd),m=css.length - i∧ys=[o,N .i64 (i:Int)]∧i≤css.length∧acc.length=i∧ae [] M2 M3 ∧
   fe Gm M3 M2.next TC o acc (fun b=>M2.next≤b∧b<M3.next∧b ∉ aC o)∧eP Sha.eT (css.drop i) acc=eP Sha.eT css []) _
  ⟨0,aB,[],rfl,rfl,Nat.zero_le _,rfl,ae.refl _ _,.nil,rfl⟩ ?_
 rintro next m ys M3 hnext ⟨i,o,acc,rfl,rfl,hi,hal,k3,ho,he⟩
 dsimp only[ag]
 have hob:=ho.blk
 have n2:=k2.next
 have n3:=k3.next
 rw[jQ]
 refine bg (fun h=>?_) (fun h=>?_)
 rotate_left 1
 ·have h:¬ i<css.length:=of_decide_eq_false h
  rw[List.drop_eq_nil_of_le (by omega),eP] at he
  refine hO M3 o acc (k02.trans k3) he.symm ?_ (by omega)
  exact(ho.mono (S':=fun b=>M.next≤b) fun b h=>by omega).Ev fun b h _=>by omega
 have h:i<css.length:=of_decide_eq_true h
 have hw3:=hw2.keep k3 (by simp)
 obtain⟨bb,oo,ds,_,_,hidx,hld,cv,rfl,hcv,hcap⟩:=bE.at hw3 1 (i:Int) h
 have c0:M3.cell bb oo=some cv:=qx hld rfl
 rw[hidx,eZ,c0]
 refine⟨_,rfl, ?_⟩
 rw[List.drop_eq_getElem_cons h,eP] at he
 rcases hcs _ (List.getElem_mem h) with hbad | ⟨hne,Ya,hsub⟩
 ·simp at hbad
 generalize css[i]=c at *
 refine hd ((k02.trans k3).base.trans hM) hcv hcap hne (by omega) (fun x hx=>(hall x (hsub x hx)).1.mono (by omega)) ?_ ?_
 rotate_left 1
 ·intro M4 k e k4 hcd h0
  rw[hcd] at he
  dsimp only at he
  rw[← he] at hE
  rw[bI,bJ,jf,aG]
  refine zv (b:=0) 3 rfl rfl _ rfl rfl rfl fun M5 k5 n5 h5=>?_
  rw[dM,show(e != 0)=true by simpa using h0,eU]
  exact hE M5 k e (((k02.trans k3).trans k4).trans k5) rfl h0
 intro M4 fv cd k4 hcd hfv
 rw[hcd] at he
 dsimp only at he
 have hf1:oneCell fv=true:=dQ.one (Own.uK hfv)
 have WQ:([St cd.1,fv,N .i64 cd.2.2] : List AV).all oneCell=true:=by simp[fF,hf1]
 have n4:=k4.next
 have hfb:=Own.blk hfv
 rw[bI,bJ,jf,aG]
 refine zv (b:=0) 3 rfl rfl _ rfl WQ rfl fun M5 k5 n5 h5=>?_
 rw[dM,show((0:Int) != 0)=false from rfl,dI,aO (n:=3) h5 rfl,kE (x:=.agg [St cd.1,fv,N .i64 cd.2.2]) (size:=3) rfl WQ rfl,aG]
 have k45:=k4.trans k5
 let S' : Nat→Prop:=fun b=>M2.next≤b∧b<M5.next∧b ∉ aC o
 have ho5:fe Gm M5 M2.next TC o acc S':=(ho.keep k45 (by simp) (by simp)).mono fun b h=>⟨h.1,by omega,h.2.2⟩
 have hel:Gm.rel M5 [St cd.1,fv,N .i64 cd.2.2] cd S':=⟨fv,rfl,bE.ZR (dQ.keep (Own.uK hfv) k5 (by simp)) fun b hb=>⟨by have:=(hfb b hb).1; omega,by have:=(hfb b hb).2; omega,fun hbo=>by have:=(hfb b hb).1; have:=(hob b hbo).2; omega⟩⟩
 refine fe.app (R:=Gm) ho5 hel (by omega) (by decide) (fun b hb h=>h.2.2 hb) (fun b h=>h.2.1) (by omega) (by omega) ?_
 intro o' M6 o6 k6 n6 _ hd6
 rw[add1 (by omega)]
 refine hnext _ _ _ (by omega) ⟨i + 1,o',acc++[cd],rfl,rfl,by omega,by simp[hal],(k3.trans k45).fI k6 fun c hc=>.inl (hob c hc).1, ?_,he⟩
 exact o6.mono fun b h=>⟨h.1,by have:=h.2.1; omega,fun hb=>hd6 b hb h⟩
theorem Gd {cs:List UInt8} {ci cv cq:aj} (hcs:Asc cs) (hl:cs.length≤1000) (hi:qy ci) (hv:A8 cv) : AP cs fun args M Q=>∃ a0 a1,args=[a0,a1]∧jI ci cv cq a0 a1 M Q:=by
 intro M r Q hr hQ
 refine⟨_,_,rfl, ?_⟩
 unfold jI
 simp only[dS,dK,oJ]
 by_cases h1:r<128
 ·have e1:decide ((r:Int)<128)=true:=by simp; omega
  simp only[go_sem,decide_true,e1]
  have:N .u8 (IntKind.wrap .u8 (r:Int))=By (UInt8.ofNat r):=by
   have h2:IntKind.wrap .u8 (r:Int)=(r:Int):=by unfold IntKind.wrap; simp[IntKind.bits,IntKind.signed]; omega
   rw[h2]; simp[By]; omega
  rw[this]
  refine hi ?_
  have:=hQ M (ae.refl _ _)
  rw[DC,if_pos h1] at this
  exact this
 have hm:DC cs r=-1:=by rw[DC,if_neg h1]
 rw[hm] at hQ
 have e1:decide ((r:Int)<128)=false:=by simp; omega
 simp only[go_sem,decide_true,e1]
 refine⟨fun h2=>?_,fun h2=>?_⟩
 ·refine⟨cs,rfl, ?_⟩
  simp only[go_sem]
  refine aP (fun m ys M3=>∃ pos:Nat,m=cs.length - pos∧ys=[]∧M3.heap M.next=some (.gT cs pos)∧ae [] M M3∧M.next<M3.next) _
   ⟨0,rfl,rfl,RM.aS _,(ae.refl _ _).push _,by simp[RM.push]⟩ ?_
  rintro next m ys M3 hnext ⟨pos,rfl,rfl,hh,hk,hlt⟩
  refine⟨_,_,_,rfl,hh, ?_⟩
  split
  ·rename_i hp
   rcases vO hp with⟨d1,d2⟩ | ⟨d1,_⟩
   ·rw[d2]
    simp only[go_sem]
    have e3:((bt cs pos:Int) == 65533)=false:=by simp; omega
    simp only[e3]
    refine⟨fun h=>by simp at h,fun _=>hnext _ _ _ (by omega) ⟨pos + 1,rfl,rfl,RM.kI _ _,hk.put _ (.inl (Nat.le_refl _)),by simpa [RM.nX] using hlt⟩⟩
   ·have:=hcs.bt hp; omega
  ·simp only[go_sem]
   exact hQ M3 hk
 ·refine hv fun b=>?_
  cases b with
  | false=>simp only[go_sem]; exact hQ M (ae.refl _ _)
  | true =>
    simp only[go_sem]
    obtain⟨a,x,hax,hx,ha1,ha2⟩:=Oj (r:=r) (by omega)
    rw[hax]
    have w1:IntKind.wrap .i64 (((a++[x]).length:Int) - 1)=((a.length:Nat) : Int):=by simp; rw[zL (by omega) (by omega)]
    have hxn:x ∉ cs:=fun h=>by have:=hcs x h; omega
    rw[w1]
    refine aP (fun m ys M3=>M3=M∧∃ y,ys=[N .i64 (a.length:Int),y]) 0 ⟨rfl,_,rfl⟩ ?_
    rintro next m ys M3 hnext ⟨rfl,y,rfl⟩
    simp only[go_sem]
    refine⟨fun h3=>?_,fun h3=>hQ M3 (ae.refl _ _)⟩
    have h3:a.length<cs.length:=by simpa using h3
    have hbt:=hcs.bt h3
    refine zQ ?_
    have hla:(a++[x])[a.length]?=some x:=by simp
    refine⟨_,List.getElem?_eq_getElem h3,x,hla,fun _=>?_,fun hne=>?_⟩
    ·rw[show IntKind.wrap .i64 ((a.length:Int) + 1)=((a.length + 1:Nat) : Int) by rw[zL (by omega) (by omega)]; omega]
     rw[bD (by omega)]
     simp only[go_sem]
     refine⟨x,hla,hi ?_⟩
     rw[Ko (fun h=>hxn (List.mem_of_mem_drop h))]
     simp only[go_sem,show decide ((-1:Int)<0)=true from rfl]
     exact hQ M3 (ae.refl _ _)
    ·rw[KP h3] at hne
     have:((bt cs a.length:Int) != (x.toNat:Int))=true:=by simp; omega
     rw[this] at hne; cases hne
theorem LH {x:UInt8} {g:Nat} {ci xx c1 c2:aj} (hi:qy ci) : Ib x fun args M Q=>∃ a0 a1,args=[a0,a1]∧fD ci g xx c1 c2 a0 a1 M Q:=by
 intro M s Q hQ
 refine⟨_,_,rfl, ?_⟩
 unfold fD
 rw[bC,dV,show((([x] : List UInt8).length:Int) == 0)=false from rfl]
 simp only[dS]
 by_cases h:[x]=s
 ·subst h
  have:Lib.indexByte [x] x=0:=by simp[Lib.indexByte]
  rw[this] at hQ
  simp only[go_sem,beq_self_eq_true]
  exact hQ
 ·have h' : (([x] : List UInt8) == s)=false:=by simp[h]
  simp only[go_sem,h']
  exact⟨fun _=>⟨by omega,x,rfl,hi hQ⟩,fun h=>absurd h (by decide)⟩
def Wy (B:Base) (c:aj) : Prop:=∀ {M:RM} {s:Str} {Q:ai},M.base=B→s≠[]→s.length≤1000000→Q (.tup [N .i32 ((dec s).1:Int),N .i64 (rs s:Int)]) M→c [St s] M Q
def RU (B:Base) (c:aj) : Prop:=(∀ {M:RM} {y:UInt8} {Q:ai},M.base=B→y∈cz→Q (N .i32 ((y.toNat:Int) - 32)) M→c [N .i32 (y.toNat:Int)] M Q) ∧
 ∀ {M:RM} {y:UInt8} {Q:ai},M.base=B→y∈cz→Q (N .i32 (y.toNat:Int)) M→c [N .i32 ((y.toNat:Int) - 32)] M Q
theorem letter {y:UInt8} (h:y∈cz) : 97≤y.toNat∧y.toNat≤122:=by
 have:cz.all (fun y=>decide (97≤y.toNat) && decide (y.toNat≤122))=true:=by decide
 have:=List.all_eq_true.1 this y h
 simpa using this
theorem Xc:∀ x:Fin 256,∀ y∈cz,decide (GM .u8 (x.val:Int) (y.toNat:Int) ≥ 128)=decide (128≤x.val):=by decide +kernel
theorem TN {c y:UInt8} (hy:y∈cz) (h:128≤c.toNat) : bV c≠y:=by
 have:=letter hy
 unfold bV
 rw[if_neg (by omega)]
 intro e; rw[e] at h; omega
theorem add32 {c:UInt8} (h:c.toNat≤90) : (c + 32).toNat=c.toNat + 32:=by
 rw[UInt8.toNat_add,show(32:UInt8).toNat=32 from rfl,Nat.mod_eq_of_lt (by omega)]
theorem Ip {c y:UInt8} (hy:y∈cz) : bV c=y↔c=y∨(65≤c.toNat∧c.toNat≤90∧y.toNat=c.toNat + 32):=by
 have hl:=letter hy
 unfold bV
 split
 ·rename_i h
  constructor
  ·intro e
   right
   refine⟨h.1,h.2, ?_⟩
   rw[← e]; first | exact add32 h.2 | (rw[UInt8.toNat_ofNat',Nat.mod_eq_of_lt (by omega)])
  ·rintro(rfl | ⟨_,_,e⟩)
   ·omega
   ·apply UInt8.toNat_inj.1
    first | (rw[add32 h.2,e]) | (rw[UInt8.toNat_ofNat',Nat.mod_eq_of_lt (by omega),e])
 ·rename_i h
  constructor
  ·exact fun e=>.inl e
  ·rintro(rfl | ⟨h1,h2,_⟩)
   ·rfl
   ·exact absurd ⟨h1,h2⟩ h
theorem JI {c:UInt8} {r:Str} (h:c.toNat<128) : dec (c :: r)=(c.toNat,1):=by
 unfold dec
 have hb:bt (c :: r) 0=c.toNat:=rfl
 rw[hb]
 simp[Lib.decodeN,h]
theorem aaN {a b:Nat} {K:AV→Prop} : Ic false (N .i64 (a:Int)) (N .i64 (b:Int)) K=K (N .i64 ((min a b:Nat) : Int)):=by
 rw[Ye]
 have:(if false=true then(if (b:Int) > a then(b:Int) else a) else(if (b:Int)<a then(b:Int) else a))=((min a b:Nat) : Int):=by
  rw[if_neg (by simp)]; split <;> omega
 rw[this]
theorem Om {B:Base} {cd cs:aj} (hd:Wy B cd) (hs:RU B cs) : HZ B fun args M Q=>∃ a0 a1,args=[a0,a1]∧mE cd cs a0 a1 M Q:=by
 intro M s Q hM hl hQ
 refine⟨_,_,rfl, ?_⟩
 unfold mE
 simp only[dS,dK]
 rw[bC,bC,aaN,show cz.length=5 from rfl]
 have hno:(∃ i,i<s.length∧∃ h:i<5,bV (s.getD i 0)≠cz.getD i 0)→∀ M',ae [] M M'→Q (Bo false) M':=by
  rintro⟨i,h1,h2,h3⟩ M' k'
  refine hQ M' false k' ?_
  rw[Bool.false_and]
  refine(decide_eq_false fun e=>h3 ?_).symm
  have:=congrArg (fun l:Str=>l.getD i 0) e
  simp only[List.getD_eq_getElem?_getD,List.getElem?_map,List.getElem?_eq_getElem h1,Option.map_some,Option.getD_some] at this ⊢
  exact this
 refine aP (fun m ys M1=>∃ i:Nat,m=5 - i∧ys=[N .i64 (i:Int)]∧i≤min s.length 5∧M1=M∧(s.take i).map bV=cz.take i) _
  ⟨0,rfl,rfl,Nat.zero_le _,rfl,rfl⟩ ?_
 rintro next m ys M1 hnext ⟨i,rfl,rfl,hi,rfl,he⟩
 dsimp only[ag]
 rw[jQ]
 refine bg (fun h=>?_) (fun h=>?_)
 rotate_left 1
 ·have h:¬ i<min s.length 5:=of_decide_eq_false h
  rw[bC,bC,show cz.length=5 from rfl,dV]
  have hi:i=min s.length 5:=by omega
  refine hQ _ _ (ae.refl _ _) ?_
  by_cases h5:s.length=5
  ·have:i=5:=by omega
   subst this
   have e1:((s.length:Int) == (5:Nat))=true:=by simp[h5]
   rw[e1,decide_eq_true h5]
   rw[List.take_of_length_le (by omega),show cz.take 5=cz from rfl] at he
   rw[decide_eq_true he]; rfl
  ·rw[decide_eq_false h5,Bool.and_false]
   refine(decide_eq_false fun e=>h5 ?_).symm
   have:=congrArg List.length e
   simpa using this
 have h:i<min s.length 5:=of_decide_eq_true h
 have h1:i<s.length:=by omega
 have h2:i<cz.length:=by show i<5; omega
 have hy:cz[i]∈cz:=List.getElem_mem h2
 have hgs:s.getD i 0=s[i]:=by rw[List.getD_eq_getElem?_getD,List.getElem?_eq_getElem h1]; rfl
 have hgt:cz.getD i 0=cz[i]:=by rw[List.getD_eq_getElem?_getD,List.getElem?_eq_getElem h2]; rfl
 have hne:bV s[i]≠cz[i]→∀ M',ae [] M1 M'→Q (Bo false) M':=fun hn=>hno ⟨i,h1,h2,by rw[hgs,hgt]; exact hn⟩
 have hst:bV s[i]=cz[i]→(s.take (i + 1)).map bV=cz.take (i + 1):=by
  intro e
  rw[List.take_succ_eq_append_getElem h1,List.take_succ_eq_append_getElem h2,List.map_append,he,List.map_singleton,e]
 have hdt:cz.drop i=cz[i] :: cz.drop (i + 1):=List.drop_eq_getElem_cons h2
 have hds:s.drop i=s[i] :: s.drop (i + 1):=List.drop_eq_getElem_cons h1
 refine bQ (fun ys M'=>M'=M1∧bV s[i]=cz[i]) ?_ ?_
 ·rintro ys M' ⟨rfl,e⟩
  rw[add1 (by omega)]
  exact hnext _ _ _ (by omega) ⟨i + 1,rfl,rfl,by omega,rfl,hst e⟩
 intro J hJ
 rw[DJ h1,DJ h2,By,By,jR,fK]
 generalize s[i]=x at *
 generalize cz[i]=y at *
 have hor:=Xc ⟨x.toNat,x.toNat_lt⟩ y hy
 dsimp only at hor
 rw[hor]
 have hly:=letter hy
 refine bg (fun hc=>?_) (fun hc=>?_)
 ·have hc:128≤x.toNat:=of_decide_eq_true hc
  have hn:=hne (TN hy hc)
  rw[bD (by omega),dR,bD (by omega),dR,hds,hdt]
  refine⟨_,rfl, ?_⟩
  dsimp only
  rw[aG]
  refine aP (fun m ys M2=>ys=[St (y :: cz.drop (i + 1))]∧M2=M1.push (.gT (x :: s.drop (i + 1)) 0)) 0 ⟨rfl,rfl⟩ ?_
  rintro Dr m ys M2 mg ⟨rfl,rfl⟩
  dsimp only[ag]
  refine⟨_,_,_,rfl,RM.aS _, ?_⟩
  rw[if_pos (by simp)]
  rcases vO (s:=x :: s.drop (i + 1)) (i:=0) (by simp) with⟨d1,_⟩ | ⟨_,d2,d3,_,_⟩
  ·have:bt (x :: s.drop (i + 1)) 0=x.toNat:=rfl
   omega
  generalize Utf8.decode ⟨⟨x :: s.drop (i + 1)⟩⟩ 0=rr at *
  obtain⟨r,n⟩:=rr
  dsimp only at d2 d3 ⊢
  have k2:ae [] M1 ((M1.push (.gT (x :: s.drop (i + 1)) 0)).put M1.next (.gT (x :: s.drop (i + 1)) (0 + n))):=((ae.refl _ _).push _).put _ (.inl (Nat.le_refl _))
  generalize (M1.push (.gT (x :: s.drop (i + 1)) 0)).put M1.next (.gT (x :: s.drop (i + 1)) (0 + n))=M2 at *
  rw[bI,eU,jf,bC,dV,show(((y :: cz.drop (i + 1)).length:Int) == 0)=false by simp; omega,dI]
  have hB2:M2.base=B:=k2.base.trans hM
  refine hd hB2 (by simp) (by simp; omega) ?_
  have hrs:rs (y :: cz.drop (i + 1))=1:=by rw[rs,if_neg (by simp),JI (by omega)]
  rw[JI (by omega),hrs,bI,bJ,bD (by simp),dR,dV]
  have e1:((y.toNat:Int) == (r:Int))=false:=by simp; omega
  rw[e1,dI]
  refine bQ (fun ys M'=>M'=M2∧ys=[N .i32 (y.toNat:Int),N .i32 (r:Int)]) ?_ ?_
  rotate_left 1
  ·intro J2 hJ2
   rw[mP,show decide ((y.toNat:Int)<(r:Int))=true from decide_eq_true (by omega),eU]
   exact hJ2 _ _ ⟨rfl,rfl⟩
  rintro _ M3 ⟨rfl,rfl⟩
  dsimp only[ag]
  rw[mP,show decide ((r:Int)<128)=false from decide_eq_false (by omega),dI]
  refine hs.1 hB2 hy ?_
  refine aP (fun m ys M4=>M4=M3∧((m=1∧ys=[N .i32 ((y.toNat:Int) - 32)])∨(m=0∧ys=[N .i32 (y.toNat:Int)]))) 1 ⟨rfl,.inl ⟨rfl,rfl⟩⟩ ?_
  rintro Z8 m ys M4 NM ⟨rfl,hys⟩
  rcases hys with⟨rfl,rfl⟩ | ⟨rfl,rfl⟩
  ·dsimp only[ag]
   rw[dM,show(((y.toNat:Int) - 32) != (y.toNat:Int))=true by simp; omega]
   simp only[oQ]
   rw[mP,show decide (((y.toNat:Int) - 32)<(r:Int))=true from decide_eq_true (by omega),gU,eU]
   exact hs.2 hB2 hy (NM _ _ _ (by omega) ⟨rfl,.inr ⟨rfl,rfl⟩⟩)
  ·dsimp only[ag]
   rw[dM,show((y.toNat:Int) != (y.toNat:Int))=false by simp]
   simp only[wY,jd,dI]
   rw[dV,e1,dI]
   exact hn _ k2
 ·have hc:x.toNat<128:=by have:=of_decide_eq_false hc; omega
  rw[dV]
  refine bg (fun hq=>?_) (fun hq=>?_)
  ·have hq:y=x:=by
    have:(y.toNat:Int)=(x.toNat:Int):=by simpa using hq
    exact UInt8.toNat_inj.1 (by omega)
   exact hJ _ _ ⟨rfl,(Ip hy).2 (.inl hq.symm)⟩
  have hxy:x≠y:=fun e=>by rw[e] at hq; simp at hq
  refine bQ (fun ys M'=>M'=M1∧ys=[N .u8 (min (x.toNat:Int) y.toNat),N .u8 (max (x.toNat:Int) y.toNat)]) ?_ ?_
  rotate_left 1
  ·intro J2 hJ2
   rw[mP]
   refine bg (fun h=>?_) (fun h=>?_)
   ·have h:=of_decide_eq_true h
    exact hJ2 _ _ ⟨rfl,by congr 2 <;> first | omega | (congr 1; omega) | (congr 2; omega)⟩
   ·have h:=of_decide_eq_false h
    exact hJ2 _ _ ⟨rfl,by congr 2 <;> first | omega | (congr 1; omega) | (congr 2; omega)⟩
  rintro _ M2 ⟨rfl,rfl⟩
  dsimp only[ag]
  have hxn:x.toNat≠y.toNat:=fun e=>hxy (UInt8.toNat_inj.1 e)
  have aa6:¬ (65≤x.toNat∧x.toNat≤90∧y.toNat=x.toNat + 32)→∀ M',ae [] M2 M'→Q (Bo false) M':=fun hh=>hne (fun e=>by
   rcases(Ip hy).1 e with e | e
   ·exact hxy e
   ·exact hh e)
  rw[oJ]
  refine wN (p:=decide (min (x.toNat:Int) y.toNat≤90)) (fun hc kk hk=>?_) ?_
  ·rw[oJ]; exact hk
  refine wN (p:=decide ((max (x.toNat:Int) y.toNat)=IntKind.wrap .u8 (IntKind.wrap .u8 (min (x.toNat:Int) y.toNat + 97) - 65))) (fun hc kk hk=>?_) ?_
  ·rw[fq,mM,dV]
   have:((max (x.toNat:Int) y.toNat) == IntKind.wrap .u8 (IntKind.wrap .u8 (min (x.toNat:Int) y.toNat + 97) - 65))=decide ((max (x.toNat:Int) y.toNat)=IntKind.wrap .u8 (IntKind.wrap .u8 (min (x.toNat:Int) y.toNat + 97) - 65)):=by
    by_cases h:(max (x.toNat:Int) y.toNat)=IntKind.wrap .u8 (IntKind.wrap .u8 (min (x.toNat:Int) y.toNat + 97) - 65) <;> simp[h]
   rw[this] at *
   exact hk
  refine bg (fun h=>?_) (fun h=>?_)
  ·simp only[Bool.and_eq_true,decide_eq_true_eq] at h
   obtain⟨⟨a1,a2⟩,a3⟩:=h
   have hw:IntKind.wrap .u8 (IntKind.wrap .u8 (min (x.toNat:Int) y.toNat + 97) - 65)=min (x.toNat:Int) y.toNat + 32:=by
    rw[IntKind.wrap_u8,IntKind.wrap_u8]; omega
   rw[hw] at a3
   exact hJ _ _ ⟨rfl,(Ip hy).2 (.inr (by omega))⟩
  ·refine aa6 (fun⟨b1,b2,b3⟩=>?_) _ (ae.refl _ _)
   have hw:IntKind.wrap .u8 (IntKind.wrap .u8 (min (x.toNat:Int) y.toNat + 97) - 65)=min (x.toNat:Int) y.toNat + 32:=by
    rw[IntKind.wrap_u8,IntKind.wrap_u8]; omega
   rw[hw] at h
   simp only[Bool.and_eq_false_iff,decide_eq_false_iff_not] at h
   omega
end Go.Ab.Vc
set_option maxRecDepth 100000
namespace Go.Ab.Vc
open Go Go.Ab Go.Ab.Vl
abbrev kT1:Str:=[66,69,71,73,78,58,86,67,65,82,68,10,86,69,82,83,73,79,78,58,52,46,48,10,70,78,58,65,110,110,92,44,32,66,10,84,69,76,59,84,89,80,69,61,104,111,109,101,58,49,10,84,69,76,59,84,89,80,69,61,104,111,109,101,58,50,10,69,78,68,58,86,67,65,82,68,10]
abbrev WC:Str:=[66,69,71,73,78,58,86,67,65,82,68,13,10,86,69,82,83,73,79,78,58,52,46,48,13,10,70,78,58,65,110,110,92,44,32,66,13,10,84,69,76,59,84,89,80,69,61,104,111,109,101,58,49,13,10,84,69,76,59,84,89,80,69,61,104,111,109,101,58,50,13,10,69,78,68,58,86,67,65,82,68,13,10]
abbrev kF:List Fd:=[([102,110],[65,110,110,44,32,66]),([116,101,108,59,116,121,112,101,61,104,111,109,101],[49]),([116,101,108,59,116,121,112,101,61,104,111,109,101,35,50],[50])]
abbrev VL:Str:=[102,110,0,65,110,110,44,32,66,0,116,101,108,59,116,121,112,101,61,104,111,109,101,0,49,0,116,101,108,59,116,121,112,101,61,104,111,109,101,35,50,0,50,0]
abbrev kP:Fd:=([116,101,108,59,116,121,112,101,61,104,111,109,101,35,50],[50])
abbrev kL:Ln:=⟨[],[116,101,108],[([116,121,112,101],[[104,111,109,101]])],[50]⟩
theorem Y3 (h:Str→Str) : mr h kT1=.ok [([99,45]++(h VL).take 16,kF,1)]:=by kernel_rfl
theorem ZQ:kX kF=some WC:=by kernel_rfl
theorem YQ (h:Str→Str) : mr h WC=.ok [([99,45]++(h VL).take 16,kF,1)]:=by kernel_rfl
theorem YT:bR kP=(kL,1,true):=by kernel_rfl
theorem XX:jy kL 1=(kP,true):=by kernel_rfl
theorem YL:jJ kP=true:=by kernel_rfl
end Go.Ab.Vc
set_option maxRecDepth 10000
namespace Go.Ab.Vc
open Go Go.Ab Go.Ab.Vl Go.Ab.Sm
theorem pG {M:RM} {c p:Bool} {f:KR→Prop} {G:AV→RM→Prop} (hf:c=true→∀ k:KR,k (Bo p) M none→f k) (hG:G (Bo (c && p)) M) :
  aI (Bo c) true f (fun k=>k .undef M none) (fun t M' b=>aD (Bo c) t (Bo false) fun u=>G u M'):=by
 cases c with
 | false=>rw[oK]; dsimp only; rw[Go.Ab.jd]; exact hG
 | true=>rw[nu]; exact hf rfl _ (by rw[Go.Ab.gU]; exact hG)
theorem Hg {M:RM} {v:AV} {cs:List Cd} {S:Nat→Prop} (h:bE Gm M v cs S) {i:Nat} (hi:i<cs.length) :
  ∃ w,bE rM.ko M w cs[i].2.1 S∧(∀ K:AV→Prop,(aX v (N .i64 (i:Int)) 3 fun p=>aH M p 3 K)=K (.agg [St cs[i].1,w,N .i64 cs[i].2.2])) ∧
    (∀ K:AV→Prop,(aX v (N .i64 (i:Int)) 3 fun p=>aF p 0 fun q=>ak M q K)=K (St cs[i].1)) ∧
    (∀ K:AV→Prop,(aX v (N .i64 (i:Int)) 3 fun p=>aF p 1 fun q=>ak M q K)=K w) ∧
    (∀ K:AV→Prop,(aX v (N .i64 (i:Int)) 3 fun p=>aF p 2 fun q=>ak M q K)=K (N .i64 cs[i].2.2)):=by
 obtain⟨b,o,ds,hb,hbm,hidx,hld,w,rfl,hw⟩:=bE.at h 3 (i:Int) hi
 have c0:M.cell b (o + 0)=some (St cs[i].1):=gW hld (j:=0) rfl
 have c1:M.cell b (o + 1)=some w:=gW hld (j:=1) rfl
 have c2:M.cell b (o + 2)=some (N .i64 cs[i].2.2):=gW hld (j:=2) rfl
 refine⟨w,hw,fun K=>?_,fun K=>?_,fun K=>?_,fun K=>?_⟩
 ·rw[hidx,rO,hld]; simp
 ·rw[hidx,ja,eZ,c0]; simp
 ·rw[hidx,ja,eZ,c1]; simp
 ·rw[hidx,ja,eZ,c2]; simp
theorem Gv {M:RM} {v:AV} {c:Cd} {S:Nat→Prop} (h:bE Gm M v [c] S) :
  ∃ w,bE rM.ko M w c.2.1 S∧(∀ K:AV→Prop,(aX v (N .i64 (0:Int)) 3 fun p=>aH M p 3 K)=K (.agg [St c.1,w,N .i64 c.2.2])) ∧
    (∀ K:AV→Prop,(aX v (N .i64 (0:Int)) 3 fun p=>aF p 0 fun q=>ak M q K)=K (St c.1)) ∧
    (∀ K:AV→Prop,(aX v (N .i64 (0:Int)) 3 fun p=>aF p 1 fun q=>ak M q K)=K w):=by
 obtain⟨w,h1,h2,h3,h4,_⟩:=Hg h (i:=0) (by simp)
 exact⟨w,h1,h2,h3,h4⟩
theorem WG {B:Base} {c:aj} (h:IL B c) {M:RM} {s:Str} {Q:ai} {cs:List Cd} (hM:M.base=B) (hs:s.length≤90000) (he:mr Sha.eT s=.ok cs)
  (hQ:∀ M' w,ae [] M M'→bE Gm M' w cs (fun b=>M.next≤b)→Q (.tup [w,N .i64 0,N .i64 0]) M') : c [St s] M Q:=by
 refine h hM (by omega) (fun ls hl=>by have:=CJ hl; omega) (fun M' w cs' k h1 h2 _=>?_) (fun M' k e _ h1 _=>?_)
 ·rw[he] at h1; cases h1; exact hQ M' w k h2
 ·rw[he] at h1; cases h1
theorem b2 (x y:Str) {K:AV→Prop} (h:K (.agg [St x,St y])) : eQ [(St []),(St [])] [(0,1,(St x)),(1,1,(St y))] K:=by
 rw[jX]; exact⟨_,by simp[nA,known,AV.cells,oneCell],h⟩
def YW (B:Base) (c:aj) : Prop:=∀ {M:RM} {Q:ai},M.base=B→(∀ M',ae [] M M'→Q (Bo true) M')→c [] M Q
theorem n18 (h:Str) (hh:h.length=64) : ([99,45]++h.take 16).length=18:=by simp; omega
set_option maxHeartbeats 1000000 in
theorem Qn {B:Base} {TL TP:Nat} {ci ce cl cf cg:aj} (hi:IL B ci) (he:QT B ce) (hl:Ho B cl) (hf:F9 B cf) (hg:FJ B cg) : YW B fun args M Q=>args=[]∧sQ ci ce cl TL cf TP cg M Q:=by
 intro M Q hM hQ
 refine⟨rfl, ?_⟩
 unfold sQ
 simp only[dS,Ro]
 generalize hct:([99,45]++(Sha.eT VL).take 16:Str)=ct
 have abh:ct.length=18:=by rw[← hct]; exact n18 _ (Sha.J4 _)
 have i1:=Y3 Sha.eT
 have i2:=YQ Sha.eT
 rw[hct] at i1 i2
 refine WG hi (s:=kT1) hM (by decide) i1 fun M1 v k1 hv=>?_
 rw[bI,bJ,jf,dM]
 refine qo (p:=false) (fun _ kk hk=>by rw[dM]; exact hk) ?_
 refine qo (p:=false) (fun _ kk hk=>by rw[hv.len,dM]; exact hk) ?_
 obtain⟨w,hw,q3,q0,q1⟩:=Gv hv
 have hw:bE rM.ko M1 w kF _:=hw
 refine qo (p:=false) (fun _ kk hk=>by rw[q1,hw.len,dM]; exact hk) ?_
 rw[show(((((0:Int) != 0) || false) || false) || false)=false from rfl,dI]
 rw[q3]
 have kFs:∀ p∈kF,p.1.length≤10000000∧p.2.length≤10000000:=by decide
 refine he (ct:=ct) (k1.base.trans hM) hw.sl (by decide) kFs fun M2 k2=>?_
 rw[show kX kF=some WC from ZQ]
 dsimp only
 rw[bI,bJ]
 have k02:=k1.trans k2
 refine WG hi (s:=WC) (k02.base.trans hM) (by decide) i2 fun M3 v2 k3 hv2=>?_
 have k03:=k02.trans k3
 have k13:=k2.trans k3
 have hv3:=hv.keep k13 (by simp)
 obtain⟨w3,hw3,_,_,r1⟩:=Gv hv3
 have hw3:bE rM.ko M3 w3 kF _:=hw3
 rw[bI,bJ,jf,r1]
 rw[show(N .i64 (2:Int))=N .i64 ((2:Nat) : Int) from rfl,AQ hw3.sl (i:=2) (by decide)]
 rw[show(kF)[2]=kP from rfl]
 refine hl (p:=kP) (k03.base.trans hM) (by decide) (by decide) fun M4 cs k4 hrel=>?_
 rw[YT] at hrel ⊢
 dsimp only at hrel ⊢
 rw[if_pos rfl] at hrel ⊢
 obtain⟨pw,rfl,hpw,hall,_⟩:=zU hrel
 rw[bI,bJ,aG]
 refine zv (b:=0) 5 rfl rfl _ rfl hall rfl fun M5 k5 n5 h5=>?_
 rw[aO (n:=5) h5 rfl]
 have k05:=(k03.trans k4).trans k5
 have hkL:rU 1000 kL:=⟨by decide,by decide,by decide,by decide⟩
 refine hf (j:=1) (k05.base.trans hM) (kQ (hpw.keep k5 (by simp))) (hkL.mono (by omega)).lb (by have:=hkL.laid; omega) fun M6 k6=>?_
 rw[XX]
 dsimp only[mJ]
 rw[bI,bJ,aG]
 refine zv (b:=0) 2 rfl rfl _ rfl rfl rfl fun M7 k7 n7 h7=>?_
 have k07:=(k05.trans k6).trans k7
 have k37:ae [] M3 M7:=((k4.trans k5).trans k6).trans k7
 have h57:=(k6.trans k7).ax h5 (by omega) (by simp)
 have hv7:=hv3.keep k37 (by simp)
 have hv27:=hv2.keep k37 (by simp)
 obtain⟨w7,hw7,_,s0,s1⟩:=Gv hv7
 have hw7:bE rM.ko M7 w7 kF _:=hw7
 obtain⟨x7,hx7,_,t0,t1⟩:=Gv hv27
 have hx7:bE rM.ko M7 x7 kF _:=hx7
 have l0:∀ K:AV→Prop,(aX w7 (N .i64 (0:Int)) 2 fun p=>aH M7 p 2 K)=K (mJ ([102,110],[65,110,110,44,32,66])):=fun K=>AQ hw7.sl (i:=0) (by decide)
 have l2:∀ K:AV→Prop,(aX w7 (N .i64 ((2:Nat) : Int)) 2 fun p=>aH M7 p 2 K)=K (mJ kP):=fun K=>AQ hw7.sl (i:=2) (by decide)
 rw[s1,l0]
 refine b2 _ _ ?_
 rw[mJ,rF (r:=true) rfl rfl (Hd ([102,110],[65,110,110,44,32,66]) ([102,110],[65,110,110,44,32,66]) |>.trans (by simp)),show(true != false)=true from rfl]
 have e0:(N .i64 (0:Int))=N .i64 ((0:Nat) : Int):=rfl
 refine pG (p:=true) (fun _ kk hk=>?_) ?_
 ·rw[s1,l2]
  refine b2 _ _ ?_
  rw[mJ,rF (r:=true) rfl rfl ((Hd kP kP).trans (by simp))]; exact hk
 refine pG (p:=true) (fun _ kk hk=>by rw[dV]; exact hk) ?_
 refine pG (p:=true) (fun _ kk hk=>by rw[dV]; exact hk) ?_
 refine pG (p:=true) (fun _ kk hk=>by rw[hv27.len,dV]; exact hk) ?_
 refine pG (p:=true) (fun _ kk hk=>by rw[t1,hx7.len,dV]; exact hk) ?_
 refine pG (p:=true) (fun _ kk hk=>by rw[t0,s0,gP,beq_self_eq_true]; exact hk) ?_
 refine pG (p:=true) (fun _ kk hk=>by rw[s0,bC,dV,show((ct.length:Int) == 18)=true by simp[abh]]; exact hk) ?_
 refine pG (p:=true) (fun _ kk hk=>by rw[dV]; exact hk) ?_
 refine pG (p:=true) (fun _ kk hk=>by rw[bi,az h57 rfl,gP]; exact hk) ?_
 refine pG (p:=true) (fun _ kk hk=>hk) ?_
 refine pG (p:=true) (fun _ kk hk=>?_) ?_
 ·rw[aO (n:=2) h7 rfl,s1,l2]
  rw[mJ,rF (r:=true) rfl rfl ((Hd kP kP).trans (by simp))]; exact hk
 simp only[Bool.and_self,nu,oQ]
 rw[aO (n:=2) h7 rfl]
 refine hg (p:=kP) (k07.base.trans hM) (by decide) (by decide) fun M8 k8=>?_
 rw[gU,YL]
 exact hQ _ (k07.trans k8)
end Go.Ab.Vc
namespace Go.Ab
open Go Go.RowKit
variable {H:Type} {enc:TypeId × Value→H}
end Go.Ab
namespace Go.Ab.Vc
open Go Go.Ab Go.Ab.Vl
def jc:List Str→Option (List Ln)
 | []=>some []
 | s :: r=>if s=[] then jc r else if 912<s.length then none else match iH bF s with
   | none=>none
   | some L=>(jc r).map (L :: ·)
theorem GH:∀ (l:List (Str × Int)) (acc ls:List Li),gu bF l acc=.ok ls→∃ t,jc (l.map Prod.fst)=some t∧ls.map Prod.fst=acc.map Prod.fst++t
 | [],acc,ls,h=>by cases h; exact⟨[],rfl,by simp⟩
 | (s,k) :: r,acc,ls,h=>by
   rw[gu] at h
   rw[List.map_cons,jc]
   dsimp only
   split at h
   ·rename_i h0; rw[if_pos h0]; exact GH r acc ls h
   ·rename_i h0; rw[if_neg h0]
    split at h
    ·cases h
    ·rename_i h1; rw[if_neg h1]
     cases hL:iH bF s with
     | none=>rw[hL] at h; cases h
     | some L =>
       rw[hL] at h
       obtain⟨t,h2,h3⟩:=GH r _ ls h
       exact⟨L :: t,by rw[h2]; rfl,by rw[h3]; simp⟩
theorem Mh:∀ (l:List (Str × Int)) (acc:List Li) (t:List Ln),jc (l.map Prod.fst)=some t→∃ ls,gu bF l acc=.ok ls∧ls.map Prod.fst=acc.map Prod.fst++t
 | [],acc,t,h=>by cases h; exact⟨acc,rfl,by simp⟩
 | (s,k) :: r,acc,t,h=>by
   rw[gu]
   rw[List.map_cons,jc] at h
   dsimp only at h
   split at h
   ·rename_i h0; rw[if_pos h0]; exact Mh r acc t h
   ·rename_i h0; rw[if_neg h0]
    split at h
    ·cases h
    ·rename_i h1; rw[if_neg h1]
     cases hL:iH bF s with
     | none=>rw[hL] at h; cases h
     | some L =>
       rw[hL] at h
       dsimp only at h ⊢
       obtain⟨t',h2,rfl⟩:=Option.map_eq_some_iff.1 h
       obtain⟨ls,h3,h4⟩:=Mh r (acc++[(L,k)]) t' h2
       exact⟨ls,h3,by rw[h4]; simp⟩
theorem IK:∀ (a b:List Str),jc (a++b)=(jc a).bind fun x=>(jc b).map (x ++ ·)
 | [],b=>by cases h:jc b <;> simp[jc,h]
 | s :: a,b=>by
   rw[List.cons_append,jc,jc]
   split
   ·exact IK a b
   ·split
    ·rfl
    ·cases hL:iH bF s with
     | none=>rfl
     | some L =>
       dsimp only
       rw[IK a b]
       cases jc a with
       | none=>rfl
       | some x=>cases jc b <;> rfl
def U (s:Str) : List Str:=(bU [] s).foldl glue []
theorem Nb (s:Str) : (Nr s).map Prod.fst=U s:=by
 unfold Nr U
 rw[List.map_fst_zip,LF]
 have:=EI (bU [] s) [] [] 1 rfl
 omega
abbrev nn (l:List Li) : List Ln:=l.map Prod.fst
theorem PG {b b' : Int} : ∀ (l l' acc acc' c r:List Li),nn l=nn l'→nn acc=nn acc'→dJ b l acc=.ok (c,r)→∃ c' r',dJ b' l' acc'=.ok (c',r')∧nn c=nn c'∧nn r=nn r'
 | [],l',acc,acc',c,r,h1,h2,h=>by cases h
 | x :: l,l',acc,acc',c,r,h1,h2,h=>by
   cases l' with
   | nil=>simp[nn] at h1
   | cons y l' =>
     simp only[nn,List.map_cons,List.cons.injEq] at h1
     obtain⟨e,h1⟩:=h1
     rw[dJ] at h ⊢
     rw[← e]
     split at h
     ·rename_i h0; rw[if_pos h0]; cases h; exact⟨_,_,rfl,h2,h1⟩
     ·rename_i h0; rw[if_neg h0]
      split at h
      ·cases h
      ·rename_i h3; rw[if_neg h3]
       exact PG l l' _ _ c r h1 (by simp only[nn,List.map_append,List.map_cons,List.map_nil]; rw[show acc.map Prod.fst=acc'.map Prod.fst from h2,e]) h
theorem O4:∀ (k:Nat) (l l' : List Li) (acc acc' css:List (List Li)),nn l=nn l'→acc.map nn=acc'.map nn→iL k l acc=.ok css→∃ Rs,iL k l' acc'=.ok Rs∧css.map nn=Rs.map nn
 | 0,l,l',acc,acc',css,h1,h2,h=>by cases h; exact⟨acc',rfl,h2⟩
 | k + 1,[],l',acc,acc',css,h1,h2,h=>by
   cases l' with
   | nil=>cases h; exact⟨acc',rfl,h2⟩
   | cons y l'=>simp[nn] at h1
 | k + 1,x :: r,l',acc,acc',css,h1,h2,h=>by
   cases l' with
   | nil=>simp[nn] at h1
   | cons x' r' =>
     simp only[nn,List.map_cons,List.cons.injEq] at h1
     obtain⟨e,h1⟩:=h1
     rw[fO] at h ⊢
     rw[← e]
     split at h
     ·cases h
     ·rename_i h0; rw[if_neg h0]
      cases r with
      | nil=>cases h
      | cons y r =>
        cases r' with
        | nil=>simp at h1
        | cons y' r' =>
          simp only[List.map_cons,List.cons.injEq] at h1
          obtain⟨e2,h1⟩:=h1
          dsimp only at h ⊢
          rw[← e2]
          split at h
          ·cases h
          ·rename_i h3; rw[if_neg h3]
           cases hb:dJ x.2 r [x] with
           | error e=>rw[hb] at h; cases h
           | ok p =>
             obtain⟨c,q⟩:=p
             rw[hb] at h
             obtain⟨c',q',hb',g1,g2⟩:=PG (b':=x'.2) r r' [x] [x'] c q h1 (by simp[nn,e]) hb
             rw[hb']
             exact O4 k q q' _ _ css g2 (by simp only[List.map_append,List.map_cons,List.map_nil]; rw[h2,g1]) h
theorem K9 {b:Int} : ∀ (l acc c r m:List Li),dJ b l acc=.ok (c,r)→dJ b (l++m) acc=.ok (c,r++m)
 | [],acc,c,r,m,h=>by cases h
 | x :: l,acc,c,r,m,h=>by
   rw[List.cons_append,dJ] at *
   split at h
   ·rename_i h0; rw[if_pos h0]; cases h; rfl
   ·rename_i h0; rw[if_neg h0]
    split at h
    ·cases h
    ·rename_i h3; rw[if_neg h3]; exact K9 l _ c r m h
theorem NL:∀ (n:Nat) (l m:List Li) (acc css:List (List Li)) (k:Nat),l.length≤n→iL (l.length + 1) l acc=.ok css→l.length + m.length<k→iL k (l++m) acc=iL (m.length + 1) m css
 | n,[],m,acc,css,k,hn,h,hk=>by
   cases h
   exact xB m.length m _ _ _ (Nat.le_refl _) (by simpa using hk) (by omega)
 | 0,x :: r,m,acc,css,k,hn,h,hk=>by simp at hn
 | n + 1,x :: r,m,acc,css,k,hn,h,hk=>by
   obtain⟨k,rfl⟩ : ∃ j,k=j + 1:=⟨k - 1,by simp at hk; omega⟩
   rw[List.cons_append,fO]
   rw[fO] at h
   split at h
   ·cases h
   ·rename_i h0; rw[if_neg h0]
    cases r with
    | nil=>cases h
    | cons y r =>
      dsimp only[List.cons_append] at h ⊢
      split at h
      ·cases h
      ·rename_i h3; rw[if_neg h3]
       cases hb:dJ x.2 r [x] with
       | error e=>rw[hb] at h; cases h
       | ok p =>
         obtain⟨c,q⟩:=p
         rw[hb] at h
         have hq:=qQ _ _ _ _ hb
         rw[K9 _ _ _ _ m hb]
         dsimp only at h ⊢
         simp only[List.length_cons] at hn hk
         rw[xB q.length q _ _ (q.length + 1) (Nat.le_refl _) (by simp; omega) (by omega)] at h
         exact NL n q m _ css k (by omega) h (by omega)
theorem VB:∀ (k:Nat) (l:List Li) (acc css:List (List Li)),iL k l []=.ok css→iL k l acc=.ok (acc++css):=by
 have gen:∀ (k:Nat) (l:List Li) (a b css:List (List Li)),iL k l b=.ok css→iL k l (a++b)=.ok (a++css):=by
  intro k
  induction k with
  | zero=>intro l a b css h; cases h; rfl
  | succ k ih =>
    intro l a b css h
    cases l with
    | nil=>cases h; rfl
    | cons x r =>
      rw[fO] at h ⊢
      split at h
      ·cases h
      ·rename_i h0; rw[if_neg h0]
       cases r with
       | nil=>cases h
       | cons y r =>
         dsimp only at h ⊢
         split at h
         ·cases h
         ·rename_i h3; rw[if_neg h3]
          cases hb:dJ x.2 r [x] with
          | error e=>rw[hb] at h; cases h
          | ok p =>
            obtain⟨c,q⟩:=p
            rw[hb] at h
            dsimp only at h ⊢
            rw[List.append_assoc]
            exact ih q a (b++[c]) css h
 intro k l acc css h
 have:=gen k l acc [] css h
 simpa using this
theorem PS:∀ (l l' : List Li) (ns:List Str) (acc fs:List Fd),nn l=nn l'→iU l ns acc=.ok fs→iU l' ns acc=.ok fs
 | [],l',ns,acc,fs,h1,h=>by
   cases l' with
   | nil=>exact h
   | cons y l'=>simp[nn] at h1
 | x :: l,l',ns,acc,fs,h1,h=>by
   cases l' with
   | nil=>simp[nn] at h1
   | cons y l' =>
     simp only[nn,List.map_cons,List.cons.injEq] at h1
     obtain⟨e,h1⟩:=h1
     rw[iU] at h ⊢
     rw[← e]
     split at h
     ·cases h
     ·rename_i h0; rw[if_neg h0]; exact PS l l' _ _ fs h1 h
theorem Xt (h:Str→Str) (all:Str) : ∀ (l l' : List Li),nn l=nn l'→jh h l all=jh h l' all:=by
 have hf:∀ (l l' : List Li),nn l=nn l'→(l.find? fun x=>decide (x.1.n=jG) && decide (x.1.g=[])).map Prod.fst=(l'.find? fun x=>decide (x.1.n=jG) && decide (x.1.g=[])).map Prod.fst:=by
  intro l
  induction l with
  | nil=>intro l' h; cases l' with
    | nil=>rfl
    | cons y l'=>simp[nn] at h
  | cons x l ih =>
    intro l' h
    cases l' with
    | nil=>simp[nn] at h
    | cons y l' =>
      simp only[nn,List.map_cons,List.cons.injEq] at h
      obtain⟨e,h⟩:=h
      rw[List.find?_cons,List.find?_cons,← e]
      cases(decide (x.1.n=jG) && decide (x.1.g=[])) with
      | true=>simp[e]
      | false=>exact ih l' h
 intro l l' hl
 have:=hf l l' hl
 unfold jh
 cases h1:l.find? (fun x=>decide (x.1.n=jG) && decide (x.1.g=[])) with
 | none =>
   rw[h1] at this
   cases h2:l'.find? (fun x=>decide (x.1.n=jG) && decide (x.1.g=[])) with
   | none=>rfl
   | some y=>rw[h2] at this; cases this
 | some x =>
   rw[h1] at this
   cases h2:l'.find? (fun x=>decide (x.1.n=jG) && decide (x.1.g=[])) with
   | none=>rw[h2] at this; cases this
   | some y =>
     rw[h2] at this
     simp only[Option.map_some,Option.some.injEq] at this
     dsimp only
     rw[this]
abbrev cc (c:Cd) : Str × List Fd:=(c.1,c.2.1)
theorem XG (h:Str→Str) (l l' : List Li) (c:Cd) (hl:nn l=nn l') (hc:jL h l=.ok c) : ∃ c',jL h l'=.ok c'∧cc c=cc c':=by
 cases l with
 | nil=>cases hc
 | cons b l =>
   cases l' with
   | nil=>simp[nn] at hl
   | cons b' l' =>
     simp only[nn,List.map_cons,List.cons.injEq] at hl
     obtain⟨e,hl⟩:=hl
     unfold jL at hc ⊢
     dsimp only at hc ⊢
     cases hf:iU l [] [] with
     | error e=>rw[hf] at hc; cases hc
     | ok fs =>
       rw[hf] at hc
       rw[PS l l' [] [] fs hl hf]
       cases hc
       exact⟨_,rfl,by simp only[cc]; rw[Xt h _ l l' hl]⟩
theorem KT (h:Str→Str) : ∀ (l l' : List (List Li)) (acc acc' cs:List Cd),l.map nn=l'.map nn→acc.map cc=acc'.map cc→eP h l acc=.ok cs→∃ cs',eP h l' acc'=.ok cs'∧cs.map cc=cs'.map cc
 | [],l',acc,acc',cs,h1,h2,hc=>by
   cases l' with
   | nil=>cases hc; exact⟨_,rfl,h2⟩
   | cons y l'=>simp at h1
 | x :: l,l',acc,acc',cs,h1,h2,hc=>by
   cases l' with
   | nil=>simp at h1
   | cons y l' =>
     simp only[List.map_cons,List.cons.injEq] at h1
     obtain⟨e,h1⟩:=h1
     rw[eP] at hc ⊢
     cases hx:jL h x with
     | error e=>rw[hx] at hc; cases hc
     | ok c =>
       rw[hx] at hc
       obtain⟨c',g1,g2⟩:=XG h x y c e hx
       rw[g1]
       exact KT h l l' _ _ cs h1 (by simp only[List.map_append,List.map_cons,List.map_nil]; rw[h2,g2]) hc
theorem Jl (h:Str→Str) : ∀ (a b:List (List Li)) (acc x y:List Cd),eP h a acc=.ok x→eP h b []=.ok y→eP h (a++b) acc=.ok (x++y)
 | [],b,acc,x,y,h1,h2=>by
   cases h1
   have gen:∀ (b:List (List Li)) (u v y:List Cd),eP h b v=.ok y→eP h b (u++v)=.ok (u++y):=by
    intro b
    induction b with
    | nil=>intro u v y hh; cases hh; rfl
    | cons c b ih =>
      intro u v y hh
      rw[eP] at hh ⊢
      cases hx:jL h c with
      | error e=>rw[hx] at hh; cases hh
      | ok d=>rw[hx] at hh; dsimp only at hh ⊢; rw[List.append_assoc]; exact ih u _ y hh
   have:=gen b acc [] y h2
   simpa using this
 | c :: a,b,acc,x,y,h1,h2=>by
   rw[List.cons_append,eP] at *
   cases hx:jL h c with
   | error e=>rw[hx] at h1; cases h1
   | ok d=>rw[hx] at h1; exact Jl h a b _ x y h1 h2
theorem Lj:∀ (l:List Li) (ns:List Str) (acc fs:List Fd),iU l ns acc=.ok fs→fs.length=acc.length + l.length
 | [],ns,acc,fs,h=>by cases h; simp
 | x :: l,ns,acc,fs,h=>by
   rw[iU] at h
   split at h
   ·cases h
   ·have:=Lj l _ _ fs h; simp at this ⊢; omega
theorem Cg (h:Str→Str) : ∀ (css:List (List Li)) (acc cs:List Cd),eP h css acc=.ok cs→∀ c∈cs,c∈acc∨∃ l∈css,jL h l=.ok c
 | [],acc,cs,hc,c,hm=>by cases hc; exact .inl hm
 | l :: css,acc,cs,hc,c,hm=>by
   rw[eP] at hc
   cases hx:jL h l with
   | error e=>rw[hx] at hc; cases hc
   | ok d =>
     rw[hx] at hc
     rcases Cg h css _ cs hc c hm with h1 | ⟨l',h1,h2⟩
     ·rcases List.mem_append.1 h1 with h1 | h1
      ·exact .inl h1
      ·simp at h1; subst h1; exact .inr ⟨l,List.mem_cons_self ..,hx⟩
     ·exact .inr ⟨l',List.mem_cons_of_mem _ h1,h2⟩
theorem MP {h:Str→Str} {l:List Li} {c:Cd} (hc:jL h l=.ok c) : c.2.1.length≤l.length:=by
 cases l with
 | nil=>cases hc
 | cons b l =>
   unfold jL at hc
   dsimp only at hc
   cases hf:iU l [] [] with
   | error e=>rw[hf] at hc; cases hc
   | ok fs =>
     rw[hf] at hc
     cases hc
     have:=Lj _ _ _ _ hf
     simp at this ⊢; omega
theorem Xg {h:Str→Str} {s:Str} {cs:List Cd} (hi:mr h s=.ok cs) : ∀ c∈cs,c.2.1.length≤s.length + 1:=by
 intro c hc
 unfold mr at hi
 cases hr:wH bF s with
 | bad k e=>rw[hr] at hi; cases hi
 | ok ls =>
   rw[hr] at hi
   dsimp only at hi
   have hl:=CJ hr
   cases hcu:iL (ls.length + 1) ls [] with
   | error e=>rw[hcu] at hi; cases hi
   | ok css =>
     rw[hcu] at hi
     rcases Cg h css [] cs hi c hc with h1 | ⟨l,h1,h2⟩
     ·cases h1
     ·have h3:=MP h2
      rcases Ak _ _ _ _ hcu l h1 with h4 | ⟨_,h4,_⟩
      ·cases h4
      ·omega
theorem Me:∀ (k:Nat) (l:List Li) (acc css:List (List Li)),iL k l acc=.ok css→css.length≤acc.length + l.length
 | 0,l,acc,css,h=>by cases h; omega
 | k + 1,[],acc,css,h=>by cases h; simp
 | k + 1,x :: r,acc,css,h=>by
   rw[fO] at h
   split at h
   ·cases h
   ·cases r with
    | nil=>cases h
    | cons y r =>
      dsimp only at h
      split at h
      ·cases h
      ·cases hb:dJ x.2 r [x] with
       | error e=>rw[hb] at h; cases h
       | ok p =>
         obtain⟨c,q⟩:=p
         rw[hb] at h
         have h1:=Me k q _ css h
         have h2:=qQ _ _ _ _ hb
         simp at h1 ⊢; omega
theorem JE (h:Str→Str) : ∀ (css:List (List Li)) (acc cs:List Cd),eP h css acc=.ok cs→cs.length=acc.length + css.length
 | [],acc,cs,hc=>by cases hc; simp
 | l :: css,acc,cs,hc=>by
   rw[eP] at hc
   cases hx:jL h l with
   | error e=>rw[hx] at hc; cases hc
   | ok d=>rw[hx] at hc; have:=JE h css _ cs hc; simp at this ⊢; omega
theorem Q3 {h:Str→Str} {s:Str} {cs:List Cd} (hi:mr h s=.ok cs) : cs.length≤s.length + 1:=by
 unfold mr at hi
 cases hr:wH bF s with
 | bad k e=>rw[hr] at hi; cases hi
 | ok ls =>
   rw[hr] at hi
   dsimp only at hi
   have hl:=CJ hr
   cases hcu:iL (ls.length + 1) ls [] with
   | error e=>rw[hcu] at hi; cases hi
   | ok css =>
     rw[hcu] at hi
     have h1:=Me _ _ _ _ hcu
     have h2:=JE h _ _ _ hi
     simp at h1 h2; omega
def Iz (h:Str→Str) (t:List Ln) (cs:List Cd) : Prop:=∃ ls css,nn ls=t∧su ls=.ok css∧eP h css []=.ok cs
theorem Yp {h:Str→Str} {s:Str} {cs:List Cd} {t:List Ln} (h1:jc (U s)=some t) (h2:Iz h t cs) : ∃ cs',mr h s=.ok cs'∧cs'.map cc=cs.map cc:=by
 obtain⟨ls,css,g1,g2,g3⟩:=h2
 rw[← Nb] at h1
 obtain⟨ls',e1,e2⟩:=Mh _ [] t h1
 have e2:nn ls'=t:=by simpa using e2
 unfold mr wH
 rw[e1]
 dsimp only
 have hl:ls'.length=ls.length:=by
  have:=congrArg List.length (e2.trans g1.symm)
  simpa using this
 obtain⟨Rs,e3,e4⟩:=O4 (ls.length + 1) ls ls' [] [] css (g1.trans e2.symm) rfl g2
 rw[hl,e3]
 dsimp only
 obtain⟨cs',e5,e6⟩:=KT h css Rs [] [] cs e4 rfl g3
 exact⟨cs',e5,e6.symm⟩
theorem U2 {h:Str→Str} {t1 t2:List Ln} {x y:List Cd} (h1:Iz h t1 x) (h2:Iz h t2 y) : Iz h (t1++t2) (x++y):=by
 obtain⟨l1,c1,a1,a2,a3⟩:=h1
 obtain⟨l2,c2,b1,b2,b3⟩:=h2
 refine⟨l1++l2,c1++c2,by simp only[nn,List.map_append] at *; rw[a1,b1], ?_,Jl h c1 c2 [] x y a3 b3⟩
 unfold su
 rw[NL l1.length l1 l2 [] c1 _ (Nat.le_refl _) a2 (by simp),VB _ _ _ _ b2]
def MK:Str→Str→List Str
 | cur,[]=>[strip cur]
 | cur,c :: t=>if c.toNat=10 then strip cur :: MK [] t else MK (cur++[c]) t
theorem Du:∀ (a cur b:Str),bU cur (a++10 :: b)=MK cur a++bU [] b
 | [],cur,b=>by simp[bU,MK]
 | c :: a,cur,b=>by
   rw[List.cons_append,bU,MK]
   split
   ·rw[Du a [] b]; rfl
   ·exact Du a _ b
theorem Wh (a b:Str) : bU [] (a++10 :: b)=bU [] (a++[10])++bU [] b:=by
 rw[Du,Du]; simp[bU]
theorem XT {acc:List Str} (h:acc≠[]) (pre:List Str) (x:Str) : glue (pre++acc) x=pre++glue acc x:=by
 unfold glue
 by_cases hx:isSp x=true
 ·rw[if_pos ⟨by simp[h],hx⟩,if_pos ⟨h,hx⟩]
  have hl:1≤acc.length:=List.length_pos_iff.2 h
  rw[List.length_append,show pre.length + acc.length - 1=pre.length + (acc.length - 1) by omega,List.set_append_right _ _ (by omega),Nat.add_sub_cancel_left]
  congr 3
  rw[List.getD_eq_getElem?_getD,List.getD_eq_getElem?_getD,List.getElem?_append_right (by omega),Nat.add_sub_cancel_left]
 ·rw[if_neg (fun h=>hx h.2),if_neg (fun h=>hx h.2),List.append_assoc]
theorem Wn (acc:List Str) (x:Str) : glue acc x≠[]:=by
 unfold glue
 split
 ·rename_i h
  intro e
  have:=congrArg List.length e
  simp at this
  exact h.1 this
 ·simp
theorem Qy {acc:List Str} (h:acc≠[]) (pre:List Str) : ∀ xs:List Str,xs.foldl glue (pre++acc)=pre++xs.foldl glue acc:=by
 intro xs
 induction xs generalizing acc with
 | nil=>rfl
 | cons x xs ih =>
   rw[List.foldl_cons,List.foldl_cons,XT h]
   exact ih (Wn acc x)
def Q5:List Str→Prop
 | []=>True
 | x :: _=>isSp x=false
theorem Qm (acc:List Str) : ∀ {xs:List Str},Q5 xs→xs.foldl glue acc=acc++xs.foldl glue []
 | [],_=>by simp
 | x :: xs,h=>by
   have hx:isSp x=false:=h
   rw[List.foldl_cons,List.foldl_cons]
   have e1:glue acc x=acc++[x]:=by unfold glue; rw[if_neg (fun h=>by rw[hx] at h; exact absurd h.2 (by simp))]
   have e2:glue [] x=[x]:=by unfold glue; rw[if_neg (fun h=>h.1 rfl)]; rfl
   rw[e1,e2]
   exact Qy (by simp) acc xs
theorem Zu {a b:Str} (h:Q5 (bU [] b)) : U (a++10 :: b)=U (a++[10])++U b:=by
 unfold U
 rw[Wh,List.foldl_append,Qm _ h]
theorem ZY {c:UInt8} {t:Str} (h:c.toNat=32∨c.toNat=9) : wk (c :: t)=0:=by
 rw[wL]
 unfold wn
 have:oL c=false:=by
  unfold oL
  rcases h with h | h <;> simp[h]
 rw[List.takeWhile_cons,if_neg (by rw[this]; simp)]; rfl
theorem Xj {c:UInt8} {t:Str} (h:c.toNat=32∨c.toNat=9) : iH bF (c :: t)=none:=by
 unfold iH
 split
 ·have hw:=ZY (t:=t) h
  have hh:∀ x:UInt8,x.toNat≠32→x.toNat≠9→aN x (c :: t)=false:=by
   intro x h1 h2
   show(c == x)=false
   rw[beq_eq_false_iff_ne]
   intro e; subst e
   rcases h with h | h
   ·exact h1 h
   ·exact h2 h
  unfold pE
  rw[hw,List.drop_zero,if_neg (by rw[hh 46 (by decide) (by decide)]; simp)]
  dsimp only
  unfold wZ ou
  rw[kY,if_neg (by rw[hh 59 (by decide) (by decide)]; simp)]
  dsimp only
  have:fB bF (bY (c :: t))=false:=by
   unfold fB bY
   rw[hw]; rfl
  rw[this]; rfl
 ·rfl
theorem YM {b:Str} {t:List Ln} (h:jc (U b)=some t) : Q5 (bU [] b):=by
 cases hr:bU [] b with
 | nil=>trivial
 | cons x xs =>
   show isSp x=false
   cases hx:isSp x with
   | false=>rfl
   | true =>
     exfalso
     unfold U at h
     rw[hr,List.foldl_cons] at h
     have e2:glue [] x=[x]:=by unfold glue; rw[if_neg (fun h=>h.1 rfl)]; rfl
     rw[e2] at h
     have hf:∀ (xs:List Str) (y z:Str) (r:List Str),∃ z' r',xs.foldl glue ((y++z) :: r)=(y++z') :: r':=by
      intro xs
      induction xs with
      | nil=>intro y z r; exact⟨z,r,rfl⟩
      | cons v xs ih =>
        intro y z r
        rw[List.foldl_cons]
        have:∃ z1 r1,glue ((y++z) :: r) v=(y++z1) :: r1:=by
         unfold glue
         split
         ·cases r with
          | nil=>exact⟨z++v.drop 1,[],by simp⟩
          | cons u r=>exact⟨z,_,by simp; rfl⟩
         ·exact⟨z,r++[v],by simp⟩
        obtain⟨z1,r1,e⟩:=this
        rw[e]
        exact ih y z1 r1
     obtain⟨z,r,hz⟩:=hf xs x [] []
     rw[List.append_nil] at hz
     rw[hz,jc] at h
     cases x with
     | nil=>cases hx
     | cons c x =>
       have hc:c.toNat=32∨c.toNat=9:=by simpa [isSp] using hx
       rw[if_neg (by simp)] at h
       split at h
       ·cases h
       ·rw[show(c :: x)++z=c :: (x++z) from rfl,Xj hc] at h
        cases h
def Pl (s:Str) : Prop:=∀ c∈s,dz c=true
theorem Pl.nil:Pl []:=by simp[Pl]
theorem Pl.cons {c:UInt8} {a:Str} (h:dz c=true) (k:Pl a) : Pl (c :: a):=fun d hd=>by
 rcases List.mem_cons.1 hd with rfl | hd
 ·exact h
 ·exact k d hd
abbrev bL:Ln:=⟨[],rT,[],[86,67,65,82,68]⟩
abbrev vL:Ln:=⟨[],iE,[],Tg⟩
abbrev eL:Ln:=⟨[],CW,[],[86,67,65,82,68]⟩
def pr (p:Fd) : Str:=(gB bF (lU p)).1
structure OkL (L:Ln) : Prop where
 print:(gB bF L).2=0
 g:L.g≠gq
 n:xQ L.n=false
theorem qE:∀ (fs:List Fd) (ns:List Str) (acc s:Str),qd fs ns acc=some s→s=acc++fs.flatMap pr++D5∧(∀ p∈fs,OkL (lU p)∧jJ p=true)∧∀ (ls:List Li) (a0:List Fd),nn ls=fs.map lU→iU ls ns a0=.ok (a0++fs)
 | [],ns,acc,s,h=>by
   cases h
   refine⟨by simp,by simp,fun ls a0 hl=>?_⟩
   cases ls with
   | nil=>simp[iU]
   | cons y ls=>simp[nn] at hl
 | p :: r,ns,acc,s,h=>by
   rw[qd] at h
   split at h
   ·cases h
   ·rename_i hg
    have hg:jJ p=true:=by simpa using hg
    obtain⟨g1,g2,g3⟩:=Lh hg
    have hf:=Fp (Ih g1)
    split at h
    ·cases h
    ·rename_i hc
     have hc:(eu ns (aT (bR p).1).1:Int)=(bR p).2.1:=Classical.not_not.1 hc
     obtain⟨h1,h2,h3⟩:=qE r _ _ s h
     refine⟨by rw[h1]; simp[pr,lU],fun q hq=>?_,fun ls a0 hl=>?_⟩
     ·rcases List.mem_cons.1 hq with rfl | hq
      ·exact⟨⟨hf.1,hf.2.1,hf.2.2.1⟩,hg⟩
      ·exact h2 q hq
     ·cases ls with
      | nil=>simp[nn] at hl
      | cons y ls =>
        simp only[nn,List.map_cons,List.cons.injEq] at hl
        obtain⟨e,hl⟩:=hl
        have hp:=hf.2.2.2.2
        rw[iU,e,show lU p=(bR p).1 from rfl,hc]
        rw[← show p.1=gQ (aT (bR p).1).1 (bR p).2.1 from congrArg Prod.fst hp,← show p.2=(aT (bR p).1).2 from(congrArg Prod.snd hp :)]
        rw[if_neg (by omega),h3 ls _ hl]
        simp
theorem piece {x rest:Str} {tx t:List Ln} (h1:jc (U (x++[13,10]))=some tx) (h2:jc (U rest)=some t) : jc (U (x++[13,10]++rest))=some (tx++t):=by
 have e1:x++[13,10]++rest=(x++[13])++10 :: rest:=by simp
 have e2:x++[13,10]=(x++[13])++[10]:=by simp
 rw[e1,Zu (YM h2),← e2,IK,h1,h2]; rfl
theorem XL {L:Ln} (h:(gB bF L).2=0) : jc (U ((gB bF L).1))=some [L]∧(gB bF L).1=fo 0 (ek L)++[13,10]:=by
 obtain⟨h1,h2,h3⟩:=nU h
 refine⟨?_,h3⟩
 rw[h3]
 unfold U
 rw[Sj h1,jc,if_neg (XN L),if_neg (by omega),Iq,U8 h1]; rfl
theorem Ph:∀ (fs:List Fd) (rest:Str) (t:List Ln),(∀ p∈fs,OkL (lU p))→jc (U rest)=some t→jc (U (fs.flatMap pr++rest))=some (fs.map lU++t)
 | [],rest,t,_,h=>by simpa using h
 | p :: fs,rest,t,hp,h=>by
   have ih:=Ph fs rest t (fun q hq=>hp q (List.mem_cons_of_mem _ hq)) h
   obtain⟨h1,h2⟩:=XL (hp p (List.mem_cons_self ..)).print
   rw[List.flatMap_cons,List.append_assoc]
   show jc (U ((gB bF (lU p)).1++_))=_
   rw[h2] at h1 ⊢
   have:=piece h1 ih
   simpa using this
theorem XB:jc (U D5)=some [eL]:=by kernel_rfl
abbrev Ty:Str:=[66,69,71,73,78,58,86,67,65,82,68,13,10,86,69,82,83,73,79,78,58,52,46,48]
theorem X0:jc (U (Ty++[13,10]))=some [bL,vL]:=by kernel_rfl
theorem YN {fs:List Fd} {s:Str} (h:kX fs=some s) : jc (U s)=some ([bL,vL]++(fs.map lU++[eL])):=by
 obtain⟨h1,h2,_⟩:=qE _ _ _ _ h
 rw[h1,show Dw++fs.flatMap pr++D5=Ty++[13,10]++(fs.flatMap pr++D5) by simp]
 exact piece X0 (Ph fs D5 [eL] (fun p hp=>(h2 p hp).1) XB)
theorem PH {b:Int} : ∀ (ls acc:List Li),(∀ x∈ls,x.1.g≠gq∧xQ x.1.n=false)→dJ b (ls++[(eL,0)]) acc=.ok (acc++ls,[])
 | [],acc,_=>by
   rw[List.nil_append,dJ,if_pos (by kernel_rfl),List.append_nil]
 | x :: ls,acc,h=>by
   obtain⟨h1,h2⟩:=h x (List.mem_cons_self ..)
   have he:fH x.1 CW=false:=by
    unfold fH
    have:¬ x.1.n=CW:=fun e=>by
     unfold xQ at h2
     rw[e] at h2
     simp at h2
    rw[decide_eq_false this]; simp
   rw[List.cons_append,dJ,if_neg (by rw[he]; simp),if_neg (by rw[h2,decide_eq_false h1]; simp),PH ls _ (fun y hy=>h y (List.mem_cons_of_mem _ hy))]
   simp
def z0 (t:List Ln) : List Li:=t.map fun L=>(L,0)
theorem ZZ (t:List Ln) : nn (z0 t)=t:=by
 unfold nn z0
 rw[List.map_map]
 exact List.map_id t
def Hm (h:Str→Str) (fs:List Fd) : Cd:=(jh h (z0 (fs.map lU)) (pV fs),fs,0)
theorem Xq (h:Str→Str) {fs:List Fd} {s:Str} (he:kX fs=some s) : Iz h ([bL,vL]++(fs.map lU++[eL])) [Hm h fs]:=by
 obtain⟨_,h2,h3⟩:=qE _ _ _ _ he
 have hb:∀ x∈z0 (fs.map lU),x.1.g≠gq∧xQ x.1.n=false:=by
  intro x hx
  simp only[z0,List.map_map,List.mem_map] at hx
  obtain⟨p,hp,rfl⟩:=hx
  exact⟨(h2 p hp).1.g,(h2 p hp).1.n⟩
 refine⟨(bL,0) :: (vL,0) :: (z0 (fs.map lU)++[(eL,0)]),[(bL,0) :: z0 (fs.map lU)], ?_, ?_, ?_⟩
 ·simp[nn,z0]
 ·unfold su
  rw[fO,if_neg (by decide)]
  dsimp only
  rw[if_neg (by decide),PH _ _ hb]
  rfl
 ·rw[eP]
  unfold jL
  dsimp only
  rw[h3 _ [] (ZZ _)]
  rfl
def K4:Str→Prop
 | []=>True
 | c :: t=>(c.toNat=13→∃ d u,t=d :: u∧d.toNat=10)∧K4 t
def N13 (s:Str) : Prop:=∀ c∈s,c.toNat≠13
theorem K4.pre:∀ {a b:Str},N13 a→K4 b→K4 (a++b)
 | [],b,_,h=>h
 | c :: a,b,hn,h=>⟨fun e=>absurd e (hn c (List.mem_cons_self ..)),K4.pre (fun d hd=>hn d (List.mem_cons_of_mem _ hd)) h⟩
theorem OO:∀ (fs:List Fd) (ns:List Str) (acc s:Str),qd fs ns acc=some s→s.length≤acc.length + 3660 * fs.length + 11
 | [],ns,acc,s,h=>by cases h; simp
 | p :: r,ns,acc,s,h=>by
   have h0:=h
   rw[qd] at h
   split at h
   ·cases h
   ·split at h
    ·cases h
    ·have:=OO r _ _ s h
     obtain⟨_,h2,_⟩:=qE _ _ _ _ h0
     obtain⟨g1,g2,g3⟩:=nU ((h2 p (List.mem_cons_self ..)).1).print
     have hf:=Rl (ek (lU p))
     rw[show lU p=(bR p).1 from rfl] at *
     rw[List.length_append,g3] at this
     simp at this ⊢; omega
theorem UE {fs:List Fd} {s:Str} (h:kX fs=some s) : s.length≤37 + 3660 * fs.length:=by
 have:=OO _ _ _ _ h
 simp at this; omega
def dv (l:Str) : Nat:=l.foldl (fun n c=>10 * n + (c.toNat - 48)) 0
theorem XH (l:Str) (c:UInt8) : dv (l++[c])=10 * dv l + (c.toNat - 48):=by simp[dv]
theorem Dp {n:Nat} (h:n<10) : (UInt8.ofNat (48 + n)).toNat=48 + n:=by
 rw[UInt8.toNat_ofNat',Nat.mod_eq_of_lt (by omega)]
theorem GZ:∀ u:Nat,dv (Lib.decDigits u)=u:=by
 intro u
 induction u using Nat.strongRecOn with
 | _ u ih =>
   rw[Lib.decDigits]
   by_cases h:u<10
   ·rw[dif_pos h]
    show 10 * 0 + ((UInt8.ofNat (48 + u)).toNat - 48)=u
    rw[Dp h]; omega
   ·rw[dif_neg h,XH,ih (u / 10) (by omega),Dp (by omega)]; omega
theorem Sw:∀ u:Nat,∀ c∈Lib.decDigits u,48≤c.toNat∧c.toNat≤57:=by
 intro u
 induction u using Nat.strongRecOn with
 | _ u ih =>
   rw[Lib.decDigits]
   by_cases h:u<10
   ·rw[dif_pos h]
    intro c hc
    simp at hc; subst hc
    have:=Dp h
    have e:UInt8.ofNat (48 + u)=48 + UInt8.ofNat u:=by simp
    rw[← e,this]; omega
   ·rw[dif_neg h]
    intro c hc
    rcases List.mem_append.1 hc with hc | hc
    ·exact ih (u / 10) (by omega) c hc
    ·simp only[List.mem_singleton] at hc
     rw[hc,Dp (by omega)]; omega
theorem VE {a b:Int} (h:Lib.itoa a=Lib.itoa b) : a=b:=by
 have neg:∀ u v:Nat,45 :: Lib.decDigits u≠Lib.decDigits v:=by
  intro u v e
  have:=Sw v 45 (by rw[← e]; exact List.mem_cons_self ..)
  have h45:(45:UInt8).toNat=45:=rfl
  omega
 unfold Lib.itoa at h
 split at h
 ·split at h
  ·have:=congrArg dv (List.cons.inj h).2
   rw[GZ,GZ] at this; omega
  ·exact absurd h (neg _ _)
 ·split at h
  ·exact absurd h.symm (neg _ _)
  ·have:=congrArg dv h
   rw[GZ,GZ] at this; omega
def scan:Bool→Str→Option Bool
 | q,[]=>some q
 | q,c :: t=>if c=35∧q=false then none else scan (if c=34 then !q else q) t
theorem gN:∀ (q:Bool) (a b:Str),scan q (a++b)=(scan q a).bind fun q'=>scan q' b
 | q,[],b=>rfl
 | q,c :: a,b=>by
   rw[List.cons_append,scan,scan]
   split
   ·rfl
   ·exact gN _ a b
theorem HY:∀ (q:Bool) (a:Str),(∀ c∈a,c≠34∧c≠35)→scan q a=some q
 | q,[],_=>rfl
 | q,c :: a,h=>by
   obtain⟨h1,h2⟩:=h c (List.mem_cons_self ..)
   rw[scan,if_neg (fun hh=>h2 hh.1),if_neg h1]
   exact HY q a fun d hd=>h d (List.mem_cons_of_mem _ hd)
theorem Tj:∀ (a:Str),(∀ c∈a,c≠34)→scan true a=some true
 | [],_=>rfl
 | c :: a,h=>by
   rw[scan,if_neg (fun hh=>by cases hh.2),if_neg (h c (List.mem_cons_self ..))]
   exact Tj a fun d hd=>h d (List.mem_cons_of_mem _ hd)
def MO:Bool→Str→Str
 | _,[]=>[]
 | q,c :: t=>if c=35∧q=false then[] else c :: MO (if c=34 then !q else q) t
theorem Po:∀ (q:Bool) (a b:Str),scan q a=some false→(b=[]∨∃ t,b=35 :: t)→MO q (a++b)=a
 | q,[],b,h,hb=>by
   simp only[scan,Option.some.injEq] at h
   subst h
   rcases hb with rfl | ⟨t,rfl⟩
   ·rfl
   ·rw[List.nil_append,MO,if_pos ⟨rfl,rfl⟩]
 | q,c :: a,b,h,hb=>by
   rw[scan] at h
   split at h
   ·cases h
   ·rename_i h0
    rw[List.cons_append,MO,if_neg h0,Po _ a b h hb]
theorem DK {c:UInt8} (h:cO.contains c=true) : c≠34∧c≠35∧c≠46∧c≠59:=by
 refine⟨?_, ?_, ?_, ?_⟩ <;> intro e <;> subst e <;> exact absurd h (by decide)
theorem NS {v:Str} (h:jk v=false) (q:Bool) (hq:q=false) : scan q (q4 v)=some false:=by
 subst hq
 have h34:=(zV h).1
 unfold q4
 split
 ·rw[List.append_assoc,gN,show scan false [34]=some true from rfl,Option.bind_some,gN,Tj v (fun c hc=>(h34 c hc).2)]
  rfl
 ·rename_i h4
  refine HY false v fun c hc=>⟨(h34 c hc).2,fun e=>h4 ?_⟩
  unfold ES
  rw[List.any_eq_true]
  exact⟨c,hc,by rw[e]; decide⟩
theorem Jg:∀ {vs:List Str},(∀ v∈vs,jk v=false)→scan false (oq vs)=some false
 | [],_=>rfl
 | v :: vs,h=>by
   rw[show oq (v :: vs)=[44]++(q4 v++oq vs) by simp[oq],gN,show scan false [44]=some false from rfl,Option.bind_some,gN,NS (h v (List.mem_cons_self ..)) false rfl,Option.bind_some]
   exact Jg fun w hw=>h w (List.mem_cons_of_mem _ hw)
theorem Sq {vs:List Str} (h:∀ v∈vs,jk v=false) : scan false (uh vs)=some false:=by
 cases vs with
 | nil=>rfl
 | cons v vs =>
   rw[show uh (v :: vs)=q4 v++oq vs from rfl,gN,NS (h v (List.mem_cons_self ..)) false rfl,Option.bind_some]
   exact Jg fun w hw=>h w (List.mem_cons_of_mem _ hw)
theorem wF {n:Str} (h:fB bF n=true) : ∀ c∈n,cO.contains c=true:=(jv h).2.2
theorem Dj {n:Str} (h:fB bF n=true) : scan false n=some false:=HY false n fun c hc=>⟨(DK (wF h c hc)).1,(DK (wF h c hc)).2.1⟩
theorem Jn:∀ {ps:List gF},(∀ p∈ps,jK bF p=true)→scan false (jN ps)=some false
 | [],_=>rfl
 | p :: ps,h=>by
   obtain⟨h1,_,h3⟩:=wP (h p (List.mem_cons_self ..))
   rw[show jN (p :: ps)=[59]++(p.1++([61]++(uh p.2++jN ps))) by simp[jN,xG]]
   rw[gN,show scan false [59]=some false from rfl,Option.bind_some,gN,Dj h1,Option.bind_some,gN,show scan false [61]=some false from rfl,Option.bind_some,gN,Sq h3,Option.bind_some]
   exact Jn fun q hq=>h q (List.mem_cons_of_mem _ hq)
theorem We {L:Ln} (h:ig bF L=true) : scan false (dF L)=some false:=by
 obtain⟨h1,h2,_,_,h5⟩:=rR h
 unfold dF iY
 have hr:scan false (L.n++jN L.ps)=some false:=by rw[gN,Dj h2,Option.bind_some,Jn h5]
 split
 ·simpa using hr
 ·rename_i hg
  rcases h1 with h1 | h1
  ·exact absurd h1 hg
  ·rw[List.append_assoc,gN,Dj h1,Option.bind_some,gN,show scan false [46]=some false from rfl,Option.bind_some]; exact hr
theorem JW {L:Ln} (h:ig bF L=true) : scan false (aT L).1=some false:=by
 have h1:=We h
 have h2:scan false (gq++[46]++dF L)=some false:=by rw[gN,show scan false (gq++[46])=some false from rfl,Option.bind_some,h1]
 unfold aT
 split
 ·split
  ·split
   ·exact h1
   ·exact h2
  ·exact h2
 ·exact h1
theorem Sz (n:Str) (k:Int) : ∃ b,gQ n k=n++b∧(b=[]∨∃ t,b=35 :: t):=by
 unfold gQ
 split
 ·exact⟨[],by simp,.inl rfl⟩
 ·exact⟨35 :: _,by simp; rfl,.inr ⟨_,rfl⟩⟩
theorem MU {n:Str} (h:scan false n=some false) (k:Int) : MO false (gQ n k)=n:=by
 obtain⟨b,e,hb⟩:=Sz n k
 rw[e]; exact Po false n b h hb
theorem Vh {n n' : Str} (h:scan false n=some false) (h' : scan false n'=some false) {k:Nat} {a:Int} (hk:k<4611686018427387904) (ha:0≤a) (ha2:a≤9223372036854775807) (e:gQ n k=gQ n' a) : n=n'∧(k:Int)=a:=by
 have hn:n=n':=by rw[← MU h k,← MU h' a,e]
 subst hn
 refine⟨rfl, ?_⟩
 unfold gQ at e
 split at e
 ·rename_i h0
  split at e
  ·rename_i h1; omega
  ·have:=congrArg List.length e; simp at this
 ·rename_i h0
  split at e
  ·have:=congrArg List.length e; simp at this
  ·have e2:=VE (List.append_cancel_left (by simpa using e:n++(35 :: Lib.itoa (IntKind.wrap .i64 ((k:Int) + 1)))=n++(35 :: Lib.itoa (IntKind.wrap .i64 (a + 1)))) |> fun h=>(List.cons.inj h).2)
   rw[IntKind.wrap_i64,IntKind.wrap_i64] at e2
   omega
def uv (L:Ln) : Option Str:=if L.n=jG∧L.g=[] then some L.v else none
theorem Xz (h:Str→Str) (all:Str) : ∀ (l l' : List Li),l.map (fun x=>uv x.1)=l'.map (fun x=>uv x.1)→jh h l all=jh h l' all:=by
 have key:∀ l:List Li,jh h l all=match l.findSome? (fun x=>uv x.1) with
   | some v=>if 1≤v.length∧v.length≤64 then v else[99,45]++(h all).take 16
   | none=>[99,45]++(h all).take 16:=by
  intro l
  unfold jh
  induction l with
  | nil=>rfl
  | cons x l ih =>
    rw[List.find?_cons,List.findSome?_cons]
    unfold uv
    by_cases hx:x.1.n=jG∧x.1.g=[]
    ·rw[if_pos hx,decide_eq_true hx.1,decide_eq_true hx.2]; rfl
    ·rw[if_neg hx]
     have:(decide (x.1.n=jG) && decide (x.1.g=[]))=false:=by
      rw[Bool.and_eq_false_iff]
      by_cases h1:x.1.n=jG
      ·exact .inr (decide_eq_false fun h2=>hx ⟨h1,h2⟩)
      ·exact .inl (decide_eq_false h1)
     rw[this]
     exact ih
 have fs:∀ l l' : List Li,l.map (fun x=>uv x.1)=l'.map (fun x=>uv x.1)→l.findSome? (fun x=>uv x.1)=l'.findSome? (fun x=>uv x.1):=by
  intro l
  induction l with
  | nil=>intro l' hh; cases l' with
    | nil=>rfl
    | cons y l'=>simp at hh
  | cons x l ih =>
    intro l' hh
    cases l' with
    | nil=>simp at hh
    | cons y l' =>
      simp only[List.map_cons,List.cons.injEq] at hh
      rw[List.findSome?_cons,List.findSome?_cons,hh.1]
      split
      ·rfl
      ·exact ih l' hh.2
 intro l l' hl
 rw[key,key,fs l l' hl]
def GU (s:Str) : Str:=s.takeWhile fun c=>!(c == 46 || c == 59)
theorem Gl {a b:Str} (ha:∀ c∈a,c≠46∧c≠59) (hb:∀ c,b.head?=some c→c=46∨c=59) : GU (a++b)=a:=by
 unfold GU
 refine(fZ (fun x hx=>?_) fun x hx=>?_).1
 ·obtain⟨h1,h2⟩:=ha x hx; simp[h1,h2]
 ·rcases hb x hx with rfl | rfl <;> rfl
theorem PK {n:Str} (h:fB bF n=true) : ∀ c∈n,c≠46∧c≠59:=fun c hc=>⟨(DK (wF h c hc)).2.2.1,(DK (wF h c hc)).2.2.2⟩
theorem Jv (ps:List gF) : ∀ c,(jN ps).head?=some c→c=46∨c=59:=by
 intro c hc
 cases ps with
 | nil=>simp[jN] at hc
 | cons p ps =>
   have:(jN (p :: ps)).head?=some 59:=by simp[jN,xG]
   rw[this] at hc; cases hc; exact .inr rfl
theorem VW:yE jG=false:=by decide
theorem Nq {L:Ln} (h:L.n=jG) : aT L=(dF L,L.v):=by
 unfold aT; rw[h,VW]; rfl
theorem MG {L L' : Ln} (hg' : ig bF L'=true) (hr' : L'.g≠gq) (e:aT L=aT L') (hu:L.n=jG∧L.g=[]) : L'.n=jG∧L'.g=[]∧L.v=L'.v:=by
 have hp:=Nq hu.1
 have Qd:dF L=jG++jN L.ps:=by unfold dF iY; rw[if_pos hu.2,hu.1]; rfl
 obtain⟨g1,g2,_,_,g5⟩:=rR hg'
 have hw:GU (dF L)=jG:=by rw[Qd]; exact Gl (by decide) (Jv _)
 have hw' : L'.g≠[]→GU (dF L')=L'.g:=by
  intro hne
  unfold dF iY
  rw[if_neg hne,List.append_assoc]
  refine Gl (PK (g1.resolve_left hne)) fun c hc=>?_
  simp at hc; exact .inl hc.symm
 have hw0:L'.g=[]→GU (dF L')=L'.n:=by
  intro h0
  unfold dF iY
  rw[if_pos h0,List.nil_append]
  exact Gl (PK g2) (Jv _)
 have hraw:∀ x:Str,GU (gq++[46]++x)=gq:=by
  intro x
  rw[List.append_assoc]
  exact Gl (by decide) fun c hc=>by simp at hc; exact .inl hc.symm
 have e1:dF L=(aT L').1:=by rw[← e,hp]
 have qg:(aT L').1≠gq++[46]++dF L':=by
  intro h
  rw[← e1] at h
  have:=congrArg GU h
  rw[hw,hraw] at this
  exact absurd this (by decide)
 have hnm:dF L=dF L':=by
  unfold aT at qg e1
  split at e1
  ·rename_i ht
   rw[if_pos ht] at qg
   split at e1
   ·rename_i s hs
    rw[hs] at qg
    split at e1
    ·exact e1
    ·rename_i h0; dsimp only at qg; rw[if_neg h0] at qg; exact absurd rfl qg
   ·rename_i hs; rw[hs] at qg; dsimp only at qg; exact absurd rfl qg
  ·exact e1
 have h0:L'.g=[]:=by
  by_cases hne:L'.g=[]
  ·exact hne
  ·exfalso
   have h1:=congrArg GU hnm
   rw[hw,hw' hne] at h1
   rw[Qd] at hnm
   unfold dF iY at hnm
   rw[if_neg hne,← h1,List.append_assoc] at hnm
   have h2:=List.append_cancel_left hnm
   cases hps:L.ps with
   | nil=>rw[hps] at h2; simp[jN] at h2
   | cons p ps=>rw[hps] at h2; simp[jN,xG] at h2
 have hn:L'.n=jG:=by
  have h1:=congrArg GU hnm
  rw[hw,hw0 h0] at h1
  exact h1.symm
 refine⟨hn,h0, ?_⟩
 have hp':=Nq hn
 rw[hp,hp'] at e
 exact congrArg Prod.snd e
theorem Xu {L L' : Ln} (hg:ig bF L=true) (hr:L.g≠gq) (hg' : ig bF L'=true) (hr' : L'.g≠gq) (e:aT L=aT L') : uv L=uv L':=by
 unfold uv
 by_cases hu:L.n=jG∧L.g=[]
 ·obtain⟨h1,h2,h3⟩:=MG hg' hr' e hu
  rw[if_pos hu,if_pos ⟨h1,h2⟩,h3]
 ·rw[if_neg hu]
  by_cases hu' : L'.n=jG∧L'.g=[]
  ·obtain⟨h1,h2,_⟩:=MG hg hr e.symm hu'
   exact absurd ⟨h1,h2⟩ hu
  ·rw[if_neg hu']
theorem XJ (x:Int) : IntKind.wrap .i64 x≤9223372036854775807:=by rw[IntKind.wrap_i64]; omega
theorem Y9 (s:Str) : (Bl s).2.1≤9223372036854775807:=by
 unfold Bl
 dsimp only
 split
 ·decide
 ·split
  ·show(0:Int)≤_; decide
  ·exact XJ _
theorem VU (p:Fd) : (bR p).2.1≤9223372036854775807:=Y9 _
theorem GR:∀ (ls:List Li) (ns:List Str) (acc fs:List Fd),(∀ y∈ls,ig bF y.1=true∧y.1.g≠gq)→ns.length + ls.length<4611686018427387904→iU ls ns acc=.ok fs →
  ∃ gs,fs=acc++gs∧(∀ p∈gs,p.1.length≤64∧p.2.length≤512)∧((∀ p∈gs,jJ p=true)→(∀ s0,∃ s,qd gs ns s0=some s)∧(gs.map lU).map uv=ls.map fun x=>uv x.1)
 | [],ns,acc,fs,_,_,h=>by cases h; exact⟨[],by simp,by simp,fun _=>⟨fun s0=>⟨_,rfl⟩,rfl⟩⟩
 | x :: r,ns,acc,fs,hl,hn,h=>by
   rw[iU] at h
   split at h
   ·cases h
   ·rename_i hsz
    simp only[List.length_cons] at hn
    obtain⟨gs,h1,h2,h3⟩:=GR r _ _ fs (fun y hy=>hl y (List.mem_cons_of_mem _ hy)) (by simp; omega) h
    refine⟨_ :: gs,by rw[h1,List.append_assoc]; rfl,fun p hp=>?_,fun hg=>?_⟩
    ·rcases List.mem_cons.1 hp with rfl | hp
     ·dsimp only; omega
     ·exact h2 p hp
    ·obtain⟨hx,hxr⟩:=hl x (List.mem_cons_self ..)
     have hgp:=hg _ (List.mem_cons_self ..)
     obtain⟨h4,h5⟩:=h3 fun p hp=>hg p (List.mem_cons_of_mem _ hp)
     obtain⟨g1,_,_⟩:=Lh hgp
     obtain⟨f1,f2,f3,f4,f5⟩:=Fp (Ih g1)
     obtain⟨p1,_,_⟩:=nU f1
     have hcn:eu ns (aT x.1).1≤ns.length:=by unfold eu; exact List.countP_le_length
     have hq:=f5
     generalize hp:(gQ (aT x.1).1 ((eu ns (aT x.1).1:Nat) : Int),(aT x.1).2)=p at *
     have e1:gQ (aT x.1).1 ((eu ns (aT x.1).1:Nat) : Int)=gQ (aT (bR p).1).1 (bR p).2.1:=by
      have a:=congrArg Prod.fst hp; have b:=congrArg Prod.fst hq
      exact a.trans b
     have e2:(aT x.1).2=(aT (bR p).1).2:=by
      have a:=congrArg Prod.snd hp; have b:=congrArg Prod.snd hq
      exact a.trans b
     obtain⟨e3,e4⟩:=Vh (JW hx) (JW p1) (by omega) f4 (VU p) e1
     refine⟨fun s0=>?_, ?_⟩
     ·rw[qd,if_neg (by rw[hgp]; simp),if_neg (by rw[← e3,e4]; simp),← e3]
      exact h4 _
     ·rw[List.map_cons,List.map_cons,List.map_cons,h5]
      congr 1
      exact Xu p1 f2 hx hxr (Prod.ext e3.symm e2.symm)
theorem Jz {b:Int} : ∀ (l acc c r:List Li),dJ b l acc=.ok (c,r)→∃ d,c=acc++d∧∀ x∈d,x∈l∧x.1.g≠gq
 | [],_,_,_,h=>by cases h
 | x :: l,acc,c,r,h=>by
   rw[dJ] at h
   split at h
   ·cases h; exact⟨[],by simp,by simp⟩
   ·split at h
    ·cases h
    ·rename_i h0
     simp only[Bool.or_eq_true,decide_eq_true_eq,not_or,Bool.not_eq_true] at h0
     obtain⟨d,h1,h2⟩:=Jz l _ c r h
     refine⟨x :: d,by rw[h1]; simp,fun y hy=>?_⟩
     rcases List.mem_cons.1 hy with rfl | hy
     ·exact⟨List.mem_cons_self ..,h0.2⟩
     ·exact⟨List.mem_cons_of_mem _ (h2 y hy).1,(h2 y hy).2⟩
theorem J9:∀ (k:Nat) (l:List Li) (acc css:List (List Li)),iL k l acc=.ok css→(∀ c∈css,c∈acc∨∃ x ls,c=x :: ls∧∀ y∈ls,y∈l∧y.1.g≠gq)∧(css.map List.length).sum≤(acc.map List.length).sum + l.length
 | 0,l,acc,css,h=>by cases h; exact⟨fun c hc=>.inl hc,by omega⟩
 | k + 1,[],acc,css,h=>by cases h; exact⟨fun c hc=>.inl hc,by simp⟩
 | k + 1,x :: r,acc,css,h=>by
   rw[fO] at h
   split at h
   ·cases h
   ·cases r with
    | nil=>cases h
    | cons y r =>
      dsimp only at h
      split at h
      ·cases h
      ·cases hb:dJ x.2 r [x] with
       | error e=>rw[hb] at h; cases h
       | ok p =>
         obtain⟨c1,r'⟩:=p
         rw[hb] at h
         dsimp only at h
         obtain⟨_,h3,h4⟩:=Ah _ _ _ _ hb
         obtain⟨d,hd,hk⟩:=Jz _ _ _ _ hb
         obtain⟨g1,g2⟩:=J9 k r' _ css h
         refine⟨fun c hc=>?_, ?_⟩
         ·rcases g1 c hc with h5 | ⟨x',ls,h5,h6⟩
          ·rcases List.mem_append.1 h5 with h5 | h5
           ·exact .inl h5
           ·simp at h5; subst h5
            exact .inr ⟨x,d,hd,fun z hz=>⟨List.mem_cons_of_mem _ (List.mem_cons_of_mem _ (hk z hz).1),(hk z hz).2⟩⟩
          ·exact .inr ⟨x',ls,h5,fun z hz=>⟨List.mem_cons_of_mem _ (List.mem_cons_of_mem _ (h3 z (h6 z hz).1)),(h6 z hz).2⟩⟩
         ·simp at g2 h4 ⊢; omega
theorem EM:∀ (l:List Str) (t:List Ln),jc l=some t→∀ L∈t,ig bF L=true
 | [],t,h,L,hL=>by cases h; cases hL
 | s :: r,t,h,L,hL=>by
   rw[jc] at h
   split at h
   ·exact EM r t h L hL
   ·split at h
    ·cases h
    ·cases hr:iH bF s with
     | none=>rw[hr] at h; cases h
     | some L0 =>
       rw[hr] at h
       dsimp only at h
       obtain⟨t',h2,rfl⟩:=Option.map_eq_some_iff.1 h
       rcases List.mem_cons.1 hL with rfl | hL
       ·exact U4 (by rw[← Iq]; exact hr)
       ·exact EM r t' h2 L hL
theorem Ju (h:Str→Str) : ∀ (css:List (List Li)) (acc cs:List Cd),eP h css acc=.ok cs→(cs.map fun c=>c.2.1.length).sum≤(acc.map fun c=>c.2.1.length).sum + (css.map List.length).sum
 | [],acc,cs,hc=>by cases hc; simp
 | l :: css,acc,cs,hc=>by
   rw[eP] at hc
   cases hx:jL h l with
   | error e=>rw[hx] at hc; cases hc
   | ok d =>
     rw[hx] at hc
     have h1:=Ju h css _ cs hc
     have h2:=MP hx
     simp at h1 ⊢; omega
theorem Ke {h:Str→Str} {s:Str} {cs:List Cd} (hi:mr h s=.ok cs) (hs:s.length≤1000000000) :
  (∀ c∈cs,(∀ p∈c.2.1,p.1.length≤64∧p.2.length≤512)∧(kX c.2.1=none→c.2.1.all jJ=false)∧∀ u,kX c.2.1=some u→cc (Hm h c.2.1)=cc c)∧(cs.map fun c=>c.2.1.length).sum≤s.length + 1:=by
 unfold mr at hi
 cases hr:wH bF s with
 | bad k e=>rw[hr] at hi; cases hi
 | ok ls =>
   rw[hr] at hi
   dsimp only at hi
   have hcnt:=CJ hr
   obtain⟨t,t1,t2⟩:=GH _ _ _ hr
   have t2:ls.map Prod.fst=t:=by simpa using t2
   have hgood:=EM _ _ t1
   cases hcu:iL (ls.length + 1) ls [] with
   | error e=>rw[hcu] at hi; cases hi
   | ok css =>
     rw[hcu] at hi
     dsimp only at hi
     obtain⟨k1,k2⟩:=J9 _ _ _ _ hcu
     have hsum:=Ju h _ _ _ hi
     refine⟨fun c hc=>?_,by simp at hsum k2; omega⟩
     rcases Cg h css [] cs hi c hc with h1 | ⟨l,h1,h2⟩
     ·cases h1
     rcases k1 l h1 with h3 | ⟨x,r,rfl,h3⟩
     ·cases h3
     unfold jL at h2
     dsimp only at h2
     cases hf:iU r [] [] with
     | error e=>rw[hf] at h2; cases h2
     | ok fs =>
       rw[hf] at h2
       cases h2
       dsimp only
       have hrl:r.length≤ls.length:=by
        rcases Ak _ _ _ _ hcu _ h1 with h4 | ⟨_,h4,_⟩
        ·cases h4
        ·simp at h4; omega
       obtain⟨gs,e,g1,g2⟩:=GR r [] [] fs (fun y hy=>⟨hgood _ (by rw[← t2]; exact List.mem_map_of_mem (h3 y hy).1),(h3 y hy).2⟩) (by simp; omega) hf
       simp only[List.nil_append] at e
       subst e
       refine⟨g1,fun hn=>?_,fun u hu=>?_⟩
       ·cases hall:fs.all jJ with
        | false=>rfl
        | true =>
          obtain⟨w,hw⟩:=(g2 (List.all_eq_true.1 hall)).1 Dw
          unfold kX at hn
          rw[hw] at hn; cases hn
       ·obtain⟨_,h5,_⟩:=qE _ _ _ _ hu
        have h6:=(g2 fun p hp=>(h5 p hp).2).2
        unfold Hm
        simp only[cc]
        rw[Xz h _ (z0 (fs.map lU)) r (by rw[← h6]; simp[z0])]
def lm (l:List (List Fd)) : Str:=l.flatMap fun fs=>(kX fs).getD []
theorem OX (h:Str→Str) : ∀ l:List (List Fd),(∀ fs∈l,(kX fs).isSome=true)→∃ t,jc (U (lm l))=some t∧Iz h t (l.map (Hm h))∧t.length=(l.map List.length).sum + 3 * l.length
 | [],_=>⟨[],rfl,⟨[],[],rfl,rfl,rfl⟩,rfl⟩
 | fs :: l,hl=>by
   obtain⟨t,h1,h2,h3⟩:=OX h l fun q hq=>hl q (List.mem_cons_of_mem _ hq)
   have hs:=hl fs (List.mem_cons_self ..)
   cases he:kX fs with
   | none=>rw[he] at hs; cases hs
   | some s =>
     obtain⟨e1,_,_⟩:=qE _ _ _ _ he
     refine⟨[bL,vL]++(fs.map lU++[eL])++t, ?_, ?_,by simp[h3]; omega⟩
     ·have:lm (fs :: l)=Dw++fs.flatMap pr++[69,78,68,58,86,67,65,82,68]++[13,10]++lm l:=by
       unfold lm
       rw[List.flatMap_cons,he,Option.getD_some,e1]
       simp
      rw[this]
      refine piece ?_ h1
      have e2:Dw++fs.flatMap pr++[69,78,68,58,86,67,65,82,68]++[13,10]=s:=by rw[e1]; simp
      rw[e2]
      exact YN he
     ·exact U2 (Xq h he) h2
theorem EP:∀ l:List (List Fd),(lm l).length≤3660 * (l.map List.length).sum + 37 * l.length
 | []=>by simp[lm]
 | fs :: l=>by
   have ih:=EP l
   unfold lm at ih ⊢
   rw[List.flatMap_cons,List.length_append]
   have:((kX fs).getD []).length≤37 + 3660 * fs.length:=by
    cases he:kX fs with
    | none=>simp
    | some s=>exact UE he
   simp at ih ⊢; omega
theorem Vp {s:Str} {t:List Ln} (h:jc (U s)=some t) : ∀ ls,wH bF s=.ok ls→ls.length=t.length:=by
 intro ls hl
 obtain⟨t',h1,h2⟩:=GH _ _ _ hl
 rw[Nb,h] at h1
 cases h1
 have:=congrArg List.length h2
 simpa using this
theorem SF {h:Str→Str} {s:Str} {cs:List Cd} (hi:mr h s=.ok cs) (hs:s.length≤5000) (he:∀ c∈cs,(kX c.2.1).isSome=true) :
  ∃ z,mr h (lm (cs.map fun c=>c.2.1))=.ok z∧z.map cc=cs.map cc∧(lm (cs.map fun c=>c.2.1)).length≤50000000∧∀ ls,wH bF (lm (cs.map fun c=>c.2.1))=.ok ls→ls.length≤100000:=by
 obtain⟨h1,h2⟩:=Ke hi (by omega)
 have hc:=Q3 hi
 obtain⟨t,t1,t2,t3⟩:=OX h (cs.map fun c=>c.2.1) (fun fs hf=>by
  obtain⟨c,hc,rfl⟩:=List.mem_map.1 hf
  exact he c hc)
 obtain⟨z,z1,z2⟩:=Yp t1 t2
 have hl:=EP (cs.map fun c=>c.2.1)
 have hs2:((cs.map fun c=>c.2.1).map List.length).sum≤s.length + 1:=by rw[List.map_map]; exact h2
 simp only[List.length_map] at hl t3
 refine⟨z,z1, ?_,by omega,fun ls hls=>?_⟩
 ·rw[z2,List.map_map,List.map_map]
  refine List.map_congr_left fun c hc=>?_
  have:=he c hc
  cases hu:kX c.2.1 with
  | none=>rw[hu] at this; cases this
  | some u=>exact(h1 c hc).2.2 u hu
 ·have:=Vp t1 ls hls
  omega
end Go.Ab.Vc
namespace Go.Ab.Vc
open Go Go.Ab Go.Ab.Vl Go.Ab.Sm
theorem Y6 {B:Base} {c:aj} (h:IL B c) {M:RM} {s:Str} {Q:ai} (hM:M.base=B) (hs:s.length≤90000)
  (hO:∀ cs M' w,mr Sha.eT s=.ok cs→ae [] M M'→bE Gm M' w cs (fun b=>M.next≤b)→cs.length≤s.length + 1→Q (.tup [w,N .i64 0,N .i64 0]) M')
  (hE:∀ M' k e,mr Sha.eT s=.error (k,e)→ae [] M M'→(e != 0)=true→Q (.tup [aB,N .i64 k,N .i64 e]) M') : c [St s] M Q :=
 h hM (by omega) (fun ls hl=>by have:=CJ hl; omega) (fun M' w cs k h1 h2 h3=>hO cs M' w h1 k h2 h3) (fun M' k e kk h1 h2=>hE M' k e h1 kk (by simpa using h2))
theorem Y8 {x y:List Cd} (h:x.map cc=y.map cc) {i:Nat} (h1:i<x.length) (h2:i<y.length) : x[i].1=y[i].1∧x[i].2.1=y[i].2.1:=by
 have:(x.map cc)[i]'(by simpa using h1)=(y.map cc)[i]'(by simpa using h2):=by simp only[h]
 simp only[List.getElem_map,cc,Prod.mk.injEq] at this
 exact this
theorem aa0 (p:Fd) {K:AV→Prop} : mh true [2,2] (mJ p) (mJ p) K=K (Bo false):=by
 rw[mJ,rF (r:=true) rfl rfl ((Hd p p).trans (by simp))]; rfl
theorem Si {l:List (List Fd)} {i:Nat} (hi:i<l.length) : lm (l.take (i + 1))=lm (l.take i)++(kX l[i]).getD []:=by
 rw[List.take_succ_eq_append_getElem hi]
 unfold lm
 rw[List.flatMap_append]
 simp
theorem LD (l:List (List Fd)) (i:Nat) : (lm (l.take i)).length≤(lm l).length:=by
 have:lm l=lm (l.take i)++lm (l.drop i):=by
  unfold lm
  rw[← List.flatMap_append,List.take_append_drop]
 rw[this,List.length_append]; omega
theorem Qh {B:Base} {ca ci ce cl:aj} (ha:YW B ca) (hi:IL B ci) (hce:QT B ce) (hl:Va B cl) {s:Str} {M:RM} {Q:ai} (hM:M.base=B) (hQ:∀ M',ae [] M M'→Q (Bo true) M') :
  ni ca ci ce cl (St s) M Q:=by
 unfold ni
 simp only[dS,Ro,dK]
 refine ha hM fun M1 k1=>?_
 rw[bP,show(!true)=false from rfl,dI,bC,show(N .i64 (5000:Int))=N .i64 ((5000:Nat) : Int) from rfl,Fz]
 refine bg (fun h=>hQ _ k1) (fun h=>?_)
 have h:¬ s.length > 5000:=of_decide_eq_false h
 refine Y6 hi (k1.base.trans hM) (by omega) (fun cs M2 v hx k2 hv hcl=>?_) (fun M2 k e hx k2 he=>?_)
 rotate_left 1
 ·rw[bI,bJ,jf,dM,he,eU]; exact hQ _ (k1.trans k2)
 rw[bI,bJ,jf,dM,show((0:Int) != 0)=false from rfl,dI]
 obtain⟨hcs,hsum⟩:=Ke hx (by omega)
 have hfl:=Xg hx
 have k02:=k1.trans k2
 have hall:=EP (cs.map fun c=>c.2.1)
 rw[List.map_map,List.length_map] at hall
 have hsum' : (cs.map (List.length ∘ fun c=>c.2.1)).sum≤s.length + 1:=hsum
 refine aP (fun m yy M5=>∃ i:Nat,m=cs.length - i∧yy=[St (lm ((cs.map fun c=>c.2.1).take i)),N .i64 (i:Int)]∧i≤cs.length∧ae [] M2 M5∧∀ c∈cs.take i,(kX c.2.1).isSome=true) _ ⟨0,rfl,rfl,Nat.zero_le _,ae.refl _ _,by simp⟩ ?_
 rintro next m yy M5 hnext ⟨i,rfl,rfl,hil,k5,hso⟩
 dsimp only[ag]
 have hv5:=hv.keep k5 (by simp)
 have k05:=k02.trans k5
 rw[hv5.len,jQ]
 refine bg (fun hlt=>?_) (fun hge=>?_)
 ·have hlt:i<cs.length:=of_decide_eq_true hlt
  have hmem:=List.getElem_mem hlt
  obtain⟨w,hw,q3,q0,q1,_⟩:=Hg hv5 hlt
  have hp:∀ p∈cs[i].2.1,p.1.length≤10000000∧p.2.length≤10000000:=fun p hp=>by have:=(hcs _ hmem).1 p hp; omega
  have hfi:=hfl _ hmem
  rw[q3]
  refine hce (k05.base.trans hM) hw.sl (by omega) hp fun M6 k6=>?_
  have k06:=k05.trans k6
  cases hx2:kX cs[i].2.1 with
  | none =>
    dsimp only
    rw[bI,bJ,dM,show((1:Int) != 0)=true from rfl,eU,dV,show((1:Int) == 1)=true from rfl,oQ]
    obtain⟨w6,hw6,_,_,r1,_⟩:=Hg (hv5.keep k6 (by simp)) hlt
    rw[r1]
    refine hl (k06.base.trans hM) hw6.sl (by omega) hp fun M7 k7=>?_
    rw[(hcs _ hmem).2.1 hx2,bP]
    dsimp only
    rw[gU]
    exact hQ _ (k06.trans k7)
  | some u =>
    dsimp only
    rw[bI,bJ,dM,show((0:Int) != 0)=false from rfl,dI]
    have hle:=LD (cs.map fun c=>c.2.1) (i + 1)
    have hst:=Si (l:=cs.map fun c=>c.2.1) (i:=i) (by simpa using hlt)
    rw[List.getElem_map,hx2,Option.getD_some] at hst
    rw[hst,List.length_append] at hle
    rw[bM]
    refine⟨by omega, ?_⟩
    rw[add1 (by omega)]
    refine hnext _ _ _ (by omega) ⟨i + 1,rfl,by rw[hst],by omega,k5.trans k6,fun c hc=>?_⟩
    rw[List.take_succ_eq_append_getElem hlt] at hc
    rcases List.mem_append.1 hc with hc | hc
    ·exact hso c hc
    ·simp at hc; subst hc; rw[hx2]; rfl
 ·have hge:¬ i<cs.length:=of_decide_eq_false hge
  have hi2:i=cs.length:=by omega
  subst hi2
  rw[List.take_length] at hso
  rw[show(cs.map fun c=>c.2.1).take cs.length=cs.map fun c=>c.2.1 by rw[List.take_of_length_le (by simp)]]
  obtain⟨z,z1,z2,z3,z4⟩:=SF hx (by omega) hso
  refine hi (k05.base.trans hM) (by omega) z4 (fun M6 u zs k6 h1 hu _=>?_) (fun M6 k e kk h1 _=>by rw[z1] at h1; cases h1)
  rw[z1] at h1
  cases h1
  have k06:=k05.trans k6
  have hv6:=hv5.keep k6 (by simp)
  have hzl:z.length=cs.length:=by have:=congrArg List.length z2; simpa using this
  rw[bI,bJ,jf,dM]
  refine qo (p:=false) (fun _ kk hk=>by rw[hu.len,hv6.len,hzl,dM,bne_self_eq_false]; exact hk) ?_
  rw[show(((0:Int) != 0) || false)=false from rfl,dI]
  refine aP (fun m yy M7=>∃ i:Nat,m=cs.length - i∧yy=[N .i64 (i:Int)]∧i≤cs.length∧M7=M6) _ ⟨0,rfl,rfl,Nat.zero_le _,rfl⟩ ?_
  rintro Dr m yy M7 mg ⟨i,rfl,rfl,hil,rfl⟩
  dsimp only[ag]
  rw[hv6.len,jQ]
  refine bg (fun hlt=>?_) (fun hge=>hQ _ k06)
  have hlt:i<cs.length:=of_decide_eq_true hlt
  obtain⟨w,hw,_,q0,q1,_⟩:=Hg hv6 hlt
  obtain⟨t,ht,_,r0,r1,_⟩:=Hg hu (i:=i) (by omega)
  obtain⟨e1,e2⟩:=Y8 z2 (by omega) hlt
  have hfi:=hfl _ (List.getElem_mem hlt)
  rw[e1] at r0
  rw[e2] at ht
  rw[r0,q0,mR,bne_self_eq_false]
  refine aaS (p:=false) (fun _ kk hk=>by rw[r1,ht.len,q1,hw.len,dM,bne_self_eq_false]; exact hk) ?_
  rw[Bool.or_false,dI]
  refine aP (fun m yy M8=>∃ j:Nat,m=cs[i].2.1.length - j∧yy=[N .i64 (j:Int)]∧j≤cs[i].2.1.length∧M8=M7) _ ⟨0,rfl,rfl,Nat.zero_le _,rfl⟩ ?_
  rintro Z8 m yy M8 NM ⟨j,rfl,rfl,hj,rfl⟩
  dsimp only[ag]
  rw[q1,hw.len,jQ]
  refine bg (fun hj2=>?_) (fun _=>?_)
  ·have hj2:j<cs[i].2.1.length:=of_decide_eq_true hj2
   rw[r1,AQ ht.sl hj2,q1,AQ hw.sl hj2,aa0,dI,add1 (by omega)]
   exact NM _ _ _ (by omega) ⟨j + 1,rfl,rfl,by omega,rfl⟩
  ·rw[add1 (by omega)]
   exact mg _ _ _ (by omega) ⟨i + 1,rfl,rfl,by omega,rfl⟩
end Go.Ab.Vc
