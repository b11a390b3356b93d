/- Part 4 of the ground of the proofs of this seat (texts H1 to HRef4). By an AI agent. -/
import Derived.Test.YtmjcgbaacndblaaGreatDoorHwr3
import Derived.Lib.SlTrimSet
import Derived.Lib.IndexMore
import Derived.Lib.SplitLaws
import Derived.Laws.AppendOwn
set_option maxRecDepth 10000
set_option linter.unusedVariables false
set_option linter.unusedSimpArgs false
namespace Go.Ab.Hw
open Go Go.Ab Go.Ab.Sm
open Go.Ab.Vl (brk lY iF di ek dJ Cg)
abbrev Str:=List UInt8
structure Bs (M:RM) (v:AV) (b:Str) : Prop where
 sl:Sl BY M v b
 cap:LZ v
theorem Bs.keep {M M' : RM} {v:AV} {b:Str} {bs:List Nat} (h:Bs M v b) (k:af bs M M') (hb:∀ x∈aW v,x ∉ bs) : Bs M' v b:=⟨aJ.keep h.sl k hb,h.cap⟩
theorem Bs.len {M:RM} {v:AV} {b:Str} (h:Bs M v b) {K:AV→Prop} : bi v K=K (N .i64 (b.length:Int)):=aJ.len h.sl
theorem Bs.str {M:RM} {v:AV} {b:Str} (h:Bs M v b) {K:AV→Prop} : dR M v K=K (St b):=Sl.str h.sl
theorem QO {M:RM} {base T n:Nat} {v:AV} {cs:List AV} (h:Own M base T 1 v cs n) : LZ v:=by
 cases h with
 | nil=>trivial
 | ex0 b o _ _ _=>exact Nat.le_refl _
 | op b n cs _ _ _ _=>rfl
theorem Bs.own {M:RM} {base T:Nat} {v:AV} {b:Str} (h:Ow BY M base T v b) : Bs M v b:=⟨Own.jc h,QO h⟩
theorem DR {M:RM} {b o n:Nat} {x:Str} (h:M.loads b o (n * 1)=some (BY.row x)) {l u:Nat} (h1:l≤u) (h2:u≤n) : M.loads b (o + l * 1) ((u - l) * 1)=some (BY.row ((x.drop l).take (u - l))):=by
 have:=ul h (l * 1) ((u - l) * 1) (by omega)
 rw[this]
 congr 1
 have e1:=BY.xV x l
 have e2:=BY.Cy (x.drop l) (u - l)
 rw[show l * 1=l * BY.size from rfl,e1,show(u - l) * 1=(u - l) * BY.size from rfl,e2]
theorem Bs.sub {M:RM} {v:AV} {b:Str} (h:Bs M v b) {lo hi:Option AV} {l u:Nat} (e1:bnd 0 lo=some l) (e2:bnd b.length hi=some u) (h1:l≤u) (h2:u≤b.length) {K:AV→Prop}
  (hK:∀ v',Bs M v' ((b.drop l).take (u - l))→(∀ x∈aW v',x∈aW v)→K v') : bB (dL 1 v lo hi none) K:=by
 obtain⟨hs,hc⟩:=h
 have hlen:((b.drop l).take (u - l)).length=u - l:=by simp; omega
 have zero:u=l→∀ {w:AV},aJ M 1 w [] 0→Sl BY M w ((b.drop l).take (u - l)):=by
  intro e w hw
  subst e
  rw[Nat.sub_self,List.take_zero]
  exact hw
 unfold Sl at hs
 generalize hn:b.length=n at *
 generalize hcs:BY.row b=cs at *
 cases hs with
 | nil =>
   have l0:l=0:=by omega
   have u0:u=0:=by omega
   subst l0 u0
   exact⟨aA,by simp only[dL,aA,e1,e2],hK _ ⟨zero rfl .nil,trivial⟩ (fun x hx=>hx)⟩
 | emp b0 =>
   have l0:l=0:=by omega
   have u0:u=0:=by omega
   subst l0 u0
   exact⟨.emp b0,by simp only[dL,e1,e2],hK _ ⟨zero rfl (.emp _),trivial⟩ (fun x hx=>hx)⟩
 | slc b0 o _ cap cs hb hl =>
   subst hcs
   have hl':=DR hl h1 h2
   have whole:∀ cap',LZ (.slc b0 (o + l * 1) (u - l) cap')→(Bs M (.slc b0 (o + l * 1) (u - l) cap') ((b.drop l).take (u - l))):=fun cap' hcap=>⟨by
    unfold Sl; rw[hlen]; exact .slc _ _ _ _ _ hb hl',hcap⟩
   cases cap with
   | ex c =>
     have hcn:n≤c:=hc
     by_cases e:c=l
     ·subst e
      have hu:u=c:=by omega
      subst hu
      refine⟨.slc b0 o 0 (.ex 0),by simp only[dL,e1,e2]; rw[if_pos ⟨Nat.le_refl _,Nat.le_refl _⟩]; simp,hK _ ⟨zero rfl (.slc _ _ _ _ _ hb ?_),Nat.le_refl _⟩ (fun x hx=>hx)⟩
      have:=DR hl (Nat.le_refl 0) (Nat.zero_le n)
      simpa [BY,Enc.row] using this
     ·exact⟨_,by simp only[dL,e1,e2]; rw[if_pos ⟨h1,by omega⟩,if_neg e],hK _ (whole _ (by show u - l≤c - l; omega)) (fun x hx=>hx)⟩
   | op esz =>
     have he:esz=1:=hc
     subst he
     by_cases e:n≤l
     ·have hu:u=l:=by omega
      exact⟨.emp b0,by simp only[dL,e1,e2]; simp[h1,h2,e],hK _ ⟨zero hu (.emp _),trivial⟩ (fun x hx=>by simp[aW] at hx)⟩
     ·exact⟨_,by simp only[dL,e1,e2]; simp only[and_true]; rw[if_pos ⟨h1,h2⟩,if_neg e],hK _ (whole (.op 1) rfl) (fun x hx=>hx)⟩
theorem gz (d n:Nat) (k:IntKind) : bnd d (some (N k (n:Int)))=some n:=by simp[bnd]
theorem vJ (d:Nat) : bnd d none=some d:=rfl
def pre (p s:Str) : Bool:=decide (p.length≤s.length) && (s.take p.length == p)
def BP (c:ak) : Prop:=∀ {M:RM} {s p:Str} {Q:ai},Q (Bo (pre p s)) M→c [St s,St p] M Q
theorem Gd:BP fun args M Q=>∃ a0 a1,args=[a0,a1]∧Vl.fE a0 a1 M Q:=by
 intro M s p Q hQ
 refine⟨_,_,rfl, ?_⟩
 unfold Go.Ab.Vl.fE
 simp only[bS,dS,bL]
 unfold pre at hQ
 by_cases h:p.length≤s.length
 ·have e:decide ((s.length:Int) ≥ (p.length:Int))=true:=by simp[h]
  rw[e]
  simp only[go_sem,if_true]
  rw[dJ h]
  simpa only[go_sem,h,decide_true,Bool.true_and,if_true] using hQ
 ·have e:decide ((s.length:Int) ≥ (p.length:Int))=false:=by simp; omega
  rw[e]
  simpa [go_sem,h] using hQ
theorem PW {ch:ak} (hh:BP ch) : BP fun args M Q=>∃ a0 a1,args=[a0,a1]∧Vl.oK ch a0 a1 M Q:=by
 intro M s p Q hQ
 exact⟨_,_,rfl,hh hQ⟩
def zA (p s:Str) : AV:=if pre p s then .tup [St (s.drop p.length),Bo true] else .tup [St s,Bo false]
def rG (c:ak) : Prop:=∀ {M:RM} {s p:Str} {Q:ai},Q (zA p s) M→c [St s,St p] M Q
theorem CB {ch:ak} (hh:BP ch) : rG fun args M Q=>∃ a0 a1,args=[a0,a1]∧Vl.fG ch a0 a1 M Q:=by
 intro M s p Q hQ
 refine⟨_,_,rfl, ?_⟩
 unfold Go.Ab.Vl.fG
 refine hh ?_
 unfold zA at hQ
 cases h:pre p s
 ·rw[h] at hQ; simpa [go_sem] using hQ
 ·rw[h] at hQ
  have hl:p.length≤s.length:=by unfold pre at h; simp at h; exact h.1
  simp only[bO,Bool.not_true,aX,dS]
  rw[di hl]
  simpa [go_sem] using hQ
theorem JD {ch:ak} (hh:rG ch) : rG fun args M Q=>∃ a0 a1,args=[a0,a1]∧Vl.kN ch a0 a1 M Q:=by
 intro M s p Q hQ
 refine⟨_,_,rfl, ?_⟩
 unfold Go.Ab.Vl.kN
 refine hh ?_
 unfold zA at hQ ⊢
 cases h:pre p s <;> rw[h] at hQ <;> simpa [go_sem] using hQ
def wC (x:UInt8) (c:ak) : Prop:=∀ {M:RM} {s:List UInt8} {Q:ai},Q (N .i64 (Lib.indexByte s x)) M→c [St s,St [x]] M Q
theorem Bv {x:UInt8} {g:Nat} {ci xx c1 c2:ak} (hi:iF ci) : wC x fun args M Q=>∃ a0 a1,args=[a0,a1]∧dE ci g xx c1 c2 a0 a1 M Q:=by
 intro M s Q hQ
 refine⟨_,_,rfl, ?_⟩
 unfold dE
 rw[dS,bq,show((([x] : List UInt8).length:Int) == 0)=false from rfl]
 simp only[bS]
 by_cases h:[x]=s
 ·subst h
  have:Lib.indexByte [x] x=0:=by simp[Lib.indexByte]
  rw[this] at hQ
  simp only[go_sem,beq_self_eq_true]
  exact hQ
 ·have h' : (([x] : List UInt8) == s)=false:=by simp[h]
  simp only[go_sem,h']
  exact⟨fun _=>⟨by omega,x,rfl,hi hQ⟩,fun h=>absurd h (by decide)⟩
def fM (s:Str) (a b:Int) : Bool:=decide ((s.length:Int) ≥ a) && decide ((s.length:Int)≤b)
def rH (c:ak) : Prop:=∀ {M:RM} {s:Str} {a b:Int} {Q:ai},Q (Bo (fM s a b)) M→c [St s,N .i64 a,N .i64 b] M Q
theorem JH:rH fun args M Q=>∃ a0 a1 a2,args=[a0,a1,a2]∧mh a0 a1 a2 M Q:=by
 intro M s a b Q hQ
 refine⟨_,_,_,rfl, ?_⟩
 unfold mh
 simp only[bS,dS,bL]
 refine gp (fun _ k hk=>?_) hQ
 simpa only[go_sem] using hk
theorem Di {T8:Nat} : uW fun args M Q=>∃ a0,args=[a0]∧mZ T8 a0 M Q:=by
 intro M s Q hl hQ
 refine⟨_,rfl, ?_⟩
 unfold mZ
 simp only[bS,aV,gZ,kw]
 have hk1:af [] M (M.push (.row (BY.row s) true T8 0)):=(af.refl _ _).push _
 have hr1:Rw BY (M.push (.row (BY.row s) true T8 0)) M.next true T8 s:=Rw.new M s
 generalize M.push (.row (BY.row s) true T8 0)=M1 at *
 refine aZ (fun m ys M3=>∃ i:Nat,m=s.length - i∧ys=[N .i64 i]∧i≤s.length∧Rw BY M3 M.next true T8 (upTo bU i s)∧af [] M M3) _
  ⟨0,rfl,rfl,Nat.zero_le _,by rw[FE]; exact hr1,hk1⟩ ?_
 rintro next m ys M3 hnext ⟨i,rfl,rfl,hi,hR,hK⟩
 simp only[go_sem]
 refine⟨fun hlt=>?_,fun hge=>?_⟩
 ·have hlt:i<s.length:=by simpa using hlt
  have hlen:i<(upTo bU i s).length:=by rw[Cr]; exact hlt
  have hg:=Cx bU hlt
  have hc:=hR.ax hlen
  have w1:=tu (show i<9223372036854775807 by omega)
  have hge:(upTo bU i s)[i]=s[i]:=Option.some.inj ((List.getElem?_eq_getElem hlen).symm.trans hg)
  rw[hge] at hc
  refine⟨by omega,_,hc, ?_⟩
  have same:bU s[i]=s[i]→next [N .i64 ((i + 1:Nat) : Int)] M3:=fun h=>by
   refine hnext _ _ _ (by omega) ⟨i + 1,rfl,rfl,by omega, ?_,hK⟩
   rw[Fe bU hlt h]
   exact hR
  have cb:=xQ s[i]
  simp only[w1]
  by_cases h1:65≤s[i].toNat
  ·have e1:((s[i].toNat:Int) ≥ 65):=by omega
   by_cases h2:s[i].toNat≤90
   ·have e2:((s[i].toNat:Int)≤90):=by omega
    have hlow:bU s[i]=s[i] + 32:=by rw[bU,if_pos ⟨h1,h2⟩]
    have hn:(bU s[i]).toNat=s[i].toNat + 32:=by
     rw[hlow,UInt8.toNat_add]
     show(s[i].toNat + 32) % 256=_
     omega
    have wv:N IntKind.u8 (IntKind.u8.wrap (IntKind.u8.wrap ((s[i].toNat:Int) + 97) - 65))=By (bU s[i]):=by
     rw[By,hn]
     congr 1
     rw[show IntKind.u8.wrap ((s[i].toNat:Int) + 97)=(s[i].toNat:Int) + 97 from fq (by omega) (by omega)]
     rw[fq (by omega) (by omega)]; omega
    obtain⟨hs,hR'⟩:=hR.CJ hlen (bU s[i])
    simp only[e1,e2,decide_true,go_sem]
    rw[Cf bU hlt] at hs hR'
    refine⟨by omega,_,(congrArg (fun x=>M3.stores M.next i [x]) wv).trans hs, ?_⟩
    exact hnext _ _ _ (by omega) ⟨i + 1,rfl,rfl,by omega,hR',hK.put _ (.inl (Nat.le_refl _))⟩
   ·have e2:¬ ((s[i].toNat:Int)≤90):=by omega
    simp only[e1,e2,decide_true,decide_false,go_sem]
    exact same (by rw[bU,if_neg (by omega)])
  ·have e1:¬ ((s[i].toNat:Int) ≥ 65):=by omega
   simp only[e1,decide_false,go_sem]
   exact same (by rw[bU,if_neg (by omega)])
 ·have:i=s.length:=by simp at hge; omega
  subst this
  rw[I5] at hR
  have:=hR.sl (cap:=.op 1)
  rw[List.length_map] at this
  rw[Sl.str this]
  exact hQ M3 hK
end Go.Ab.Hw
namespace Go.Ab.Hw
open Go Go.Ab Go.Ab.Sm
open Go.Ab.Vl (brk lY qP iF di ek dJ Cg)
theorem dQ {M:RM} {b n:Nat} {l cs:List AV} {p:Bool} {e:Nat} {K:RM→Prop} (h:M.heap b=some (.row l p e 0)) (hn:cs.length=n) (hl:l.length=n) (h1:cs.all oneCell=true) :
  az M (.ptr b 0) (.agg cs) n K=K (M.put b (.row cs p e 0)):=LU (x:=.agg cs) h hn hl h1
def dG (x:UInt8) : Bool:=decide ((x.toNat:Int) ≥ 48) && decide ((x.toNat:Int)≤57)
def kE (x:UInt8) : Bool:=decide ((x.toNat:Int) ≥ 65) && decide ((x.toNat:Int)≤90)
def qw (x:UInt8) : Bool:=decide ((x.toNat:Int) ≥ 33) && decide ((x.toNat:Int)≤126)
def p32 (x:UInt8) : Bool:=decide ((x.toNat:Int) ≥ 32) && decide ((x.toNat:Int)≤126)
def oZ (x:UInt8) : Bool:=(decide ((x.toNat:Int) ≥ 32) && decide ((x.toNat:Int)≤126)) || ((x.toNat:Int) == 9)
def qG (x:UInt8) : Bool:=(decide ((x.toNat:Int) ≥ 97) && decide ((x.toNat:Int)≤122)) || dG x || ((x.toNat:Int) == 45)
def jI (x:UInt8) : Bool:=dG x || (decide ((x.toNat:Int) ≥ 97) && decide ((x.toNat:Int)≤102))
def mG (p:UInt8→Bool) (c:ak) : Prop:=∀ {M:RM} {x:UInt8} {Q:ai},Q (Bo (p x)) M→c [By x] M Q
theorem Mo:mG dG fun args M Q=>∃ a0,args=[a0]∧mJ a0 M Q:=by
 intro M x Q hQ
 refine⟨_,rfl, ?_⟩
 unfold mJ
 simp only[bS,bL]
 exact gp (fun _ k hk=>by simpa only[go_sem] using hk) hQ
theorem KE:mG kE fun args M Q=>∃ a0,args=[a0]∧mY a0 M Q:=by
 intro M x Q hQ
 refine⟨_,rfl, ?_⟩
 unfold mY
 simp only[bS,bL]
 exact gp (fun _ k hk=>by simpa only[go_sem] using hk) hQ
theorem Ha:mG qw fun args M Q=>∃ a0,args=[a0]∧lM a0 M Q:=by
 intro M x Q hQ
 refine⟨_,rfl, ?_⟩
 unfold lM
 simp only[bS,bL]
 exact gp (fun _ k hk=>by simpa only[go_sem] using hk) hQ
theorem OT:mG p32 fun args M Q=>∃ a0,args=[a0]∧il a0 M Q:=by
 intro M x Q hQ
 refine⟨_,rfl, ?_⟩
 unfold il
 simp only[bS,bL]
 exact gp (fun _ k hk=>by simpa only[go_sem] using hk) hQ
theorem PQ:mG oZ fun args M Q=>∃ a0,args=[a0]∧jH a0 M Q:=by
 intro M x Q hQ
 refine⟨_,rfl, ?_⟩
 unfold jH
 simp only[bS,bL]
 refine gp (fun _ k hk=>by simpa only[go_sem] using hk) ?_
 exact mK (fun _ k hk=>by simpa only[go_sem] using hk) hQ
theorem KS {cd:ak} (hd:mG dG cd) : mG qG fun args M Q=>∃ a0,args=[a0]∧jO cd a0 M Q:=by
 intro M x Q hQ
 refine⟨_,rfl, ?_⟩
 unfold jO
 simp only[bS,bL]
 refine gp (fun _ k hk=>by simpa only[go_sem] using hk) ?_
 refine mK (p:=dG x) (fun _ k hk=>hd hk) ?_
 exact mK (fun _ k hk=>by simpa only[go_sem] using hk) hQ
theorem Ny {cd:ak} (hd:mG dG cd) : mG jI fun args M Q=>∃ a0,args=[a0]∧ma cd a0 M Q:=by
 intro M x Q hQ
 refine⟨_,rfl, ?_⟩
 unfold ma
 refine hd ?_
 unfold jI at hQ
 cases h:dG x <;> rw[h] at hQ
 ·by_cases h1:(x.toNat:Int) ≥ 97
  ·simpa [go_sem,h1] using hQ
  ·simpa [go_sem,h1] using hQ
 ·simpa [go_sem] using hQ
def mf (p:UInt8→Bool) (f:AV) (c:ak) : Prop:=∀ {M:RM} {s:Str} {Q:ai},s.length<4611686018427387904→(∀ M',af [] M M'→Q (Bo (s.all p)) M')→c [St s,f] M Q
theorem ni {T8 g:Nat} {p:UInt8→Bool} {cv:FuncId→ak} (hp:mG p (cv g)) : mf p (.fn (.func g) [] []) fun args M Q=>∃ a0 a1,args=[a0,a1]∧oV T8 cv a0 a1 M Q:=by
 intro M s Q hl hQ
 refine⟨_,_,rfl, ?_⟩
 unfold oV
 simp only[aV,gZ,kw]
 have hk1:af [] M (M.push (.row (BY.row s) true T8 0)):=(af.refl _ _).push _
 have hr1:Rw BY (M.push (.row (BY.row s) true T8 0)) M.next true T8 s:=Rw.new M s
 generalize M.push (.row (BY.row s) true T8 0)=M1 at *
 have e:∀ i,i<s.length→s.all p=((s.take i).all p && s[i]!.toNat.ble 255 && (s.drop i).all p):=fun i hi=>by
  have:s[i]!.toNat.ble 255=true:=by
   have:=xQ s[i]!
   exact Nat.ble_eq_true_of_le (by omega)
  rw[this,Bool.and_true,← List.all_append,List.take_append_drop]
 refine aZ (fun m ys M3=>∃ i:Nat,m=s.length - i∧ys=[N .i64 i]∧i≤s.length∧(s.take i).all p=true∧M3=M1) _ ⟨0,rfl,rfl,Nat.zero_le _,rfl,rfl⟩ ?_
 rintro next m ys M3 hnext ⟨i,rfl,rfl,hi,hA,rfl⟩
 simp only[aN,iO]
 refine aM (fun h=>?_) fun h=>?_
 ·have hlt:i<s.length:=by simpa using h
  have hc:=hr1.ax hlt
  rw[oM]
  refine⟨by omega,by omega, ?_⟩
  rw[dI]
  refine⟨By s[i],by simpa using hc, ?_⟩
  rw[Ci]
  simp only[List.nil_append,List.append_nil]
  refine hp ?_
  simp only[bO]
  have hd:s.drop i=s[i] :: s.drop (i + 1):=List.drop_eq_getElem_cons hlt
  refine aM (fun h=>?_) fun h=>?_
  ·have hf:p s[i]=false:=by simpa using h
   have:s.all p=false:=by
    rw[← List.take_append_drop i s,List.all_append,hd,List.all_cons,hf]; simp
   rw[← this]; exact hQ _ hk1
  ·have ht:p s[i]=true:=by simpa using h
   rw[add1 (by omega)]
   refine hnext _ _ _ (by omega) ⟨i + 1,rfl,rfl,by omega, ?_,rfl⟩
   rw[List.take_succ_eq_append_getElem hlt,List.all_append,hA]; simp[ht]
 ·have:i=s.length:=by simp at h; omega
  subst this
  rw[List.take_length] at hA
  rw[← hA]; exact hQ _ hk1
def fP (p:Str→Bool) (c:ak) : Prop:=∀ {M:RM} {s:Str} {Q:ai},s.length<4611686018427387904→(∀ M',af [] M M'→Q (Bo (p s)) M')→c [St s] M Q
def eY (s:Str) : Bool:=fM s 1 40 && (low s).all qG
theorem yG {g:Nat} {cw cs ca:ak} (hw:rH cw) (hs:uW cs) (ha:mf qG (.fn (.func g) [] []) ca) : fP eY fun args M Q=>∃ a0,args=[a0]∧kJ cw cs ca g a0 M Q:=by
 intro M s Q hl hQ
 refine⟨_,rfl, ?_⟩
 unfold kJ
 refine hw ?_
 simp only[bS]
 refine DF (P:=af [] M) (p:=(low s).all qG) (af.refl _ _) (fun _ k hk=>?_) hQ
 refine hs (by omega) fun M1 k1=>?_
 exact ha (by rw[low,List.length_map]; exact hl) fun M2 k2=>hk M2 (k1.trans k2)
def trimB (s:Str) : Str:=Lib.trimS s [32,9]
def Gq (B:Base) (c:ak) : Prop:=∀ {M:RM} {s:Str} {Q:ai},M.base=B→s.length<4611686018427387904→(∀ M',af [] M M'→Q (St (trimB s)) M')→c [St s,St [32,9]] M Q
def DU (B:Base) (p:Str→Bool) (c:ak) : Prop:=∀ {M:RM} {s:Str} {Q:ai},M.base=B→s.length<4611686018427387904→(∀ M',af [] M M'→Q (Bo (p s)) M')→c [St s] M Q
def dW (s:Str) : Bool:=(s == trimB s) && s.all oZ
theorem vR {B:Base} {g:Nat} {ct ca:ak} (ht:Gq B ct) (ha:mf oZ (.fn (.func g) [] []) ca) : DU B dW fun args M Q=>∃ a0,args=[a0]∧kg ct ca g a0 M Q:=by
 intro M s Q hB hl hQ
 refine⟨_,rfl, ?_⟩
 unfold kg
 refine ht hB hl fun M1 k1=>?_
 simp only[bS,eX]
 refine DF (P:=af [] M) (p:=s.all oZ) k1 (fun _ k hk=>?_) hQ
 exact ha hl fun M2 k2=>hk M2 (k1.trans k2)
def dY (s:Str) : Bool:=fM s 1 8 && s.all kE
theorem CV {g:Nat} {cw ca:ak} (hw:rH cw) (ha:mf kE (.fn (.func g) [] []) ca) : fP dY fun args M Q=>∃ a0,args=[a0]∧jM cw ca g a0 M Q:=by
 intro M s Q hl hQ
 refine⟨_,rfl, ?_⟩
 unfold jM
 refine hw ?_
 simp only[bS]
 exact DF (P:=af [] M) (p:=s.all kE) (af.refl _ _) (fun _ k hk=>ha hl hk) hQ
def fo (s:Str) : Bool:=pre [47] s && decide ((s.length:Int)≤201) && s.all qw
theorem Gg {g:Nat} {cp ca:ak} (hp:BP cp) (ha:mf qw (.fn (.func g) [] []) ca) : fP fo fun args M Q=>∃ a0,args=[a0]∧kI cp ca g a0 M Q:=by
 intro M s Q hl hQ
 refine⟨_,rfl, ?_⟩
 unfold kI
 refine hp ?_
 simp only[bS]
 refine gp (p:=decide ((s.length:Int)≤201)) (fun _ k hk=>by simpa only[go_sem] using hk) ?_
 exact DF (P:=af [] M) (p:=s.all qw) (af.refl _ _) (fun _ k hk=>ha hl hk) hQ
abbrev Hd:=Str × Str
def HD:Enc Hd:=⟨2,fun h=>[St h.1,St h.2],fun _=>rfl,fun _=>rfl⟩
def dZ (s:Str) : Option Hd:=match brk 58 s with
 | none=>none
 | some (a,b)=>match eY a && dW (trimB b) with
   | true=>some (a,trimB b)
   | false=>none
def Eg (B:Base) (c:ak) : Prop:=∀ {M:RM} {s:Str} {Q:ai},M.base=B→s.length≤1000000 →
 (∀ h M',dZ s=some h→af [] M M'→Q (.tup [.agg [St h.1,St h.2],Bo true]) M')→(∀ a b M',dZ s=none→af [] M M'→Q (.tup [.agg [St a,St b],Bo false]) M')→c [St s] M Q
theorem uj (s:Str) : (trimB s).length≤s.length:=by
 have h1:∀ (p:UInt8→Bool) (l:Str),(l.dropWhile p).length≤l.length:=fun p l=>List.IsSuffix.length_le (List.dropWhile_suffix p)
 unfold trimB Lib.trimS Lib.trimLeftS Lib.trimRightS
 refine Nat.le_trans (h1 _ _) ?_
 rw[List.length_reverse]
 refine Nat.le_trans (h1 _ _) ?_
 rw[List.length_reverse]
 exact Nat.le_refl _
theorem EN {x:UInt8} {s a b:Str} (h:brk x s=some (a,b)) : a.length + 1 + b.length=s.length:=by
 rcases Vl.wH x s with⟨h1,_⟩ | ⟨a',b',h1,_,h3,_⟩
 ·rw[h] at h1; cases h1
 ·rw[h] at h1; cases h1
  rw[h3]; simp; omega
theorem JU {B:Base} {T:Nat} {cc ct cn cg:ak} (hc:lY 58 cc) (ht:Gq B ct) (hn:fP eY cn) (hg:DU B dW cg) : Eg B fun args M Q=>∃ a0,args=[a0]∧l9 T cc ct cn cg a0 M Q:=by
 intro M s Q hB hl hQ hQ2
 refine⟨_,rfl, ?_⟩
 unfold l9
 simp only[aV]
 have k0:af [] M (M.push (.row [St [],St []] false T 0)):=(af.refl _ _).push _
 have n0:(M.push (.row [St [],St []] false T 0)).heap M.next=some (.row [St [],St []] false T 0):=by simp[RM.push]
 have l0:M.next<(M.push (.row [St [],St []] false T 0)).next:=by simp[RM.push]
 generalize M.push (.row [St [],St []] false T 0)=M0 at *
 refine hc (by omega) ?_
 have main:∀ (a b:Str) (ok:Bool),a.length≤s.length→b.length≤s.length →
   (ok=true→brk 58 s=some (a,b))→(ok=false→brk 58 s=none) →
   ct [St b,St [32,9]] M0 (fun t16 M_1=>dC [(St []),(St [])] [(0,1,St a),(1,1,t16)] fun t17=>bf (.row [(St []),(St [])] false T 0) (fun b=>.ptr b 0) M_1 fun t7 M_2=>az M_2 t7 t17 2 fun M_3=>aL M_3 t7 2 fun t18=>dP (Bo ok) true (fun k=>aP t7 0 fun t21=>k t21 M_3 none) (fun k=>k .undef M_3 none) fun Uu M_5 b=>dP (Bo ok) true (fun k_6=>ax M_5 Uu fun t22=>k_6 t22 M_5 none) (fun k=>k .undef M_5 none) fun Uc M_8 b_9=>aa (Bo ok) true (fun VD=>cn [Uc] M_8 fun t23 OQ=>VD t23 OQ) (fun k=>k .undef M_8) fun Su Li=>aL Li t7 2 fun SH=>(SH=t18∧ay (Bo ok) Su (Bo false) fun t24=>dP t24 true (fun VS=>aP t7 1 fun t26=>VS t26 Li none) (fun k=>k .undef Li none) fun SQ PU b_17=>dP t24 true (fun OM=>ax PU SQ fun t27=>OM t27 PU none) (fun k=>k .undef PU none) fun SY Cs b_21=>aa t24 true (fun WI=>cg [SY] Cs fun t28 Fb=>WI t28 Fb) (fun k=>k .undef Cs) fun RJ Ec=>aL Ec t7 2 fun Sc=>(Sc=t18∧ay t24 RJ (Bo false) fun t29=>az Ec (.ptr M.next 0) t18 2 fun Co=>aL Co (.ptr M.next 0) 2 fun res=>Q (.tup [res,t29]) Co))):=by
  intro a b ok ha hb e1 e2
  have htb:=uj b
  refine ht (k0.base.trans hB) (by omega) fun M1 k1=>?_
  have n1:=k1.aC n0 l0 (by simp)
  have l1:M.next<M1.next:=Nat.lt_of_lt_of_le l0 k1.next
  rw[eu]
  refine⟨[St a,St (trimB b)],vM rfl rfl rfl rfl, ?_⟩
  simp only[aV]
  have n2:(M1.push (.row [St [],St []] false T 0)).heap M1.next=some (.row [St [],St []] false T 0):=by simp[RM.push]
  rw[dQ n2 (by rfl) (by rfl) (by rfl)]
  have k3:af [] M1 ((M1.push (.row [St [],St []] false T 0)).put M1.next (.row [St a,St (trimB b)] false T 0)):=((af.refl _ _).push _).new _ (Nat.le_refl _)
  have n3:((M1.push (.row [St [],St []] false T 0)).put M1.next (.row [St a,St (trimB b)] false T 0)).heap M1.next=some (.row [St a,St (trimB b)] false T 0):=aB _
  have l3:M1.next<((M1.push (.row [St [],St []] false T 0)).put M1.next (.row [St a,St (trimB b)] false T 0)).next:=by simp[RM.push,RM.put]
  generalize (M1.push (.row [St [],St []] false T 0)).put M1.next (.row [St a,St (trimB b)] false T 0)=M3 at *
  rw[aQ n3 (by rfl)]
  have kM:af [] M M3:=k0.trans (k1.trans k3)
  have fin:∀ (M5:RM) (r:Bool),af [] M3 M5→((dZ s=some (a,trimB b)∧r=true)∨(dZ s=none∧r=false)) →
    az M5 (.ptr M.next 0) (.agg [St a,St (trimB b)]) 2 fun Co=>aL Co (.ptr M.next 0) 2 fun res=>Q (.tup [res,Bo r]) Co:=by
   intro M5 r k5 hr
   have n5:=k5.aC (k3.aC n1 l1 (by simp)) (Nat.lt_of_lt_of_le l1 k3.next) (by simp)
   rw[dQ n5 (by rfl) (by rfl) (by rfl)]
   rw[aQ (aB _) (by rfl)]
   have kk:af [] M (M5.put M.next (.row [St a,St (trimB b)] false T 0)):=(kM.trans k5).new _ (Nat.le_refl _)
   rcases hr with⟨h1,rfl⟩ | ⟨h1,rfl⟩
   ·exact hQ _ _ h1 kk
   ·exact hQ2 _ _ _ h1 kk
  cases ok with
  | false =>
    have e:dZ s=none:=by unfold dZ; rw[e2 rfl]
    have hf:=fin M3 false (af.refl _ _) (.inr ⟨e,rfl⟩)
    simp only[qc,eU]
    rw[aQ n3 (by rfl)]
    refine⟨rfl, ?_⟩
    simp only[cO,qc,eU]
    rw[aQ n3 (by rfl)]
    refine⟨rfl, ?_⟩
    try simp only[cO]
    exact hf
  | true =>
    simp only[jW,iE]
    rw[aK n3 (by rfl:([St a,St (trimB b)] : List AV)[0]?=some (St a))]
    simp only[bI]
    refine hn (by omega) fun M4 k4=>?_
    try dsimp only
    have n4:=k4.aC n3 l3 (by simp)
    have l4:M1.next<M4.next:=Nat.lt_of_lt_of_le l3 k4.next
    rw[aQ n4 (by rfl)]
    refine⟨rfl, ?_⟩
    simp only[bT]
    cases hgn:eY a with
    | false =>
      have e:dZ s=none:=by unfold dZ; rw[e1 rfl]; simp[hgn]
      simp only[qc,eU]
      rw[aQ n4 (by rfl)]
      refine⟨rfl, ?_⟩
      simp only[cO]
      exact fin M4 false k4 (.inr ⟨e,rfl⟩)
    | true =>
      simp only[jW]
      rw[aK n4 (by rfl:([St a,St (trimB b)] : List AV)[1]?=some (St (trimB b)))]
      simp only[bI]
      refine hg ((k0.trans (k1.trans (k3.trans k4))).base.trans hB) (by omega) fun M5 k5=>?_
      try dsimp only
      have n5:=k5.aC n4 l4 (by simp)
      rw[aQ n5 (by rfl)]
      refine⟨rfl, ?_⟩
      simp only[bT]
      refine fin M5 _ (k4.trans k5) ?_
      unfold dZ
      rw[e1 rfl]
      simp only[hgn,Bool.true_and]
      cases dW (trimB b) <;> simp
 unfold qP
 cases hb:brk 58 s with
 | none =>
   simp only[bz,bu,eH]
   exact main s [] false (Nat.le_refl _) (by simp) (fun h=>by cases h) (fun _=>hb)
 | some p =>
   obtain⟨a,b⟩:=p
   have:=EN hb
   simp only[bz,bu,eH]
   exact main a b true (by omega) (by omega) (fun _=>hb) (fun h=>by cases h)
def crlf:Str→Option (Str × Str)
 | []=>none
 | [_]=>none
 | x :: y :: t=>match x == 13 && y == 10 with
   | true=>some ([],t)
   | false=>match crlf (y :: t) with
     | none=>none
     | some p=>some (x :: p.1,p.2)
theorem xX:∀ s:Str,(crlf s=none∧Lib.index s [13,10]=-1)∨∃ a b,crlf s=some (a,b)∧Lib.index s [13,10]=(a.length:Int)∧s=a++13 :: 10 :: b
 | []=>.inl ⟨rfl,by decide⟩
 | [x]=>.inl ⟨rfl,by
   have h:([13,10] : Str).isPrefixOf [x]=false:=by simp[List.isPrefixOf]
   simp[Lib.index,h]⟩
 | x :: y :: t=>by
   unfold crlf
   cases h:x == 13 && y == 10
   ·have hp:([13,10] : Str).isPrefixOf (x :: y :: t)=false:=by
     simp only[List.isPrefixOf,Bool.and_true]
     rw[show((13:UInt8) == x)=(x == 13) from Bool.beq_comm ..,show((10:UInt8) == y)=(y == 10) from Bool.beq_comm ..]
     exact h
    rcases xX (y :: t) with⟨h1,h2⟩ | ⟨a,b,h1,h2,h3⟩
    ·refine .inl ⟨by simp only[h1], ?_⟩
     rw[Lib.index,hp]
     simp[h2]
    ·refine .inr ⟨x :: a,b,by simp only[h1], ?_,by rw[h3]; rfl⟩
     rw[Lib.index,hp]
     simp only[h2]
     have:((a.length:Int) == -1)=false:=by simp
     simp[this]
   ·simp only[Bool.and_eq_true,beq_iff_eq] at h
    obtain⟨rfl,rfl⟩:=h
    exact .inr ⟨[],t,rfl,by simp[Lib.index,List.isPrefixOf],rfl⟩
def Dy (B:Base) (c:ak) : Prop:=∀ {M:RM} {v w:AV} {s:Str} {Q:ai},M.base=B→Bs M v s→Bs M w [13,10]→s.length≤1000000000→Q (N .i64 (Lib.index s [13,10])) M→c [v,w] M Q
theorem IK {T:Nat} {M:RM} {K:ai} (hK:∀ v M',Bs M' v [13,10]→af [] M M'→K v M') :
  dX T 2 [(N .u8 0)] [(0,1,(N .u8 13)),(1,1,(N .u8 10))] fun r f=>bf r f M fun t14 M=>qH t14 M fun t15 M_0=>K t15 M_0:=by
 refine⟨[N .u8 13,N .u8 10],rfl, ?_⟩
 simp only[aV]
 refine⟨M.next,0,2,2,[N .u8 13,N .u8 10],T,rfl,by simp[RM.push], ?_⟩
 refine hK _ _ ⟨?_,Nat.le_refl _⟩ (((af.refl _ _).push _).new _ (Nat.le_refl _))
 refine aJ.slc _ _ _ _ _ (by simp[RM.push,RM.put]) ?_
 rw[RM.iP (aB _) (by decide)]
 rfl
def jZ (b:Str) (at' : Nat) : Except Nat (Str × Nat):=match crlf ((b.take 2048).drop at') with
 | some p=>.ok (p.1,at' + p.1.length + 2)
 | none=>match Nat.blt b.length 2048 with
   | true=>.error 15
   | false=>.error 2
def L8 (B:Base) (c:ak) : Prop:=∀ {M:RM} {v:AV} {b:Str} {at' : Nat} {Q:ai},M.base=B→Bs M v b→at'≤b.length→at'≤2048→b.length≤1000000000 →
 (∀ s n M',jZ b at'=.ok (s,n)→n≤b.length→n≤2048→s.length≤2048→af [] M M'→Q (.tup [St s,N .i64 (n:Int),N .i64 0]) M')→(∀ (e:Nat) M',jZ b at'=.error e→(e=15∨e=2)→af [] M M'→Q (.tup [St [],N .i64 0,N .i64 (e:Int)]) M')→c [v,N .i64 (at' : Int)] M Q
theorem NV {B:Base} {T:Nat} {ci:ak} (hi:Dy B ci) : L8 B fun args M Q=>∃ a0 a1,args=[a0,a1]∧nV T ci a0 a1 M Q:=by
 intro M v b at' Q hB hv h1 h2 hl hQ hE
 refine⟨_,_,rfl, ?_⟩
 unfold nV
 rw[hv.len,MO]
 have hm:(if false=true then(if (2048:Int) > (b.length:Int) then(2048:Int) else(b.length:Int)) else if (2048:Int)<(b.length:Int) then 2048 else(b.length:Int))=((min b.length 2048:Nat) : Int):=by
  simp only[Bool.false_eq_true,if_false]
  split <;> omega
 rw[hm]
 refine hv.sub (gz _ _ _) (gz _ _ _) (by omega) (by omega) fun v' hv' hsub=>?_
 have hw:(b.drop at').take (min b.length 2048 - at')=(b.take 2048).drop at':=by
  rw[List.drop_take]
  apply List.take_eq_take_iff.2
  rw[List.length_drop]; omega
 rw[hw] at hv'
 refine IK fun w M1 hw1 k1=>?_
 have hwl:((b.take 2048).drop at').length=min 2048 b.length - at':=by simp
 refine hi (k1.base.trans hB) (hv'.keep k1 (by simp)) hw1 (by rw[hwl]; omega) ?_
 have hv1:=hv.keep k1 (by simp)
 rcases xX ((b.take 2048).drop at') with⟨e1,e2⟩ | ⟨a,r,e1,e2,e3⟩
 ·rw[e2,bL,show decide ((-1:Int) ≥ 0)=false from rfl,aX,hv1.len,dF]
  by_cases hs:b.length<2048
  ·rw[show decide ((b.length:Int)<2048)=true by simp; omega,bN]
   exact hE 15 _ (by unfold jZ; rw[e1]; rw[show Nat.blt b.length 2048=true by rw[Nat.blt_eq]; exact hs]) (.inl rfl) k1
  ·rw[show decide ((b.length:Int)<2048)=false by simp; omega,aX]
   have:Nat.blt b.length 2048=false:=by
    cases h:Nat.blt b.length 2048
    ·rfl
    ·rw[Nat.blt_eq] at h; exact absurd h hs
   exact hE 2 _ (by unfold jZ; rw[e1]; simp only[this]) (.inr rfl) k1
 ·have hal:a.length + 2 + r.length=min 2048 b.length - at':=by
   rw[← hwl,e3]; simp; omega
  rw[e2,bL,show decide ((a.length:Int) ≥ 0)=true by simp,bN,addN (by omega)]
  refine hv1.sub (gz _ _ _) (gz _ _ _) (by omega) (by omega) fun v2 hv2 _=>?_
  have htk:(b.drop at').take (at' + a.length - at')=a:=by
   have:(b.drop at').take a.length=((b.take 2048).drop at').take a.length:=by
    rw[List.drop_take,List.take_take]; congr 1; omega
   rw[Nat.add_sub_cancel_left,this,e3]; simp
  rw[htk] at hv2
  rw[hv2.str,addN (by omega),show(N .i64 2)=(N .i64 ((2:Nat) : Int)) from rfl,addN (by omega)]
  exact hQ _ _ _ (by unfold jZ; rw[e1]) (by omega) (by omega) (by omega) k1
def hloop (b:Str) : Nat→Nat→List Hd→Except Nat (List Hd × Nat)
 | f,at',l=>match jZ b at' with
   | .error e=>.error e
   | .ok (s,n)=>match s with
     | []=>.ok (l,n)
     | _ :: _=>match f with
       | 0=>.error 2
       | f + 1=>match dZ s with
         | none=>.error 14
         | some h=>hloop b f n (l++[h])
theorem j3 (b:Str) (f at' : Nat) (l:List Hd) : hloop b f at' l=(match jZ b at' with
  | .error e=>.error e
  | .ok (s,n)=>match s with
    | []=>.ok (l,n)
    | _ :: _=>match f with
      | 0=>.error 2
      | f + 1=>match dZ s with
        | none=>.error 14
        | some h=>hloop b f n (l++[h])):=by rw[hloop.eq_def]
def headD (p:Str→Bool) (b:Str) : Except Nat (Str × List Hd × Nat):=match jZ b 0 with
 | .error e=>.error e
 | .ok (s,n)=>match p s with
   | false=>.error 14
   | true=>match hloop b 32 n [] with
     | .error e=>.error e
     | .ok (l,at')=>.ok (s,l,at')
def Dc (B:Base) (cv:FuncId→ak) (a1:AV) (p:Str→Bool) (br:Nat) (X0:RB) (X:Str→RB) : Prop:=∀ {M:RM} {s:Str} {K:ai},M.base=B→br<M.next→M.heap br=some X0→s.length≤2048 →
 (p s=false→∀ M',af [br] M M'→K (Bo false) M')→(p s=true→∀ M',af [br] M M'→M'.heap br=some (X s)→K (Bo true) M')→Ba cv a1 [St s] M K
def GI (B:Base) (a1:AV) (p:Str→Bool) (br:Nat) (X0:RB) (X:Str→RB) (T:Nat) (c:ak) : Prop:=∀ {M:RM} {v:AV} {b:Str} {Q:ai},M.base=B→Bs M v b→b.length≤1000000000→br<M.next→br ∉ aW v→M.heap br=some X0 →
 (∀ (e:Nat) M',headD p b=.error e→(e=15∨e=2∨e=14)→af [br] M M'→Q (.tup [aA,N .i64 0,N .i64 (e:Int)]) M') →
 (∀ s l at' hv M',headD p b=.ok (s,l,at')→at'≤b.length→s.length≤2048→l.length≤32→af [br] M M'→M'.heap br=some (X s)→Ow HD M' M.next T hv l→Q (.tup [hv,N .i64 (at' : Int),N .i64 0]) M')→c [v,a1] M Q
theorem NT {B:Base} {a1:AV} {p:Str→Bool} {br:Nat} {X0:RB} {X:Str→RB} {T:Nat} {cl ch:ak} {cv:FuncId→ak} (hL:L8 B cl) (hH:Eg B ch) (hF:Dc B cv a1 p br X0 X) :
  GI B a1 p br X0 X T fun args M Q=>∃ a0 a1,args=[a0,a1]∧oz cl cv ch T a0 a1 M Q:=by
 intro M v b Q hB hv hl hbr hbv hX0 hE hQ
 refine⟨_,_,rfl, ?_⟩
 unfold oz
 refine hL (at':=0) hB hv (Nat.zero_le _) (Nat.zero_le _) hl (fun s n M1 e1 n1 n2 hs k1=>?_) (fun e M1 e1 he k1=>?_)
 rotate_left
 ·simp only[bz,bu,eH,dV]
  rw[show(((e:Nat) : Int) != 0)=true by rcases he with rfl | rfl <;> rfl,bN]
  exact hE e M1 (by unfold headD; rw[e1]) (by omega) (k1.mono (by simp))
 simp only[bz,bu,eH,BS,aX]
 have hX1:=k1.aC hX0 hbr (by simp)
 refine hF (k1.base.trans hB) (Nat.lt_of_lt_of_le hbr k1.next) hX1 hs (fun hp M2 k2=>?_) (fun hp M2 k2 hX2=>?_)
 ·simp only[bO,Bool.not_false,bN]
  exact hE 14 M2 (by unfold headD; rw[e1]; simp only[hp]) (by omega) ((k1.mono (by simp)).trans k2)
 simp only[bO,Bool.not_true,aX]
 have k12:af [br] M M2:=(k1.mono (by simp)).trans k2
 have target:∀ r,hloop b 32 n []=r→headD p b=(match r with | .error e=>.error e | .ok (l,at')=>.ok (s,l,at')):=by
  rintro r rfl
  unfold headD; rw[e1]; simp only[hp]
 have hbM:∀ x,M.next≤x→x≠br:=fun x hx e=>by omega
 refine aZ (fun m ys M3=>∃ (at' : Nat) (hv:AV) (l:List Hd),ys=[hv,N .i64 (at' : Int)]∧l.length + m=32∧at'≤b.length∧at'≤2048∧Ow HD M3 M.next T hv l∧af [br] M M3∧M3.heap br=some (X s)∧hloop b m at' l=hloop b 32 n []) _
  ⟨n,aA,[],rfl,rfl,n1,n2,.nil,k12,hX2,rfl⟩ ?_
 rintro next m ys M3 hnext ⟨at',hv',l,rfl,hlen,ha1,ha2,hO,k3,hX3,heq⟩
 simp only[aN,cK]
 have hv3:=hv.keep k3 (fun x hx hb=>by simp at hb; subst hb; exact hbv hx)
 refine hL (k3.base.trans hB) hv3 ha1 ha2 hl (fun t n' M4 e4 n41 n42 ht k4=>?_) (fun e M4 e4 he k4=>?_)
 rotate_left
 ·simp only[bz,bu,eH,dV]
  rw[show(((e:Nat) : Int) != 0)=true by rcases he with rfl | rfl <;> rfl,bN]
  refine hE e M4 (target (.error e) ?_) (by omega) (k3.trans (k4.mono (by simp)))
  rw[← heq,j3,e4]
 simp only[bz,bu,eH,BS,aX,eX]
 have hO4:Ow HD M4 M.next T hv' l:=hO.keep k4 (by simp)
 have k34:af [br] M M4:=k3.trans (k4.mono (by simp))
 have hX4:=k4.aC hX3 (Nat.lt_of_lt_of_le hbr k3.next) (by simp)
 cases t with
 | nil =>
   rw[show(([] : List UInt8) == [])=true from rfl,bN]
   refine hQ s l n' hv' M4 (target (.ok (l,n')) ?_) n41 hs (by omega) k34 hX4 hO4
   rw[← heq,j3,e4]
 | cons t0 ts =>
   rw[show((t0 :: ts:List UInt8) == [])=false from rfl,aX,hO4.jc.len,bq]
   cases m with
   | zero =>
     rw[show((l.length:Int) == 32)=true by simp; omega,bN]
     refine hE 2 M4 (target (.error 2) ?_) (by omega) k34
     rw[← heq,j3,e4]
   | succ m =>
     rw[show((l.length:Int) == 32)=false by simp; omega,aX]
     have tail:∀ (a c:Str) (ok:Bool) (M5:RM),af [] M4 M5→((ok=true∧dZ (t0 :: ts)=some (a,c))∨(ok=false∧dZ (t0 :: ts)=none)) →
       (aG (.tup [.agg [St a,St c],Bo ok]) 0 fun t46=>aG (.tup [.agg [St a,St c],Bo ok]) 1 fun t47 =>
        bf (.row [(St []),(St [])] false T 0) (fun b=>.ptr b 0) M5 fun t8 M_4=>az M_4 t8 t46 2 fun M_5=>fw t47 fun t49=>aj t49 ( Q (.tup [(.sc (.slice none 0 0)),(N .i64 0),(N .i64 14)]) M_5) ( aL M_5 t8 2 fun t51=>dX T 1 [(St []),(St [])] [(0,2,t51)] fun r f=>bf r f M_5 fun t52 M_6=>appW T 2 32 [(St []),(St [])] false hv' t52 M_6 fun t53 M_7=>next [t53,N .i64 (n' : Int)] M_7)):=by
      intro a c ok M5 k5 hr
      simp only[bz,bu,aV]
      have n5:(M5.push (.row [St [],St []] false T 0)).heap M5.next=some (.row [St [],St []] false T 0):=by simp[RM.push]
      rw[dQ n5 (by rfl) (by rfl) (by rfl)]
      have k6:af [] M5 ((M5.push (.row [St [],St []] false T 0)).put M5.next (.row [St a,St c] false T 0)):=((af.refl _ _).push _).new _ (Nat.le_refl _)
      have n6:((M5.push (.row [St [],St []] false T 0)).put M5.next (.row [St a,St c] false T 0)).heap M5.next=some (.row [St a,St c] false T 0):=aB _
      generalize (M5.push (.row [St [],St []] false T 0)).put M5.next (.row [St a,St c] false T 0)=M6 at *
      have k46:af [] M4 M6:=k5.trans k6
      rcases hr with⟨rfl,hh⟩ | ⟨rfl,hh⟩
      ·simp only[bO,Bool.not_true,aX]
       rw[aQ n6 (by rfl),qM (by rfl) (by rfl) (by rfl)]
       simp only[aV]
       refine o8 (E:=HD) (a:=(a,c)) (hO4.keep k46 (by simp)) (Nat.le_trans (Nat.le_trans k34.next k46.next) (Nat.le_refl _)) (by decide) (by omega) (by omega) fun v7 M7 o7 k7 _ _=>?_
       have hb7:∀ x∈aW hv',x≠br:=fun x hx=>hbM x (hO4.blk x hx).1
       refine hnext m _ _ (by omega) ⟨n',v7,l++[(a,c)],rfl,by simp; omega,n41,n42,o7, ?_, ?_, ?_⟩
       ·have:=(k34.trans (k46.mono (by simp)))
        refine⟨k7.base.trans this.base,Nat.le_trans this.next k7.next,fun x hx hb=>?_⟩
        have hlt:=Nat.lt_of_lt_of_le hx this.next
        rw[k7.heap x hlt (fun h=>by have:=(hO4.blk x h).1; omega),this.heap x hx hb]
       ·have h6:=k46.aC hX4 (Nat.lt_of_lt_of_le hbr k34.next) (by simp)
        exact k7.aC h6 (Nat.lt_of_lt_of_le hbr (Nat.le_trans k34.next k46.next)) (fun h=>hb7 _ h rfl)
       ·rw[← heq,j3 b (m + 1),e4]
        simp only[hh]
      ·simp only[bO,Bool.not_false,bN]
       refine hE 14 M6 (target (.error 14) ?_) (by omega) (k34.trans (k46.mono (by simp)))
       rw[← heq,j3,e4]
       simp only[hh]
     refine hH (k34.base.trans hB) (by omega) (fun h M5 hh k5=>?_) (fun a c M5 hh k5=>?_)
     ·exact tail h.1 h.2 true M5 k5 (.inl ⟨rfl,hh⟩)
     ·exact tail a c false M5 k5 (.inr ⟨rfl,hh⟩)
def isNamed (n:Str) (h:Hd) : Bool:=low h.1 == low n
def aH (l:List Hd) (n:Str) : List Str:=(l.filter (isNamed n)).map (·.2)
theorem wK {l:List Hd} {n:Str} {i:Nat} (hi:i<l.length) : aH (l.take (i + 1)) n=aH (l.take i) n++(if isNamed n l[i] then[l[i].2] else[]):=by
 unfold aH
 rw[List.take_succ_eq_append_getElem hi,List.filter_append,List.map_append]
 congr 1
 cases h:isNamed n l[i] <;> simp[h]
def DN (T:Nat) (c:ak) : Prop:=∀ {M:RM} {v:AV} {l:List Hd} {n:Str} {Q:ai},Sl HD M v l→l.length≤1000000→(∀ h∈l,h.1.length<4611686018427387904)→n.length<4611686018427387904 →
 (∀ v' M',Ow om M' M.next T v' (aH l n)→af [] M M'→Q v' M')→c [v,St n] M Q
theorem KD {TH T:Nat} {cs:ak} (hs:uW cs) : DN T fun args M Q=>∃ a0 a1,args=[a0,a1]∧mP TH cs T a0 a1 M Q:=by
 intro M v l n Q hv hl hnl hn hQ
 refine⟨_,_,rfl, ?_⟩
 unfold mP
 rw[aJ.len hv]
 refine aZ (fun m ys M3=>∃ (i:Nat) (o:AV),m=l.length - i∧ys=[o,N .i64 (i:Int)]∧i≤l.length∧Ow om M3 M.next T o (aH (l.take i) n)∧af [] M M3) _ ⟨0,aA,rfl,rfl,Nat.zero_le _,.nil,af.refl _ _⟩ ?_
 rintro next m ys M3 hnext ⟨i,o,rfl,rfl,hi,hO,k3⟩
 simp only[aN,cK,iO]
 refine aM (fun h=>?_) fun h=>?_
 ·have hlt:i<l.length:=by simpa using h
  have hv3:Sl HD M3 v l:=aJ.keep hv k3 (by simp)
  obtain⟨b,off,hb,_,hix,hld⟩:=hv3.at 2 (i:Int) hlt
  rw[pM,hix,qm]
  refine⟨_,hld, ?_⟩
  simp only[aV]
  have n4:(M3.push (.row [St [],St []] false TH 0)).heap M3.next=some (.row [St [],St []] false TH 0):=by simp[RM.push]
  rw[dQ n4 (by rfl) (by rfl) (by rfl)]
  have k4:af [] M3 ((M3.push (.row [St [],St []] false TH 0)).put M3.next (.row (HD.cells l[i]) false TH 0)):=((af.refl _ _).push _).new _ (Nat.le_refl _)
  have n5:((M3.push (.row [St [],St []] false TH 0)).put M3.next (.row (HD.cells l[i]) false TH 0)).heap M3.next=some (.row (HD.cells l[i]) false TH 0):=aB _
  have l5:M3.next<((M3.push (.row [St [],St []] false TH 0)).put M3.next (.row (HD.cells l[i]) false TH 0)).next:=by simp[RM.push,RM.put]
  generalize (M3.push (.row [St [],St []] false TH 0)).put M3.next (.row (HD.cells l[i]) false TH 0)=M4 at *
  rw[iE,aK n5 (by rfl:(HD.cells l[i])[0]?=some (St l[i].1))]
  refine hs (by have:=hnl l[i] (List.getElem_mem hlt); omega) fun M5 k5=>?_
  refine hs (by omega) fun M6 k6=>?_
  have k46:=k4.trans (k5.trans k6)
  have n6:=(k5.trans k6).aC n5 l5 (by simp)
  simp only[eX,add1 (show i<4611686018427387904 by omega)]
  have nt:=wK (n:=n) hlt
  refine aM (fun h=>?_) fun h=>?_
  ·have hin:isNamed n l[i]=true:=h
   rw[hin,if_pos rfl] at nt
   rw[iE,aK n6 (by rfl:(HD.cells l[i])[1]?=some (St l[i].2)),qM (by rfl) (by rfl) (by rfl)]
   simp only[aV]
   have hO6:Ow om M6 M.next T o (aH (l.take i) n):=hO.keep k46 (by simp)
   have hlen:(aH (l.take i) n).length≤1000000:=by
    unfold aH
    rw[List.length_map]
    refine Nat.le_trans (List.length_filter_le _ _) ?_
    simp; omega
   refine o8 (E:=om) (a:=l[i].2) hO6 (Nat.le_trans k3.next k46.next) (by decide) (by omega) (by omega) fun v7 M7 o7 k7 _ _=>?_
   refine hnext _ _ _ (by omega) ⟨i + 1,v7,rfl,rfl,by omega,by rw[nt]; exact o7, ?_⟩
   have kk:=k3.trans k46
   refine⟨k7.base.trans kk.base,Nat.le_trans kk.next k7.next,fun x hx hb=>?_⟩
   rw[k7.heap x (Nat.lt_of_lt_of_le hx kk.next) (fun h=>by have:=(hO6.blk x h).1; omega),kk.heap x hx hb]
  ·have hin:isNamed n l[i]=false:=h
   rw[hin,if_neg (by decide),List.append_nil] at nt
   exact hnext _ _ _ (by omega) ⟨i + 1,o,rfl,rfl,by omega,by rw[nt]; exact hO.keep k46 (by simp),k3.trans k46⟩
 ·have:i=l.length:=by simp at h; omega
  subst this
  rw[List.take_length] at hO
  exact hQ o M3 hO k3
def lF:List Str→AV
 | []=>.tup [St [],Bo false]
 | s :: _=>.tup [St s,Bo true]
def MF (c:ak) : Prop:=∀ {M:RM} {v:AV} {l:List Hd} {n:Str} {Q:ai},Sl HD M v l→l.length≤1000000→(∀ h∈l,h.1.length<4611686018427387904)→n.length<4611686018427387904 →
 (∀ M',af [] M M'→Q (lF (aH l n)) M')→c [v,St n] M Q
theorem K6 {T:Nat} {cn:ak} (hn:DN T cn) : MF fun args M Q=>∃ a0 a1,args=[a0,a1]∧mO cn a0 a1 M Q:=by
 intro M v l n Q hv hl h1 h2 hQ
 refine⟨_,_,rfl, ?_⟩
 unfold mO
 refine hn hv hl h1 h2 fun v' M1 o k1=>?_
 have hs:Sl om M1 v' (aH l n):=Own.jc o
 rw[hs.len,bG]
 have hQ:=hQ M1 k1
 generalize aH l n=xs at *
 cases xs with
 | nil =>
   rw[show decide ((([] : List Str).length:Int) > 0)=false from rfl,aX]
   exact hQ
 | cons x xs =>
   rw[show decide (((x :: xs).length:Int) > 0)=true by simp,bN]
   obtain⟨b,o',_,_,hix,hld⟩:=hs.at 1 0 (i:=0) (by simp)
   rw[hix,dI]
   exact⟨_,fB.1 hld,hQ⟩
theorem O9 {T:Nat} {cf:ak} (hf:MF cf) {M:RM} {x y v:AV} {tl:List AV} {l:List Hd} {n:Str} {Q:ai} (hv:Sl HD M v l) (hl:l.length≤1000000) (h1:∀ h∈l,h.1.length<4611686018427387904) (h2:n.length<4611686018427387904)
  (hc:(x :: y :: v :: tl).all oneCell=true) (hQ:∀ M',af [] M M'→Q (lF (aH l n)) M') : jA T cf (.agg (x :: y :: v :: tl)) (St n) M Q:=by
 unfold jA
 rw[iV hc (by simp)]
 simp only[aV]
 have k1:af [] M (M.push (.row (x :: y :: v :: tl) false T 0)):=(af.refl _ _).push _
 have n1:(M.push (.row (x :: y :: v :: tl) false T 0)).heap M.next=some (.row (x :: y :: v :: tl) false T 0):=by simp[RM.push]
 rw[iE,aK n1 (by rfl:(x :: y :: v :: tl)[2]?=some v)]
 refine hf (aJ.keep hv k1 (by simp)) hl h1 h2 fun M2 k2=>?_
 have:=hQ M2 (k1.trans k2)
 generalize aH l n=xs at *
 cases xs <;> simpa only[lF,bz,bu] using this
theorem MZ {T:Nat} {cf:ak} (hf:MF cf) {M:RM} {x v:AV} {tl:List AV} {l:List Hd} {n:Str} {Q:ai} (hv:Sl HD M v l) (hl:l.length≤1000000) (h1:∀ h∈l,h.1.length<4611686018427387904) (h2:n.length<4611686018427387904)
  (hc:(x :: v :: tl).all oneCell=true) (hQ:∀ M',af [] M M'→Q (lF (aH l n)) M') : jd T cf (.agg (x :: v :: tl)) (St n) M Q:=by
 unfold jd
 rw[iV hc (by simp)]
 simp only[aV]
 have k1:af [] M (M.push (.row (x :: v :: tl) false T 0)):=(af.refl _ _).push _
 have n1:(M.push (.row (x :: v :: tl) false T 0)).heap M.next=some (.row (x :: v :: tl) false T 0):=by simp[RM.push]
 rw[iE,aK n1 (by rfl:(x :: v :: tl)[1]?=some v)]
 refine hf (aJ.keep hv k1 (by simp)) hl h1 h2 fun M2 k2=>?_
 have:=hQ M2 (k1.trans k2)
 generalize aH l n=xs at *
 cases xs <;> simpa only[lF,bz,bu] using this
def Lj (B:Base) (c:ak) : Prop:=∀ {M:RM} {v w:AV} {s:Str} {Q:ai},M.base=B→Bs M v s→Bs M w [13,10]→s.length≤1000000000 →
 (∀ a r v1 v2,crlf s=some (a,r)→Bs M v1 a→Q (.tup [v1,v2,Bo true]) M)→(crlf s=none→Q (.tup [v,aA,Bo false]) M)→c [v,w] M Q
theorem mR {s a r:Str} (h:crlf s=some (a,r)) : s=a++13 :: 10 :: r∧a.length + 2 + r.length=s.length:=by
 rcases xX s with⟨h1,_⟩ | ⟨a',r',h1,_,h3⟩
 ·rw[h] at h1; cases h1
 ·rw[h] at h1; cases h1
  refine⟨h3, ?_⟩
  rw[h3]; simp; omega
theorem OD {B:Base} {ci:ak} (hi:Dy B ci) : Lj B fun args M Q=>∃ a0 a1,args=[a0,a1]∧uI ci a0 a1 M Q:=by
 intro M v w s Q hB hv hw hl hQ hN
 refine⟨_,_,rfl, ?_⟩
 unfold uI
 refine hi hB hv hw hl ?_
 rcases xX s with⟨e1,e2⟩ | ⟨a,r,e1,e2,e3⟩
 ·rw[e2,bL,show decide ((-1:Int) ≥ 0)=false from rfl,aX]
  exact hN e1
 ·have hal:=(mR e1).2
  rw[e2,bL,show decide ((a.length:Int) ≥ 0)=true by simp,bN]
  refine hv.sub (vJ 0) (gz _ _ _) (Nat.zero_le _) (by omega) fun v1 hv1 _=>?_
  rw[hw.len,addN (show a.length + ([13,10] : Str).length<4611686018427387904 by simp; omega)]
  refine hv.sub (gz _ _ _) (vJ _) (by simp; omega) (Nat.le_refl _) fun v2 hv2 _=>?_
  refine hQ a r v1 v2 e1 ?_
  have:(s.drop 0).take (a.length - 0)=a:=by rw[e3]; simp
  rw[this] at hv1; exact hv1
def iR (x:UInt8) : Nat:=if x.toNat≤57 then x.toNat - 48 else if x.toNat≤90 then x.toNat - 55 else x.toNat - 87
def ik (s:Str) : Nat:=s.foldl (fun n x=>n * 16 + iR x) 0
def dN (s:Str) : Nat:=s.foldl (fun n x=>n * 10 + (x.toNat - 48)) 0
def EC (c:ak) : Prop:=∀ {M:RM} {s:Str} {Q:ai},1≤s.length→s.length≤8→(low s).all jI=true→(∀ M',af [] M M'→Q (.tup [N .u64 (ik s:Int),.sc .nilIface]) M')→c [St s,N .i64 16,N .i64 64] M Q
def Ld (c:ak) : Prop:=∀ {M:RM} {s:Str} {Q:ai},1≤s.length→s.length≤9→s.all dG=true→(∀ M',af [] M M'→Q (.tup [N .i64 (dN s:Int),.sc .nilIface]) M')→c [St s] M Q
theorem JW {x:UInt8} (h:jI (bU x)=true) : iR x<16:=by
 unfold jI dG at h
 unfold iR
 simp only[Bool.or_eq_true,Bool.and_eq_true,decide_eq_true_eq] at h
 have hx:=xQ x
 have hl:(bU x).toNat=x.toNat∨((bU x).toNat=x.toNat + 32∧65≤x.toNat∧x.toNat≤90):=by
  unfold bU
  split
  ·right
   refine⟨?_,by omega,by omega⟩
   rw[UInt8.toNat_add]
   show(x.toNat + 32) % 256=_
   omega
  ·exact .inl rfl
 split
 ·omega
 ·split <;> omega
theorem G8:∀ (s:Str) (n:Nat),(low s).all jI=true→s.foldl (fun n x=>n * 16 + iR x) n<(n + 1) * 16 ^ s.length
 | [],n,_=>by simp
 | x :: s,n,h=>by
   simp only[low,List.map_cons,List.all_cons,Bool.and_eq_true] at h
   have hd:=JW h.1
   have:=G8 s (n * 16 + iR x) h.2
   rw[List.foldl_cons]
   refine Nat.lt_of_lt_of_le this ?_
   rw[List.length_cons,Nat.pow_succ,Nat.mul_comm (16 ^ s.length) 16,← Nat.mul_assoc]
   exact Nat.mul_le_mul_right _ (by omega)
theorem pK {s:Str} (h:(low s).all jI=true) (hl:s.length≤8) : ik s<4294967296:=by
 have:=G8 s 0 h
 unfold ik
 refine Nat.lt_of_lt_of_le this ?_
 rw[Nat.zero_add,Nat.one_mul]
 exact Nat.le_trans (Nat.pow_le_pow_right (by decide) hl) (by decide)
def ic (s:Str) : Bool:=fM s 1 8 && (low s).all jI
def kR (r:Str) : Except Nat (Nat × Str):=match crlf r with
 | none=>match Nat.blt 10 r.length with
   | true=>.error 14
   | false=>.error 15
 | some p=>match ic p.1 with
   | true=>.ok (ik p.1,p.2)
   | false=>.error 14
def KW (B:Base) (c:ak) : Prop:=∀ {M:RM} {v:AV} {b:Str} {at' : Nat} {Q:ai},M.base=B→Bs M v b→at'≤b.length→b.length≤1000000000 →
 (∀ n r at2 M',kR (b.drop at')=.ok (n,r)→at2≤b.length→at' + 2<at2→b.drop at2=r→n<4294967296→af [] M M'→Q (.tup [N .i64 (n:Int),N .i64 (at2:Int),N .i64 0]) M') →
 (∀ (e:Nat) M',kR (b.drop at')=.error e→(e=14∨e=15)→af [] M M'→Q (.tup [N .i64 0,N .i64 0,N .i64 (e:Int)]) M')→c [v,N .i64 (at' : Int)] M Q
theorem OH {B:Base} {T g:Nat} {cc cw cs ca cp:ak} (hc:Lj B cc) (hw:rH cw) (hs:uW cs) (ha:mf jI (.fn (.func g) [] []) ca) (hp:EC cp) :
  KW B fun args M Q=>∃ a0 a1,args=[a0,a1]∧nU T cc cw cs ca g cp a0 a1 M Q:=by
 intro M v b at' Q hB hv h1 hl hQ hE
 refine⟨_,_,rfl, ?_⟩
 unfold nU
 refine hv.sub (gz _ _ _) (vJ _) h1 (Nat.le_refl _) fun v1 hv1 _=>?_
 have hd:(b.drop at').take (b.length - at')=b.drop at':=List.take_of_length_le (by simp)
 rw[hd] at hv1
 refine IK fun w M1 hw1 k1=>?_
 have hv2:=hv1.keep k1 (by simp)
 have hdl:(b.drop at').length=b.length - at':=by simp
 refine hc (k1.base.trans hB) hv2 hw1 (by rw[hdl]; omega) (fun a r u1 u2 hcr hu1=>?_) (fun hcr=>?_)
 ·have hlen:=(mR hcr).2
  simp only[bz,bu,eH,bO,Bool.not_true,bS,eU,cO,aX]
  rw[hu1.str]
  refine hw ?_
  simp only[bO]
  -- the two tests
  have tail:∀ M2,af [] M M2→Bs M2 u1 a→((aj (Bo (!ic a)) (Q (.tup [(N .i64 0),(N .i64 0),(N .i64 14)]) M2) (
    dR M2 u1 fun t44=>cp [t44,(N .i64 16),(N .i64 64)] M2 fun t45 Co=>aG t45 0 fun t46=>aG t45 1 fun t47=>gP .i64 t46 fun t49=>bi u1 fun t52=>ae .add (N .i64 (at' : Int)) t52 fun t53=>ae .add t53 (N .i64 2) fun t54=>Q (.tup [t49,t54,(N .i64 0)]) Co))):=by
   intro M2 k2 hu2
   refine aM (fun h=>?_) fun h=>?_
   ·have hk:ic a=false:=by simpa using h
    exact hE 14 M2 (by unfold kR; rw[hcr]; simp only[hk]) (.inl rfl) k2
   ·have hk:ic a=true:=by simpa using h
    have hk':=hk
    unfold ic fM at hk'
    simp only[Bool.and_eq_true,decide_eq_true_eq] at hk'
    rw[hu2.str]
    refine hp (by omega) (by omega) hk'.2 fun M3 k3=>?_
    have hlt:=pK hk'.2 (by omega)
    simp only[bz,bu,iU]
    rw[bn (by omega) (by omega),hu2.len,addN (by omega),show(N .i64 2)=(N .i64 ((2:Nat) : Int)) from rfl,addN (by omega)]
    refine hQ (ik a) r (at' + a.length + 2) M3 (by unfold kR; rw[hcr]; simp only[hk]) (by omega) (by omega) ?_ hlt (k2.trans k3)
    have e3:=(mR hcr).1
    rw[show at' + a.length + 2=at' + (a.length + 2) by omega,← List.drop_drop,e3,← List.drop_drop]
    simp
  cases hwi:fM a 1 8 with
  | false =>
    simp only[Bool.not_false,bX,bT]
    have:=tail M1 k1 hu1
    unfold ic at this
    rw[hwi] at this
    simpa only[Bool.false_and,Bool.not_false] using this
  | true =>
    simp only[Bool.not_true,bP,cO]
    rw[hu1.str]
    refine hs (by omega) fun M2 k2=>?_
    refine ha (by rw[low,List.length_map]; omega) fun M3 k3=>?_
    have k23:=k2.trans k3
    have:=tail M3 (k1.trans k23) (hu1.keep k23 (by simp))
    unfold ic at this
    rw[hwi] at this
    simpa only[bO,Bool.true_and,cO] using this
 ·simp only[bz,bu,eH,bO,Bool.not_false,bS,bI,bT]
  rw[hv2.len,bG,hdl]
  by_cases h10:10<b.length - at'
  ·rw[show decide (((b.length - at' : Nat) : Int) > 10)=true by simp; omega,bN]
   exact hE 14 M1 (by unfold kR; rw[hcr]; simp only[hdl]; rw[show Nat.blt 10 (b.length - at')=true by rw[Nat.blt_eq]; exact h10]) (.inl rfl) k1
  ·rw[show decide (((b.length - at' : Nat) : Int) > 10)=false by simp; omega,aX,bN]
   refine hE 15 M1 ?_ (.inr rfl) k1
   unfold kR; rw[hcr]; simp only[hdl]
   have:Nat.blt 10 (b.length - at')=false:=by
    cases h:Nat.blt 10 (b.length - at')
    ·rfl
    ·rw[Nat.blt_eq] at h; exact absurd h h10
   rw[this]
end Go.Ab.Hw
namespace Go.Ab.Hw
open Go Go.Ab Go.Ab.Sm
theorem af.own {bs:List Nat} {M M1 M2:RM} {v:AV} (k1:af bs M M1) (k2:af (aW v) M1 M2) (hv:∀ b∈aW v,M.next≤b) : af bs M M2 :=
 ⟨k2.base.trans k1.base,Nat.le_trans k1.next k2.next,fun x hx hb=>by
  rw[k2.heap x (Nat.lt_of_lt_of_le hx k1.next) (fun h=>by have:=hv x h; omega),k1.heap x hx hb]⟩
def bR:Nat→Str→Str→Except Nat (Str × Str)
 | 0,_,_=>.error 99
 | f + 1,r,out=>match kR r with
   | .error e=>.error e
   | .ok (n,r1)=>match Nat.blt (16384 - out.length) n with
     | true=>.error 2
     | false=>match Nat.blt r1.length (n + 2) with
       | true=>.error 15
       | false=>match (r1.drop n).take 2 == [13,10] with
         | false=>.error 14
         | true=>match Nat.beq n 0 with
           | true=>.ok (out,r1.drop 2)
           | false=>bR f (r1.drop (n + 2)) (out++r1.take n)
theorem mI {a b:Nat} (h:a<b) : Nat.blt a b=true:=by rw[Nat.blt_eq]; exact h
theorem fO {a b:Nat} (h:¬ a<b) : Nat.blt a b=false:=by
 cases e:Nat.blt a b
 ·rfl
 ·rw[Nat.blt_eq] at e; exact absurd e h
theorem ML {n:Nat} (h:n≠0) : Nat.beq n 0=false:=by cases n <;> first | exact absurd rfl h | rfl
theorem Nl {r r1:Str} {n:Nat} (h:kR r=.ok (n,r1)) : r1.length + 2<r.length:=by
 unfold kR at h
 split at h
 ·split at h <;> cases h
 ·rename_i p hp
  obtain⟨a,q⟩:=p
  have:=(mR hp).2
  split at h
  ·rename_i hk
   cases h
   unfold ic fM at hk
   simp only[Bool.and_eq_true,decide_eq_true_eq] at hk
   show q.length + 2<r.length
   omega
  ·cases h
theorem rV:∀ (f g:Nat) (r out:Str),r.length<f→r.length<g→bR f r out=bR g r out
 | 0,_,_,_,h,_=>absurd h (by omega)
 | _,0,_,_,_,h=>absurd h (by omega)
 | f + 1,g + 1,r,out,h1,h2=>by
   rw[bR,bR]
   cases hs:kR r with
   | error e=>rfl
   | ok p =>
     obtain⟨n,r1⟩:=p
     have:=Nl hs
     dsimp only
     repeat' split
     all_goals first | rfl | skip
     exact rV f g _ _ (by simp; omega) (by simp; omega)
def BZ (B:Base) (T:Nat) (c:ak) : Prop:=∀ {M:RM} {v:AV} {b:Str} {at' : Nat} {Q:ai},M.base=B→Bs M v b→at'≤b.length→b.length≤1000000000 →
 (∀ out r at2 ov M',bR (b.length - at' + 1) (b.drop at') []=.ok (out,r)→at2≤b.length→at'≤at2→b.drop at2=r→out.length≤16384→af [] M M'→Ow BY M' M.next T ov out→Q (.tup [ov,N .i64 (at2:Int),N .i64 0]) M') →
 (∀ (e:Nat) M',bR (b.length - at' + 1) (b.drop at') []=.error e→(e=14∨e=15∨e=2)→af [] M M'→Q (.tup [aA,N .i64 0,N .i64 (e:Int)]) M')→c [v,N .i64 (at' : Int)] M Q
theorem IE {B:Base} {T:Nat} {cs:ak} (hs:KW B cs) : BZ B T fun args M Q=>∃ a0 a1,args=[a0,a1]∧lI cs T a0 a1 M Q:=by
 intro M v b at0 Q hB hv h0 hl hQ hE
 refine⟨_,_,rfl, ?_⟩
 unfold lI
 generalize hr0:bR (b.length - at0 + 1) (b.drop at0) []=target at *
 refine aZ (fun m ys M3=>∃ (at' : Nat) (ov:AV) (out:Str),ys=[N .i64 (at' : Int),ov]∧at'≤b.length∧at0≤at'∧m=b.length - at'∧out.length≤16384∧Ow BY M3 M.next T ov out∧af [] M M3∧bR (m + 1) (b.drop at') out=target) _
  ⟨at0,aA,[],rfl,h0,Nat.le_refl _,rfl,by simp,.nil,af.refl _ _,hr0⟩ ?_
 rintro next m ys M3 hnext ⟨at',ov,out,rfl,h1,h2,rfl,hol,hO,k3,heq⟩
 simp only[aN,cK]
 have hv3:=hv.keep k3 (by simp)
 refine hs (k3.base.trans hB) hv3 h1 hl (fun n r at2 M4 e4 a1 a2 hr hn k4=>?_) (fun e M4 e4 he k4=>?_)
 rotate_left
 ·simp only[bz,bu,eH,dV]
  rw[show(((e:Nat) : Int) != 0)=true by rcases he with rfl | rfl <;> rfl,bN]
  refine hE e M4 ?_ (by omega) (k3.trans k4)
  rw[← heq,bR,e4]
 simp only[bz,bu,eH,BS,aX]
 have hO4:Ow BY M4 M.next T ov out:=hO.keep k4 (by simp)
 have k34:=k3.trans k4
 have hv4:=hv3.keep k4 (by simp)
 rw[hO4.jc.len,show(N .i64 16384)=N .i64 ((16384:Nat) : Int) from rfl,sW hol (by omega),BJ]
 have hrl:r.length=b.length - at2:=by rw[← hr]; simp
 refine aM (fun h=>?_) fun h=>?_
 ·have h:16384 - out.length<n:=by simpa using h
  refine hE 2 M4 ?_ (by omega) k34
  rw[← heq,bR,e4]
  simp only[mI h]
 have hf1:¬ 16384 - out.length<n:=by simpa using h
 rw[show(N .i64 2)=N .i64 ((2:Nat) : Int) from rfl,addN (by omega),hv4.len,sW a1 (by omega),BJ]
 refine aM (fun h=>?_) fun h=>?_
 ·have h:b.length - at2<n + 2:=by simpa using h
  refine hE 15 M4 ?_ (by omega) k34
  rw[← heq,bR,e4]
  simp only[fO hf1,hrl,mI h]
 have hf2:¬ b.length - at2<n + 2:=by simpa using h
 simp only[addN (show at2 + n<4611686018427387904 by omega),addN (show at2 + n + 2<4611686018427387904 by omega)]
 refine hv4.sub (gz _ _ _) (gz _ _ _) (by omega) (by omega) fun v5 hv5 _=>?_
 have hdr:(b.drop (at2 + n)).take (at2 + n + 2 - (at2 + n))=(r.drop n).take 2:=by
  rw[← hr,List.drop_drop,show at2 + n + 2 - (at2 + n)=2 by omega]
 rw[hdr] at hv5
 rw[hv5.str,lg]
 cases he2:(r.drop n).take 2 == [13,10] with
 | false =>
   rw[show((r.drop n).take 2 != [13,10])=true by unfold bne; rw[he2]; rfl,bN]
   refine hE 14 M4 ?_ (by omega) k34
   rw[← heq,bR,e4]
   simp only[fO hf1,hrl,fO hf2,he2]
 | true =>
   rw[show((r.drop n).take 2 != [13,10])=false by unfold bne; rw[he2]; rfl,aX]
   rw[show(N .i64 0)=N .i64 ((0:Nat) : Int) from rfl,Pt]
   refine aM (fun h=>?_) fun h=>?_
   ·have h0:n=0:=by simpa using h
    subst h0
    refine hQ out (r.drop 2) (at2 + 0 + 2) ov M4 ?_ (by omega) (by omega) ?_ hol k34 hO4
    ·rw[← heq,bR,e4]
     simp only[fO hf1,hrl,fO hf2,he2]
     try rfl
    ·rw[← hr,List.drop_drop,Nat.add_zero]
   ·have hn0:n≠0:=by simpa using h
    refine hv4.sub (gz _ _ _) (gz _ _ _) (by omega) (by omega) fun v6 hv6 hsub6=>?_
    have htk:(b.drop at2).take (at2 + n - at2)=r.take n:=by rw[hr,Nat.add_sub_cancel_left]
    rw[htk] at hv6
    have htl:(r.take n).length=n:=by simp; omega
    refine nE (E:=BY) hO4 k34.next (by decide) hv6.sl (by rw[htl]; omega) (by rw[htl]; omega) fun v7 M7 o7 k7 _ _=>?_
    refine hnext _ _ _ (show b.length - (at2 + n + 2)<b.length - at' by omega) ⟨at2 + n + 2,v7,out++r.take n,rfl,by omega,by omega,rfl,by rw[List.length_append,htl]; omega,o7,af.own k34 k7 (fun x hx=>(hO4.blk x hx).1), ?_⟩
    have hd:b.drop (at2 + n + 2)=r.drop (n + 2):=by rw[← hr,List.drop_drop,Nat.add_assoc]
    rw[← heq,hd]
    conv=>rhs; rw[bR,e4]
    simp only[fO hf1,hrl,fO hf2,he2,ML hn0]
    exact rV _ _ _ _ (by simp; omega) (by simp; omega)
end Go.Ab.Hw
set_option maxRecDepth 100000
namespace Go.Ab.Dot
open Go Go.Ab
def si (p1:Nat) (a0:AV) (M0:RM) (Q:ai) : Prop:=iH false 2 a0 (.sc (.slice none 0 0)) fun h=>aj h ( Q (.sc (.slice none 0 0)) M0) ( dX p1 0 [(N .u8 0)] [] fun g e=>bf g e M0 fun i c=>appW p1 1 1 [(N .u8 0)] false i a0 c fun j d=>Q j d)
end Go.Ab.Dot
set_option maxRecDepth 10000
namespace Go.Ab.Hw
open Go Go.Ab Go.Ab.Sm
def Jm (T:Nat) (c:ak) : Prop:=∀ {M:RM} {v:AV} {s:Str} {Q:ai},Sl BY M v s→s.length≤1000000000→(∀ v' M',Ow BY M' M.next T v' s→af [] M M'→Q v' M')→c [v] M Q
theorem K7 {T:Nat} : Jm T fun args M Q=>∃ a0,args=[a0]∧Go.Ab.Dot.si T a0 M Q:=by
 intro M v s Q hv hl hQ
 refine⟨_,rfl, ?_⟩
 unfold Go.Ab.Dot.si
 rcases aJ.xD hv false with⟨rfl,he⟩ | ⟨hne,he⟩
 ·rw[he,show(!false)=true from rfl,bN]
  have:s=[]:=by
   unfold Sl at hv
   cases s with
   | nil=>rfl
   | cons x s=>generalize hcs:BY.row (x :: s)=cs at *; generalize hn:(x :: s).length=n at *; cases hv; cases hcs
  subst this
  exact hQ aA M .nil (af.refl _ _)
 ·rw[he,aX,Gz]
  simp only[aV]
  have k1:af [] M (M.push (.row [] false T 0)):=(af.refl _ _).push _
  refine nE (E:=BY) (Ow.lit BY M) (by simp[RM.push]) (by decide) (aJ.keep hv k1 (by simp)) (by simp; omega) (by simp; omega) fun v7 M7 o7 k7 _ _=>?_
  refine hQ v7 M7 (by simpa using o7) ?_
  refine af.own k1 k7 (fun b hb=>?_)
  simp[aW] at hb; omega
abbrev iq:Str:=[116,114,97,110,115,102,101,114,45,101,110,99,111,100,105,110,103]
abbrev fC:Str:=[99,111,110,116,101,110,116,45,108,101,110,103,116,104]
abbrev qD:Str:=[99,104,117,110,107,101,100]
def lU (v:Str) : Bool:=fM v 1 9 && v.all dG
def nX (r:Str) (l:List Hd) : Except Nat (Str × Str):=match aH l iq with
 | x :: xs=>match xs with
   | _ :: _=>.error 14
   | []=>match low x == qD with
     | false=>.error 14
     | true=>match aH l fC with
       | _ :: _=>.error 14
       | []=>bR (r.length + 1) r []
 | []=>match aH l fC with
   | []=>.ok ([],r)
   | v :: vs=>match vs with
     | _ :: _=>.error 14
     | []=>match lU v with
       | false=>.error 14
       | true=>match Nat.blt 16384 (dN v) with
         | true=>.error 2
         | false=>match Nat.blt r.length (dN v) with
           | true=>.error 15
           | false=>.ok (r.take (dN v),r.drop (dN v))
def Gp (B:Base) (T:Nat) (c:ak) : Prop:=∀ {M:RM} {v hv:AV} {b:Str} {l:List Hd} {at' : Nat} {Q:ai},M.base=B→Bs M v b→at'≤b.length→b.length≤1000000000→Sl HD M hv l→l.length≤1000000→(∀ h∈l,h.1.length<4611686018427387904∧h.2.length<4611686018427387904) →
 (∀ out r at2 ov M',nX (b.drop at') l=.ok (out,r)→at2≤b.length→at'≤at2→b.drop at2=r→out.length≤16384→af [] M M'→Ow BY M' M.next T ov out→Q (.tup [ov,N .i64 (at2:Int),N .i64 0]) M') →
 (∀ (e:Nat) M',nX (b.drop at') l=.error e→(e=14∨e=15∨e=2)→af [] M M'→Q (.tup [aA,N .i64 0,N .i64 (e:Int)]) M')→c [v,N .i64 (at' : Int),hv] M Q
theorem NL {l:List Hd} {n s:Str} (h:s∈aH l n) : ∃ x∈l,x.2=s:=by
 unfold aH at h
 rw[List.mem_map] at h
 obtain⟨x,hx,e⟩:=h
 exact⟨x,(List.mem_filter.1 hx).1,e⟩
theorem Hy:∀ (s:Str) (n:Nat),s.all dG=true→s.foldl (fun n x=>n * 10 + (x.toNat - 48)) n<(n + 1) * 10 ^ s.length
 | [],n,_=>by simp
 | x :: s,n,h=>by
   simp only[List.all_cons,Bool.and_eq_true] at h
   have hd:x.toNat - 48<10:=by
    have:=h.1
    unfold dG at this
    simp only[Bool.and_eq_true,decide_eq_true_eq] at this
    omega
   have:=Hy s (n * 10 + (x.toNat - 48)) h.2
   rw[List.foldl_cons]
   refine Nat.lt_of_lt_of_le this ?_
   rw[List.length_cons,Nat.pow_succ,Nat.mul_comm (10 ^ s.length) 10,← Nat.mul_assoc]
   exact Nat.mul_le_mul_right _ (by omega)
theorem JZ {s:Str} (h:s.all dG=true) (hl:s.length≤9) : dN s<1000000000:=by
 have:=Hy s 0 h
 unfold dN
 refine Nat.lt_of_lt_of_le this ?_
 rw[Nat.zero_add,Nat.one_mul]
 exact Nat.le_trans (Nat.pow_le_pow_right (by decide) hl) (by decide)
theorem NK {B:Base} {T TS g:Nat} {cn cs cc cw ca ci cl:ak} (hn:DN TS cn) (hs:uW cs) (hc:BZ B T cc) (hw:rH cw) (ha:mf dG (.fn (.func g) [] []) ca) (hi:Ld ci) (hcl:Jm T cl) :
  Gp B T fun args M Q=>∃ a0 a1 a2,args=[a0,a1,a2]∧ou cn cs cc cw ca g ci cl a0 a1 a2 M Q:=by
 intro M v hv b l at' Q hB hb h1 hl hh hll hnl hQ hE
 refine⟨_,_,_,rfl, ?_⟩
 unfold ou
 have hval:∀ {n s},s∈aH l n→s.length<4611686018427387904:=fun hm=>by
  obtain⟨x,hx,rfl⟩:=NL hm
  exact(hnl x hx).2
 have hrl:(b.drop at').length=b.length - at':=by simp
 refine hn hh hll (fun h hx=>(hnl h hx).1) (by decide) fun v1 M1 o1 k1=>?_
 refine hn (aJ.keep hh k1 (by simp)) hll (fun h hx=>(hnl h hx).1) (by decide) fun v2 M2 o2 k2=>?_
 have k12:=k1.trans k2
 have s1:Sl om M2 v1 (aH l iq):=aJ.keep (Own.jc o1) k2 (by simp)
 have s2:Sl om M2 v2 (aH l fC):=Own.jc o2
 have TY := @hval iq
 have TV := @hval fC
 unfold nX at hQ hE
 rw[hrl] at hQ hE
 change Sl om M2 v1 (aH l iq) at s1
 generalize aH l iq=xs at *
 generalize aH l fC=ys at *
 rw[s1.len,bG]
 cases xs with
 | cons x xs =>
   rw[show decide (((x :: xs).length:Int) > 0)=true by simp,bN,s1.len,bG]
   simp only[bS]
   cases xs with
   | cons x2 xs =>
     rw[show decide (((x :: x2 :: xs).length:Int) > 1)=true by simp; omega]
     simp only[bX,bT,bN]
     exact hE 14 M2 rfl (.inl rfl) k12
   | nil =>
     rw[show decide ((([x] : List Str).length:Int) > 1)=false from rfl]
     simp only[bP,cO]
     obtain⟨b0,o0,_,_,hix,hld⟩:=s1.at 1 0 (i:=0) (by simp)
     rw[hix,dI]
     refine⟨_,fB.1 hld, ?_⟩
     refine hs (by have:=TY (List.mem_singleton.2 rfl); simpa using (by omega:x.length<9223372036854775807)) fun M3 k3=>?_
     simp only[List.getElem_cons_zero,lg]
     cases hlow:low x == qD with
     | false =>
       rw[show(low x != qD)=true by unfold bne; rw[hlow]; rfl]
       simp only[bX,bT,bN]
       exact hE 14 M3 (by simp only[hlow]) (.inl rfl) (k12.trans k3)
     | true =>
       rw[show(low x != qD)=false by unfold bne; rw[hlow]; rfl]
       simp only[bP,cO]
       have s23:Sl om M3 v2 ys:=aJ.keep s2 k3 (by simp)
       rw[s23.len,bG]
       cases ys with
       | cons y ys =>
         rw[show decide (((y :: ys).length:Int) > 0)=true by simp,bN]
         exact hE 14 M3 (by simp only[hlow]) (.inl rfl) (k12.trans k3)
       | nil =>
         rw[show decide ((([] : List Str).length:Int) > 0)=false from rfl,aX]
         have k13:=k12.trans k3
         refine hc (k13.base.trans hB) (hb.keep k13 (by simp)) h1 hl (fun out r at2 ov M4 e4 a1 a2 hr ho k4 o4=>?_) (fun e M4 e4 he k4=>?_)
         ·simp only[bz,bu,eH]
          exact hQ out r at2 ov M4 (by simp only[hlow]; exact e4) a1 a2 hr ho (k13.trans k4) (Own.mono o4 k13.next)
         ·simp only[bz,bu,eH]
          exact hE e M4 (by simp only[hlow]; exact e4) he (k13.trans k4)
 | nil =>
   rw[show decide ((([] : List Str).length:Int) > 0)=false from rfl,aX,s2.len,bq]
   cases ys with
   | nil =>
     rw[show((([] : List Str).length:Int) == 0)=true from rfl,bN]
     exact hQ [] (b.drop at') at' aA M2 rfl h1 (Nat.le_refl _) rfl (by simp) k12 .nil
   | cons y ys =>
     rw[show(((y :: ys).length:Int) == 0)=false by simp; omega,aX,s2.len,bG]
     simp only[bS]
     cases ys with
     | cons y2 ys =>
       rw[show decide (((y :: y2 :: ys).length:Int) > 1)=true by simp; omega]
       simp only[bX,bT,bN]
       exact hE 14 M2 rfl (.inl rfl) k12
     | nil =>
       rw[show decide ((([y] : List Str).length:Int) > 1)=false from rfl]
       simp only[bP,cO]
       obtain⟨b0,o0,hb0,hb0v,hix,hld⟩:=s2.at 1 0 (i:=0) (by simp)
       have hc0:=fB.1 hld
       have hyl:y.length<4611686018427387904:=TV (List.mem_singleton.2 rfl)
       rw[hix,dI]
       refine⟨_,hc0, ?_⟩
       refine hw ?_
       simp only[List.getElem_cons_zero,bO]
       have tail:∀ M3,af [] M2 M3→aj (Bo (!lU y)) (Q (.tup [(.sc (.slice none 0 0)),(N .i64 0),(N .i64 14)]) M3) (
         bZ v2 (N .i64 0) 1 fun t67=>ax M3 t67 fun t68=>ci [t68] M3 fun t69 O4=>aG t69 0 fun t70=>aG t69 1 fun t71=>ae .gtr t70 (N .i64 16384) fun t74=>aj t74 ( Q (.tup [(.sc (.slice none 0 0)),(N .i64 0),(N .i64 2)]) O4) ( bi v fun t78=>ae .sub t78 (N .i64 (at' : Int)) fun t80=>ae .gtr t70 t80 fun t81=>aj t81 ( Q (.tup [(.sc (.slice none 0 0)),(N .i64 0),(N .i64 15)]) O4) ( ae .add (N .i64 (at' : Int)) t70 fun t86=>bB (dL 1 v (some (N .i64 (at' : Int))) (some t86) none) fun t87=>cl [t87] O4 fun t88 WC=>ae .add (N .i64 (at' : Int)) t70 fun t91=>Q (.tup [t88,t91,(N .i64 0)]) WC))):=by
        intro M3 k3
        cases hok:lU y with
        | false =>
          simp only[Bool.not_false,bN]
          exact hE 14 M3 (by simp only[hok]) (.inl rfl) (k12.trans k3)
        | true =>
          have hok':=hok
          unfold lU fM at hok'
          simp only[Bool.and_eq_true,decide_eq_true_eq] at hok'
          simp only[Bool.not_true,aX]
          have s23:Sl om M3 v2 [y]:=aJ.keep s2 k3 (by simp)
          obtain⟨b3,o3,hb3,_,Wm,U7⟩:=s23.at 1 0 (i:=0) (by simp)
          rw[Wm,dI]
          refine⟨_,fB.1 U7, ?_⟩
          simp only[List.getElem_cons_zero]
          refine hi (by omega) (by omega) hok'.2 fun M4 k4=>?_
          have hlt:=JZ hok'.2 (by omega)
          have k14:=k12.trans (k3.trans k4)
          have hb4:=hb.keep k14 (by simp)
          simp only[bz,bu]
          rw[show(N .i64 16384)=N .i64 ((16384:Nat) : Int) from rfl,BJ]
          refine aM (fun h=>?_) fun h=>?_
          ·have h:16384<dN y:=by simpa using h
           exact hE 2 M4 (by simp only[hok,mI h]) (by omega) k14
          have hf1:¬ 16384<dN y:=by simpa using h
          rw[hb4.len,sW h1 (by omega),BJ]
          refine aM (fun h=>?_) fun h=>?_
          ·have h:b.length - at'<dN y:=by simpa using h
           exact hE 15 M4 (by simp only[hok,fO hf1,mI h]) (by omega) k14
          have hf2:¬ b.length - at'<dN y:=by simpa using h
          simp only[addN (show at' + dN y<4611686018427387904 by omega)]
          refine hb4.sub (gz _ _ _) (gz _ _ _) (by omega) (by omega) fun v5 hv5 _=>?_
          rw[Nat.add_sub_cancel_left] at hv5
          refine hcl hv5.sl (by simp; omega) fun v6 M6 o6 k6=>?_
          exact hQ ((b.drop at').take (dN y)) ((b.drop at').drop (dN y)) (at' + dN y) v6 M6 (by simp only[hok,fO hf1,fO hf2]) (by omega) (by omega) (by rw[List.drop_drop]) (by simp; omega) (k14.trans k6) (Own.mono o6 k14.next)
       cases hwi:fM y 1 9 with
       | false =>
         simp only[Bool.not_false,bX,bT]
         have:=tail M2 (af.refl _ _)
         unfold lU at this
         rw[hwi] at this
         simpa only[Bool.false_and,Bool.not_false] using this
       | true =>
         simp only[Bool.not_true,bP,cO]
         rw[hix,dI]
         refine⟨_,hc0, ?_⟩
         simp only[List.getElem_cons_zero]
         refine ha hyl fun M3 k3=>?_
         have:=tail M3 k3
         unfold lU at this
         rw[hwi] at this
         simpa only[bO,Bool.true_and,cO] using this
end Go.Ab.Hw
namespace Go.Ab.Hw
open Go Go.Ab Go.Ab.Sm
open Go.Ab.Vl (brk lY qP iF di ek dJ Cg bK)
def LJ (c:UInt8) : List Str→List Str
 | []=>[[c]]
 | w :: ws=>(c :: w) :: ws
def words (x:UInt8) : Str→List Str
 | []=>[[]]
 | c :: t=>match c == x with
   | true=>[] :: words x t
   | false=>LJ c (words x t)
theorem Ie (x:UInt8) (s:Str) : words x s≠[]:=by
 cases s with
 | nil=>simp[words]
 | cons c t =>
   unfold words
   split
   ·simp
   ·cases words x t <;> simp[LJ]
theorem nH (x:UInt8) : ∀ s:Str,words x s=(match brk x s with | none=>[s] | some p=>p.1 :: words x p.2)
 | []=>rfl
 | c :: t=>by
   rw[words,brk]
   cases h:c == x
   ·have hc:¬ c=x:=by simpa using h
    rw[if_neg hc]
    dsimp only
    rw[nH x t]
    cases brk x t with
    | none=>rfl
    | some p=>rfl
   ·have hc:c=x:=by simpa using h
    rw[if_pos hc]
theorem uz {x:UInt8} : ∀ {s a b:Str},brk x s=some (a,b)→s.count x=b.count x + 1
 | [],_,_,h=>by simp[brk] at h
 | c :: t,a,b,h=>by
   rw[brk] at h
   split at h
   ·rename_i e; subst e; cases h; simp
   ·rename_i e
    cases hb:brk x t with
    | none=>rw[hb] at h; simp at h
    | some p =>
      rw[hb] at h
      simp only[Option.map_some,Option.some.injEq,Prod.mk.injEq] at h
      obtain⟨_,rfl⟩:=h
      rw[List.count_cons_of_ne e]
      exact uz (a:=p.1) (b:=p.2) hb
theorem Ee {x:UInt8} {s:Str} (h:brk x s=none) : s.count x=0:=by
 rcases Vl.wH x s with⟨_,_,h3⟩ | ⟨a,b,h1,_⟩
 ·exact List.count_eq_zero.2 h3
 ·rw[h] at h1; cases h1
theorem Ak (x:UInt8) : ∀ (k:Nat) (s:Str),s.count x=k→Lib.splitK [x] 0 k s=words x s
 | 0,s,h=>by
   rw[nH]
   cases hb:brk x s with
   | none=>rfl
   | some p=>have:=uz (a:=p.1) (b:=p.2) hb; omega
 | k + 1,s,h=>by
   rw[nH,Lib.splitK,Lib.index_one]
   rcases Vl.wH x s with⟨h1,h2,_⟩ | ⟨a,b,h1,h2,h3,_⟩
   ·have:=Ee h1; omega
   ·have hn:((a.length:Int) == -1)=false:=by simp
    have hc:=uz h1
    rw[h1,h2,hn]
    simp only[Int.toNat_natCast,Nat.add_zero,List.length_cons,List.length_nil]
    rw[← Ak x k b (by omega)]
    have e1:s.take a.length=a:=by rw[h3]; simp
    have e2:s.drop (a.length + (0 + 1))=b:=by rw[h3,← List.drop_drop]; simp
    rw[e1,e2]
    rfl
theorem uD {x:UInt8} : ∀ {s w:Str},w∈words x s→w.length≤s.length
 | [],w,h=>by simp[words] at h; subst h; simp
 | c :: t,w,h=>by
   rw[words] at h
   split at h
   ·rcases List.mem_cons.1 h with rfl | h
    ·simp
    ·have:=uD h; simp; omega
   ·cases hw:words x t with
    | nil=>exact absurd hw (Ie x t)
    | cons v vs =>
      rw[hw] at h
      simp only[LJ] at h
      rcases List.mem_cons.1 h with rfl | h
      ·have:=uD (x:=x) (s:=t) (w:=v) (by rw[hw]; simp); simp; omega
      ·have:=uD (x:=x) (s:=t) (w:=w) (by rw[hw]; simp[h]); simp; omega
def Ij (B:Base) (T:Nat) (c:ak) : Prop:=∀ {M:RM} {s:Str} {Q:ai},M.base=B→s.length≤1000000→(∀ v M',Ow om M' M.next T v (words 32 s)→af [] M M'→Q v M')→c [St s,St [32]] M Q
abbrev uU:Str:=[72,84,84,80,47,49,46,49]
def ow (m p v:Str) : Bool:=dY m && fo p && (v == uU)
def dw (s:Str) : Option (Str × Str):=match words 32 s with
 | [m,p,v]=>match ow m p v with
   | true=>some (m,p)
   | false=>none
 | _=>none
def mM (s:Str) : Bool:=(dw s).isSome
abbrev jP (T:Nat) (m p:Str) : RB:=.row [St m,St p,aA,aA] false T 0
def IL (T:Nat) (s:Str) : RB:=match dw s with
 | some (m,p)=>jP T m p
 | none=>jP T [] []
theorem Na (l:List Str) : (∃ a b c,l=[a,b,c])∨l.length≠3:=by
 rcases l with _ | ⟨a,_ | ⟨b,_ | ⟨c,_ | ⟨d,l⟩⟩⟩⟩ <;> simp
theorem Nj {B:Base} {T TS br:Nat} {cs cm cp:ak} (hs:Ij B TS cs) (hm:fP dY cm) (hp:fP fo cp) {M:RM} {s:Str} {K:ai} (hB:M.base=B) (hbr:br<M.next) (hX:M.heap br=some (jP T [] []))
  (hl:s.length≤2048) (h0:mM s=false→∀ M',af [br] M M'→K (Bo false) M') (h1:mM s=true→∀ M',af [br] M M'→M'.heap br=some (IL T s)→K (Bo true) M') : iW cs cm cp (St s) (.ptr br 0) M K:=by
 unfold iW
 refine hs hB (by omega) fun v M1 o1 k1=>?_
 have s1:Sl om M1 v (words 32 s):=Own.jc o1
 have hwl:∀ w∈words 32 s,w.length≤2048:=fun w hw=>Nat.le_trans (uD hw) hl
 have kb:∀ {M'},af [] M M'→af [br] M M':=fun k=>k.mono (by simp)
 rw[s1.len]
 simp only[dV,bS]
 rcases Na (words 32 s) with⟨a,b,c,hw⟩ | hne
 ·have hq:dw s=if ow a b c then some (a,b) else none:=by
   unfold dw; rw[hw]; dsimp only; cases ow a b c <;> rfl
  rw[hw] at s1 hwl ⊢
  rw[show((([a,b,c] : List Str).length:Int) != 3)=false from rfl]
  simp only[bP,cO]
  have at_:∀ {M2:RM} (k:af [] M1 M2) {K' : AV→Prop},(∀ x:AV,(bZ v (N .i64 0) 1 fun t=>ax M2 t fun u=>K' u)=K' (St a))∧(∀ x:AV,(bZ v (N .i64 1) 1 fun t=>ax M2 t fun u=>K' u)=K' (St b))∧(∀ x:AV,(bZ v (N .i64 2) 1 fun t=>ax M2 t fun u=>K' u)=K' (St c)):=by
   intro M2 k K'
   have s2:Sl om M2 v [a,b,c]:=aJ.keep s1 k (by simp)
   obtain⟨b0,o0,_,_,hix,hld⟩:=s2.at 1 0 (i:=0) (by simp)
   obtain⟨b1,o1',_,_,Ii,Es⟩:=s2.at 1 1 (i:=1) (by simp)
   obtain⟨b2,o2,_,_,Px,Pz⟩:=s2.at 1 2 (i:=2) (by simp)
   refine⟨fun _=>?_,fun _=>?_,fun _=>?_⟩
   ·rw[hix,dI,fB.1 hld]; exact EQ _ _
   ·rw[Ii,dI,fB.1 Es]; exact EQ _ _
   ·rw[Px,dI,fB.1 Pz]; exact EQ _ _
  have tail:∀ M2,af [] M1 M2→(aj (Bo (!ow a b c)) (K (Bo false) M2) (
    bZ v (N .i64 0) 1 fun t31=>ax M2 t31 fun t32=>bZ v (N .i64 1) 1 fun t34=>ax M2 t34 fun t35=>aP (.ptr br 0) 0 fun t36=>az M2 t36 t32 1 fun Rn=>ax Rn t34 fun RN=>(RN=t35∧aP (.ptr br 0) 1 fun t37=>az Rn t37 t35 1 fun Vt=>K (Bo true) Vt))):=by
   intro M2 k2
   have k02:af [] M M2:=k1.trans k2
   refine aM (fun h=>?_) fun h=>?_
   ·have hk:ow a b c=false:=by simpa using h
    exact h0 (by unfold mM; rw[hq,hk]; rfl) M2 (kb k02)
   ·have hk:ow a b c=true:=by simpa using h
    have X2:=k02.aC hX hbr (by simp)
    have s2:Sl om M2 v [a,b,c]:=aJ.keep s1 k2 (by simp)
    rw[((at_ k2).1 aA)]
    obtain⟨b1,o1',hb1,Wi,Ii,Es⟩:=s2.at 1 1 (i:=1) (by simp)
    have hvn:=(o1.blk b1 Wi).1
    rw[Ii,dI]
    refine⟨_,fB.1 Es, ?_⟩
    simp only[List.getElem_cons_succ,List.getElem_cons_zero]
    rw[iE,eQ [St a,St [],aA,aA] X2 (by simp) rfl rfl rfl,dI]
    have k3:af [br] M2 (M2.put br (.row [St a,St [],aA,aA] false T 0)):=(af.refl _ _).put _ (.inr (by simp))
    have hne:b1≠br:=fun e=>by omega
    refine⟨St b, ?_,rfl, ?_⟩
    ·have hcell:M2.cell b1 o1'=some (St b):=fB.1 Es
     rw[← hcell]
     unfold RM.cell
     rw[RM.tN,RM.tN,k3.heap b1 hb1 (by simpa using hne)]
     rfl
    rw[iE,eQ [St a,St b,aA,aA] (aB _) (by simp) rfl rfl rfl]
    refine h1 (by unfold mM; rw[hq,hk]; rfl) _ ((kb k02).trans (k3.trans ((af.refl _ _).put _ (.inr (by simp))))) ?_
    rw[aB]
    unfold IL; rw[hq,hk]; rfl
  have ha:=hwl a (by simp)
  have hb:=hwl b (by simp)
  rw[((at_ (af.refl _ _)).1 aA)]
  refine hm (by omega) fun M2 k2=>?_
  simp only[bO]
  unfold ow at tail
  cases hgm:dY a with
  | false =>
    simp only[Bool.not_false,bX,bT]
    have:=tail M2 k2
    simpa only[hgm,Bool.false_and,Bool.not_false] using this
  | true =>
    simp only[Bool.not_true,bP,cO]
    rw[((at_ k2).2.1 aA)]
    refine hp (by omega) fun M3 k3=>?_
    have k13:=k2.trans k3
    simp only[bO]
    cases hgp:fo b with
    | false =>
      simp only[Bool.not_false,bX,bT]
      have:=tail M3 k13
      simpa only[hgm,hgp,Bool.false_and,Bool.and_false,Bool.not_false] using this
    | true =>
      simp only[Bool.not_true,bP,cO]
      rw[((at_ k13).2.2 aA),lg]
      have:=tail M3 k13
      simpa only[hgm,hgp,Bool.true_and,bne] using this
 ·have hq:dw s=none:=by
   unfold dw
   split
   ·rename_i m p v hw; rw[hw] at hne; exact absurd rfl hne
   ·rfl
  rw[show(((words 32 s).length:Int) != 3)=true by
   simp only[bne_iff_ne,ne_eq]
   omega]
  simp only[bX,bT,bN]
  exact h0 (by unfold mM; rw[hq]; rfl) M1 (kb k1)
abbrev vS:Str:=[72,84,84,80,47,49,46,49,32]
def jY (s:Str) : Str:=if pre vS s then s.drop 9 else s
def uT (s:Str) : Bool:=!pre vS s || decide (((jY s).length:Int)<4)
def BV (s:Str) : Bool:=uT s || !((jY s).take 3).all dG
def xR (s:Str) : Bool:=BV s || ((((jY s).getD 3 0).toNat:Int) != 32)
def wX (s:Str) : Bool:=xR s || !((jY s).drop 3).all p32
def codeOf (s:Str) : Nat:=dN ((jY s).take 3)
def gH (s:Str) : Bool:=!wX s && (decide ((codeOf s:Int) ≥ 100) && decide ((codeOf s:Int)≤599))
abbrev iM (T:Nat) (n:Int) : RB:=.row [N .i64 n,aA,aA] false T 0
def GG (T:Nat) (s:Str) : RB:=iM T (codeOf s)
theorem Mh {T br g1 g2:Nat} {cc ca ci:ak} (hc:rG cc) (ha1:mf dG (.fn (.func g1) [] []) ca) (ha2:mf p32 (.fn (.func g2) [] []) ca) (hi:Ld ci) {M:RM} {s:Str} {K:ai} (hbr:br<M.next)
  (hX:M.heap br=some (iM T 0)) (hl:s.length≤2048) (h0:gH s=false→∀ M',af [br] M M'→K (Bo false) M') (h1:gH s=true→∀ M',af [br] M M'→M'.heap br=some (GG T s)→K (Bo true) M') :
  iK cc ca g1 g2 ci (St s) (.ptr br 0) M K:=by
 unfold iK
 refine hc ?_
 have kb:∀ {M'},af [] M M'→af [br] M M':=fun k=>k.mono (by simp)
 have hrl:(jY s).length≤s.length:=by unfold jY; split <;> simp
 have e9:zA vS s=.tup [St (jY s),Bo (pre vS s)]:=by
  unfold zA jY; cases pre vS s <;> rfl
 rw[e9]
 simp only[bz,bu,bO,bS]
 generalize hr:jY s=r at *
 have hb1:uT s=(!pre vS s || decide ((r.length:Int)<4)):=by unfold uT; rw[hr]
 have hb2:BV s=(uT s || !(r.take 3).all dG):=by unfold BV; rw[hr]
 have hb3:xR s=(BV s || (((r.getD 3 0).toNat:Int) != 32)):=by unfold xR; rw[hr]
 have hb4:wX s=(xR s || !(r.drop 3).all p32):=by unfold wX; rw[hr]
 have Mc:uT s=false→4≤r.length:=fun h=>by
  rw[hb1] at h
  simp only[Bool.or_eq_false_iff,decide_eq_false_iff_not] at h
  omega
 refine Cz (P:=af [] M) (p:=decide ((r.length:Int)<4)) (af.refl _ _) (fun _ k hk=>?_) fun M1 k1=>?_
 ·simpa only[go_sem] using hk M (af.refl _ _)
 rw[← hb1]
 refine Cz (P:=af [] M) (p:=!(r.take 3).all dG) k1 (fun hf k hk=>?_) fun M2 k2=>?_
 ·have:=Mc hf
  rw[show(N .i64 3)=N .i64 ((3:Nat) : Int) from rfl,dJ (by omega)]
  simp only[cz]
  refine ha1 (by simp; omega) fun M2 k2=>?_
  simp only[bO]
  exact hk M2 (k1.trans k2)
 rw[← hb2]
 refine Cz (P:=af [] M) (p:=(((r.getD 3 0).toNat:Int) != 32)) k2 (fun hf k hk=>?_) fun M3 k3=>?_
 ·have:=Mc (by rw[hb2,Bool.or_eq_false_iff] at hf; exact hf.1)
  rw[show(N .i64 3)=N .i64 ((3:Nat) : Int) from rfl,bK (by omega),dV]
  have:r.getD 3 0=r[3]:=by simp[List.getD_eq_getElem?_getD,List.getElem?_eq_getElem (show 3<r.length by omega)]
  rw[this] at hk
  exact hk _ k2
 rw[← hb3]
 refine Cz (P:=af [] M) (p:=!(r.drop 3).all p32) k3 (fun hf k hk=>?_) fun M4 k4=>?_
 ·have:=Mc (by
   rw[hb3,Bool.or_eq_false_iff] at hf
   have:=hf.1
   rw[hb2,Bool.or_eq_false_iff] at this; exact this.1)
  rw[show(N .i64 3)=N .i64 ((3:Nat) : Int) from rfl,di (by omega)]
  simp only[cz]
  refine ha2 (by simp; omega) fun M2 k2=>?_
  simp only[bO]
  exact hk M2 (k3.trans k2)
 rw[← hb4]
 refine aM (fun h=>?_) fun h=>?_
 ·exact h0 (by unfold gH; rw[h]; rfl) M4 (kb k4)
 ·have h':=h
  rw[hb4,Bool.or_eq_false_iff] at h'
  have h'':=h'.1
  rw[hb3,Bool.or_eq_false_iff] at h''
  have h3:=h''.1
  rw[hb2,Bool.or_eq_false_iff] at h3
  have hd:(r.take 3).all dG=true:=by simpa using h3.2
  have l4:=Mc h3.1
  rw[show(N .i64 3)=N .i64 ((3:Nat) : Int) from rfl,dJ (by omega)]
  simp only[cz]
  refine hi (by simp; omega) (by simp; omega) hd fun M5 k5=>?_
  have X5:=(k4.trans k5).aC hX hbr (by simp)
  have hcode:codeOf s=dN (r.take 3):=by unfold codeOf; rw[hr]
  rw[← hcode]
  simp only[bz,bu]
  rw[iE,eQ [N .i64 (codeOf s:Int),aA,aA] X5 (by simp) rfl rfl rfl]
  have k6:af [br] M (M5.put br (.row [N .i64 (codeOf s:Int),aA,aA] false T 0)):=(kb (k4.trans k5)).put _ (.inr (by simp))
  have X6:(M5.put br (.row [N .i64 (codeOf s:Int),aA,aA] false T 0)).heap br=some (GG T s):=aB _
  generalize M5.put br (.row [N .i64 (codeOf s:Int),aA,aA] false T 0)=M6 at *
  have ld:∀ {K' : AV→Prop},ax M6 (.ptr br 0) K'=K' (N .i64 (codeOf s:Int)):=fun {K'} => aK X6 rfl
  rw[iE,ld,bL]
  try simp only[bS]
  refine gp (p:=decide ((codeOf s:Int)≤599)) (fun _ k hk=>?_) ?_
  ·rw[iE,ld]
   simpa only[go_sem] using hk
  ·have hp:gH s=(decide ((codeOf s:Int) ≥ 100) && decide ((codeOf s:Int)≤599)):=by unfold gH; rw[h]; rfl
   rw[← hp]
   cases hv:gH s with
   | false=>exact h0 hv _ k6
   | true=>exact h1 hv _ k6 X6
theorem JE {s:Str} {h:Hd} (e:dZ s=some h) : h.1.length≤s.length∧h.2.length≤s.length:=by
 unfold dZ at e
 split at e
 ·cases e
 ·rename_i a b hb
  have:=EN hb
  have:=uj b
  split at e
  ·cases e; exact⟨by show a.length≤_; omega,by show(trimB b).length≤_; omega⟩
  ·cases e
theorem Nb {b s:Str} {at' n:Nat} (e:jZ b at'=.ok (s,n)) : s.length≤2048:=by
 unfold jZ at e
 split at e
 ·rename_i p hp
  cases e
  obtain⟨a,r⟩:=p
  have:=(mR hp).2
  simp at this
  show a.length≤2048
  omega
 ·split at e <;> cases e
theorem Ng (b:Str) : ∀ (f at' : Nat) (l l' : List Hd) (n:Nat),(∀ h∈l,h.1.length≤2048∧h.2.length≤2048)→hloop b f at' l=.ok (l',n)→∀ h∈l',h.1.length≤2048∧h.2.length≤2048:=by
 intro f
 induction f with
 | zero =>
   intro at' l l' n hl e
   rw[j3] at e
   split at e
   ·cases e
   ·split at e
    ·cases e; exact hl
    ·cases e
 | succ f ih =>
   intro at' l l' n hl e
   rw[j3] at e
   split at e
   ·cases e
   ·rename_i s n' hL
    split at e
    ·cases e; exact hl
    ·dsimp only at e
     split at e
     ·cases e
     ·rename_i h hh
      refine ih _ _ _ _ (fun x hx=>?_) e
      rcases List.mem_append.1 hx with hx | hx
      ·exact hl x hx
      ·have:x=h:=by simpa using hx
       subst this
       have h1:=JE hh
       have h2:=Nb hL
       exact⟨by omega,by omega⟩
theorem FJ {p:Str→Bool} {b s:Str} {l:List Hd} {n:Nat} (e:headD p b=.ok (s,l,n)) : (∀ h∈l,h.1.length≤2048∧h.2.length≤2048)∧p s=true:=by
 unfold headD at e
 split at e
 ·cases e
 ·split at e
  ·cases e
  ·split at e
   ·cases e
   ·rename_i hh
    cases e
    exact⟨Ng b _ _ _ _ _ (by simp) hh,by assumption⟩
def kF (b:Str) : Except Nat ((Str × Str × List Hd × Str) × Str):=match headD mM b with
 | .error e=>.error e
 | .ok (s,l,at')=>match nX (b.drop at') l with
   | .error e=>.error e
   | .ok (out,r)=>match dw s with
     | some (m,p)=>.ok ((m,p,l,out),r)
     | none=>.error 14
def HY (B:Base) (TH T8:Nat) (c:ak) : Prop:=∀ {M:RM} {v:AV} {b:Str} {Q:ai},M.base=B→Bs M v b→b.length≤1000000000 →
 (∀ m p l out r at2 hv ov M',kF b=.ok ((m,p,l,out),r)→at2≤b.length→b.drop at2=r→out.length≤16384→l.length≤32→(∀ h∈l,h.1.length≤2048∧h.2.length≤2048)→af [] M M'→Ow HD M' M.next TH hv l→Ow BY M' M.next T8 ov out →
  Q (.tup [.agg [St m,St p,hv,ov],N .i64 (at2:Int),N .i64 0]) M') →
 (∀ (e:Nat) M',kF b=.error e→(e=14∨e=15∨e=2)→af [] M M'→Q (.tup [.agg [St [],St [],aA,aA],N .i64 0,N .i64 (e:Int)]) M')→c [v] M Q
theorem tZ {br:Nat} {M M0 M1:RM} (k0:af [] M M0) (h:af [br] M0 M1) (hb:M.next≤br) : af [] M M1 :=
 ⟨h.base.trans k0.base,Nat.le_trans k0.next h.next,fun x hx _=>by rw[h.heap x (Nat.lt_of_lt_of_le hx k0.next) (fun e=>by simp at e; omega),k0.heap x hx (by simp)]⟩
theorem Bs.lt {M:RM} {v:AV} {b:Str} (h:Bs M v b) : ∀ x∈aW v,x<M.next:=aJ.lt h.sl
theorem Jd {B:Base} {T TH T8 g:Nat} {ch cb:ak} (hH:∀ br,GI B (.fn (.func g) [] [.ptr br 0]) mM br (jP T [] []) (IL T) TH ch) (hb:Gp B T8 cb) : HY B TH T8 fun args M Q=>∃ a0,args=[a0]∧jE T g ch cb a0 M Q:=by
 intro M v b Q hB hv hl hQ hE
 refine⟨_,rfl, ?_⟩
 unfold jE
 simp only[aV]
 have k0:af [] M ((M.push (jP T [] [])).push (jP T [] [])):=((af.refl _ _).push _).push _
 have a2:((M.push (jP T [] [])).push (jP T [] [])).heap M.next=some (jP T [] []):=by simp[RM.push]
 have a5:((M.push (jP T [] [])).push (jP T [] [])).heap (M.push (jP T [] [])).next=some (jP T [] []):=by simp[RM.push]
 have e5:(M.push (jP T [] [])).next=M.next + 1:=rfl
 have n0:((M.push (jP T [] [])).push (jP T [] [])).next=M.next + 2:=rfl
 rw[e5] at a5 ⊢
 generalize (M.push (jP T [] [])).push (jP T [] [])=M0 at *
 have hv0:=hv.keep k0 (by simp)
 have err:∀ (e:Nat) (M1:RM),af [M.next + 1] M0 M1→kF b=.error e→(e=14∨e=15∨e=2) →
   dC [(St []),(St []),(.sc (.slice none 0 0)),(.sc (.slice none 0 0))] [] fun t18=>az M1 (.ptr M.next 0) t18 4 fun M_2=>aL M_2 (.ptr M.next 0) 4 fun res=>Q (.tup [res,(N .i64 0),N .i64 (e:Int)]) M_2:=by
  intro e M1 k1 he1 he
  rw[eu]
  refine⟨_,rfl, ?_⟩
  have n1:=k1.aC a2 (by omega) (by simp)
  rw[dQ n1 (by rfl) (by rfl) (by rfl),aQ (aB _) (by rfl)]
  exact hE e _ he1 he ((tZ k0 k1 (by omega)).new _ (Nat.le_refl _))
 refine hH (M.next + 1) (k0.base.trans hB) hv0 hl (by omega) (fun hx=>by have:=hv.lt _ hx; omega) a5 (fun e M1 h1 he k1=>?_) (fun s l at' hv' M1 h1 hat hs hll k1 X1 o1=>?_)
 ·simp only[bz,bu,eH,dV]
  rw[show(((e:Nat) : Int) != 0)=true by rcases he with rfl | rfl | rfl <;> rfl,bN]
  exact err e M1 k1 (by unfold kF; rw[h1]) (by omega)
 obtain⟨hlen,hp⟩:=FJ h1
 simp only[bz,bu,eH,BS,aX,gm]
 obtain⟨⟨m,p⟩,hmp⟩ : ∃ q,dw s=some q:=by unfold mM at hp; exact Option.isSome_iff_exists.1 hp
 have X1' : M1.heap (M.next + 1)=some (jP T m p):=by rw[X1]; unfold IL; rw[hmp]
 have hone:oneCell hv'=true:=Own.one o1
 have hcell:hv'.cells=[hv']:=Own.cells o1
 simp only[Nat.zero_add]
 rw[eQ [St m,St p,hv',aA] X1' (by simp) hcell hone rfl]
 have k2:af [M.next + 1] M0 (M1.put (M.next + 1) (.row [St m,St p,hv',aA] false T 0)):=k1.put _ (.inr (by simp))
 have X2:(M1.put (M.next + 1) (.row [St m,St p,hv',aA] false T 0)).heap (M.next + 1)=some (.row [St m,St p,hv',aA] false T 0):=aB _
 have o2:Ow HD (M1.put (M.next + 1) (.row [St m,St p,hv',aA] false T 0)) M0.next TH hv' l:=Own.keep o1 ((af.refl [M.next + 1] M1).put _ (.inr (by simp))) (fun x hx hm=>by
  have:=(Own.blk o1 x hx).1
  simp at hm; omega)
 generalize M1.put (M.next + 1) (.row [St m,St p,hv',aA] false T 0)=M2 at *
 have k02:=tZ k0 k2 (by omega)
 refine hb (k02.base.trans hB) (hv.keep k02 (by simp)) hat hl (Own.jc o2) (by omega) (fun h hx=>by have:=hlen h hx; omega) (fun out r at2 ov M3 e3 ha2 ha3 hr ho k3 o3=>?_) (fun e M3 e3 he k3=>?_)
 ·simp only[bz,bu,eH,BS,aX,gm,Nat.zero_add]
  have X3:=k3.aC X2 (Nat.lt_of_lt_of_le (by omega) k2.next) (by simp)
  rw[eQ [St m,St p,hv',ov] X3 (by simp) (Own.cells o3) (Own.one o3) rfl]
  have n3:=(k2.trans (k3.mono (by simp))).aC a2 (by omega) (by simp)
  rw[aQ (aB _) (by rfl),dQ (eP n3 (by omega)) (by rfl) (by rfl) (by have:=Own.one o3; simp only[List.all_cons,List.all_nil,hone,this]; rfl),aQ (aB _) (by rfl)]
  have k4:af [] M (((M3.put (M.next + 1) (.row [St m,St p,hv',ov] false T 0))).put M.next (.row [St m,St p,hv',ov] false T 0)):=((k02.trans k3).new _ (by omega)).new _ (Nat.le_refl _)
  have k34:af [M.next,M.next + 1] M3 (((M3.put (M.next + 1) (.row [St m,St p,hv',ov] false T 0))).put M.next (.row [St m,St p,hv',ov] false T 0)):=((af.refl _ _).put _ (.inr (by simp))).put _ (.inr (by simp))
  refine hQ m p l out r at2 hv' ov _ (by unfold kF; rw[h1]; dsimp only; rw[e3,hmp]) ha2 hr ho hll hlen k4 ?_ ?_
  ·have o2' : Ow HD M3 M0.next TH hv' l:=Own.keep o2 k3 (by simp)
   refine Own.mono (Own.keep o2' k34 (fun x hx hm=>?_)) k0.next
   have:=(Own.blk o2' x hx).1
   simp at hm; omega
  ·refine Own.mono (Own.keep o3 k34 (fun x hx hm=>?_)) k02.next
   have:=(Own.blk o3 x hx).1
   have:=k2.next
   simp at hm; omega
 ·simp only[bz,bu,eH,gm,Nat.zero_add]
  have X3:=k3.aC X2 (Nat.lt_of_lt_of_le (by omega) k2.next) (by simp)
  rw[eQ [St m,St p,hv',aA] X3 (by simp) rfl rfl rfl,dV,show(((e:Nat) : Int) != 0)=true by rcases he with rfl | rfl | rfl <;> rfl,bN]
  exact err e _ ((k2.trans (k3.mono (by simp))).put _ (.inr (by simp))) (by unfold kF; rw[h1]; dsimp only; rw[e3]) (by omega)
def ku (b:Str) : Except Nat ((Nat × List Hd × Str) × Str):=match headD gH b with
 | .error e=>.error e
 | .ok (s,l,at')=>match nX (b.drop at') l with
   | .error e=>.error e
   | .ok (out,r)=>.ok ((codeOf s,l,out),r)
def Fq (B:Base) (TH T8:Nat) (c:ak) : Prop:=∀ {M:RM} {v:AV} {b:Str} {Q:ai},M.base=B→Bs M v b→b.length≤1000000000 →
 (∀ n l out r at2 hv ov M',ku b=.ok ((n,l,out),r)→at2≤b.length→b.drop at2=r→out.length≤16384→l.length≤32→(∀ h∈l,h.1.length≤2048∧h.2.length≤2048)→af [] M M'→Ow HD M' M.next TH hv l→Ow BY M' M.next T8 ov out →
  Q (.tup [.agg [N .i64 (n:Int),hv,ov],N .i64 (at2:Int),N .i64 0]) M') →
 (∀ (e:Nat) M',ku b=.error e→(e=14∨e=15∨e=2)→af [] M M'→Q (.tup [.agg [N .i64 0,aA,aA],N .i64 0,N .i64 (e:Int)]) M')→c [v] M Q
theorem Gh {B:Base} {T TH T8 g:Nat} {ch cb:ak} (hH:∀ br,GI B (.fn (.func g) [] [.ptr br 0]) gH br (iM T 0) (GG T) TH ch) (hb:Gp B T8 cb) : Fq B TH T8 fun args M Q=>∃ a0,args=[a0]∧je T g ch cb a0 M Q:=by
 intro M v b Q hB hv hl hQ hE
 refine⟨_,rfl, ?_⟩
 unfold je
 simp only[aV]
 have k0:af [] M ((M.push (iM T 0)).push (iM T 0)):=((af.refl _ _).push _).push _
 have a2:((M.push (iM T 0)).push (iM T 0)).heap M.next=some (iM T 0):=by simp[RM.push]
 have a5:((M.push (iM T 0)).push (iM T 0)).heap (M.push (iM T 0)).next=some (iM T 0):=by simp[RM.push]
 have e5:(M.push (iM T 0)).next=M.next + 1:=rfl
 have n0:((M.push (iM T 0)).push (iM T 0)).next=M.next + 2:=rfl
 rw[e5] at a5 ⊢
 generalize (M.push (iM T 0)).push (iM T 0)=M0 at *
 have hv0:=hv.keep k0 (by simp)
 have err:∀ (e:Nat) (M1:RM),af [M.next + 1] M0 M1→ku b=.error e→(e=14∨e=15∨e=2) →
   dC [(N .i64 0),(.sc (.slice none 0 0)),(.sc (.slice none 0 0))] [] fun t18=>az M1 (.ptr M.next 0) t18 3 fun M_2=>aL M_2 (.ptr M.next 0) 3 fun res=>Q (.tup [res,(N .i64 0),N .i64 (e:Int)]) M_2:=by
  intro e M1 k1 he1 he
  rw[eu]
  refine⟨_,rfl, ?_⟩
  have n1:=k1.aC a2 (by omega) (by simp)
  rw[dQ n1 (by rfl) (by rfl) (by rfl),aQ (aB _) (by rfl)]
  exact hE e _ he1 he ((tZ k0 k1 (by omega)).new _ (Nat.le_refl _))
 refine hH (M.next + 1) (k0.base.trans hB) hv0 hl (by omega) (fun hx=>by have:=hv.lt _ hx; omega) a5 (fun e M1 h1 he k1=>?_) (fun s l at' hv' M1 h1 hat hs hll k1 X1 o1=>?_)
 ·simp only[bz,bu,eH,dV]
  rw[show(((e:Nat) : Int) != 0)=true by rcases he with rfl | rfl | rfl <;> rfl,bN]
  exact err e M1 k1 (by unfold ku; rw[h1]) (by omega)
 obtain⟨hlen,hp⟩:=FJ h1
 simp only[bz,bu,eH,BS,aX,gm]
 have X1' : M1.heap (M.next + 1)=some (iM T (codeOf s)):=X1
 have hone:oneCell hv'=true:=Own.one o1
 have hcell:hv'.cells=[hv']:=Own.cells o1
 simp only[Nat.zero_add]
 rw[eQ [N .i64 (codeOf s:Int),hv',aA] X1' (by simp) hcell hone rfl]
 have k2:af [M.next + 1] M0 (M1.put (M.next + 1) (.row [N .i64 (codeOf s:Int),hv',aA] false T 0)):=k1.put _ (.inr (by simp))
 have X2:(M1.put (M.next + 1) (.row [N .i64 (codeOf s:Int),hv',aA] false T 0)).heap (M.next + 1)=some (.row [N .i64 (codeOf s:Int),hv',aA] false T 0):=aB _
 have o2:Ow HD (M1.put (M.next + 1) (.row [N .i64 (codeOf s:Int),hv',aA] false T 0)) M0.next TH hv' l:=Own.keep o1 ((af.refl [M.next + 1] M1).put _ (.inr (by simp))) (fun x hx hm=>by
  have:=(Own.blk o1 x hx).1
  simp at hm; omega)
 generalize M1.put (M.next + 1) (.row [N .i64 (codeOf s:Int),hv',aA] false T 0)=M2 at *
 have k02:=tZ k0 k2 (by omega)
 refine hb (k02.base.trans hB) (hv.keep k02 (by simp)) hat hl (Own.jc o2) (by omega) (fun h hx=>by have:=hlen h hx; omega) (fun out r at2 ov M3 e3 ha2 ha3 hr ho k3 o3=>?_) (fun e M3 e3 he k3=>?_)
 ·simp only[bz,bu,eH,BS,aX,gm,Nat.zero_add]
  have X3:=k3.aC X2 (Nat.lt_of_lt_of_le (by omega) k2.next) (by simp)
  rw[eQ [N .i64 (codeOf s:Int),hv',ov] X3 (by simp) (Own.cells o3) (Own.one o3) rfl]
  have n3:=(k2.trans (k3.mono (by simp))).aC a2 (by omega) (by simp)
  rw[aQ (aB _) (by rfl),dQ (eP n3 (by omega)) (by rfl) (by rfl) (by have:=Own.one o3; simp only[List.all_cons,List.all_nil,hone,this]; rfl),aQ (aB _) (by rfl)]
  have k4:af [] M (((M3.put (M.next + 1) (.row [N .i64 (codeOf s:Int),hv',ov] false T 0))).put M.next (.row [N .i64 (codeOf s:Int),hv',ov] false T 0)):=((k02.trans k3).new _ (by omega)).new _ (Nat.le_refl _)
  have k34:af [M.next,M.next + 1] M3 (((M3.put (M.next + 1) (.row [N .i64 (codeOf s:Int),hv',ov] false T 0))).put M.next (.row [N .i64 (codeOf s:Int),hv',ov] false T 0)):=((af.refl _ _).put _ (.inr (by simp))).put _ (.inr (by simp))
  refine hQ (codeOf s) l out r at2 hv' ov _ (by unfold ku; rw[h1]; dsimp only; rw[e3]) ha2 hr ho hll hlen k4 ?_ ?_
  ·have o2' : Ow HD M3 M0.next TH hv' l:=Own.keep o2 k3 (by simp)
   refine Own.mono (Own.keep o2' k34 (fun x hx hm=>?_)) k0.next
   have:=(Own.blk o2' x hx).1
   simp at hm; omega
  ·refine Own.mono (Own.keep o3 k34 (fun x hx hm=>?_)) k02.next
   have:=(Own.blk o3 x hx).1
   have:=k2.next
   simp at hm; omega
 ·simp only[bz,bu,eH,gm,Nat.zero_add]
  have X3:=k3.aC X2 (Nat.lt_of_lt_of_le (by omega) k2.next) (by simp)
  rw[eQ [N .i64 (codeOf s:Int),hv',aA] X3 (by simp) rfl rfl rfl,dV,show(((e:Nat) : Int) != 0)=true by rcases he with rfl | rfl | rfl <;> rfl,bN]
  exact err e _ ((k2.trans (k3.mono (by simp))).put _ (.inr (by simp))) (by unfold ku; rw[h1]; dsimp only; rw[e3]) (by omega)
end Go.Ab.Hw
namespace Go.Ab.Hw
open Go Go.Ab Go.Ab.Sm
def zK (h:Hd) : Bool:=!(!eY h.1 || !dW h.2 || low h.1 == iq || low h.1 == fC)
def AX (h:Hd) : Str:=h.1++[58,32]++h.2++[13,10]
def wS (first:Str) (l:List Hd) : Str:=first++[13,10]++l.flatMap AX
def rW (first:Str) (l:List Hd) (more:Hd) : Str:=wS first l++(AX more++[13,10])
def Ep (l:List Hd) (s:Str) (sz:Nat) : Bool:=decide (((l.length + 1:Nat) : Int) > 32) || decide ((s.length:Int) > 2048) || decide ((sz:Int) > 16384)
def iX (first:Str) (l:List Hd) (more:Hd) (sz:Nat) (body:Str) : Except Nat Str:=match l.all zK with
 | false=>.error 1
 | true=>match Ep l (rW first l more) sz with
   | true=>.error 2
   | false=>.ok (rW first l more++body)
theorem IG:∀ (l:List Hd) (k:Nat),(∀ h∈l,h.1.length≤k∧h.2.length≤k)→(l.flatMap AX).length≤l.length * (2 * k + 4)
 | [],k,_=>by simp
 | h :: l,k,hk=>by
   have:=IG l k fun x hx=>hk x (.tail _ hx)
   have h0:=hk h (.head _)
   rw[List.flatMap_cons,List.length_append,List.length_cons,Nat.succ_mul]
   have:(AX h).length=h.1.length + h.2.length + 4:=by unfold AX; simp; omega
   omega
def su (B:Base) (T:Nat) (c:ak) : Prop:=∀ {M:RM} {v bv:AV} {first body:Str} {l:List Hd} {more:Hd} {sz:Nat} {Q:ai},M.base=B→Sl HD M v l→l.length≤1000→(∀ h∈l,h.1.length≤281474976710656∧h.2.length≤281474976710656) →
 first.length≤1000000→more.1.length≤1000000→more.2.length≤1000000→Sl BY M bv body→body.length≤1000000000 →
 (∀ s v' M',iX first l more sz body=.ok s→s.length≤2048 + body.length→af [] M M'→Ow BY M' M.next T v' s→Q (.tup [v',N .i64 0]) M')→(∀ (e:Nat) M',iX first l more sz body=.error e→(e=1∨e=2)→af [] M M'→Q (.tup [aA,N .i64 (e:Int)]) M') →
 c [St first,v,.agg [St more.1,St more.2],N .i64 (sz:Int),bv] M Q
theorem Jn {B:Base} {TH T:Nat} {cn cv cs:ak} (hn:fP eY cn) (hg:DU B dW cv) (hs:uW cs) :
  su B T fun args M Q=>∃ a0 a1 a2 a3 a4,args=[a0,a1,a2,a3,a4]∧lh TH cn cv cs T a0 a1 a2 a3 a4 M Q:=by
 intro M v bv first body l more sz Q hB hv hll hle hf hm1 hm2 hbv hbl hQ hE
 refine⟨_,_,_,_,_,rfl, ?_⟩
 unfold lh
 rw[iV rfl (by simp)]
 simp only[aV]
 have k0:af [] M (M.push (.row [St more.1,St more.2] false TH 0)):=(af.refl _ _).push _
 have n0:(M.push (.row [St more.1,St more.2] false TH 0)).heap M.next=some (.row [St more.1,St more.2] false TH 0):=by simp[RM.push]
 have l0:M.next<(M.push (.row [St more.1,St more.2] false TH 0)).next:=by simp[RM.push]
 generalize M.push (.row [St more.1,St more.2] false TH 0)=M0 at *
 rw[dz]
 refine⟨by simp; omega, ?_⟩
 rw[aJ.len hv]
 refine aZ (fun m ys M3=>∃ i:Nat,m=l.length - i∧ys=[St (wS first (l.take i)),N .i64 (i:Int)]∧i≤l.length∧(l.take i).all zK=true∧af [] M0 M3) _
  ⟨0,rfl,by simp[wS],Nat.zero_le _,rfl,af.refl _ _⟩ ?_
 rintro next m ys M3 hnext ⟨i,rfl,rfl,hi,hA,k3⟩
 simp only[aN,cK,iO]
 have k03:=k0.trans k3
 have hv3:Sl HD M3 v l:=aJ.keep hv k03 (by simp)
 have hlen:(wS first (l.take i)).length≤1000002 + 1000 * (2 * 281474976710656 + 4):=by
  have:=IG (l.take i) 281474976710656 fun h hh=>hle h (List.mem_of_mem_take hh)
  have h2:(l.take i).length≤1000:=by simp; omega
  have h3:=Nat.mul_le_mul_right (2 * 281474976710656 + 4) h2
  unfold wS
  simp only[List.length_append,List.length_cons,List.length_nil]
  omega
 refine aM (fun h=>?_) fun h=>?_
 ·have hlt:i<l.length:=by simpa using h
  obtain⟨b,off,hb,_,hix,hld⟩:=hv3.at 2 (i:Int) hlt
  have hhl:=hle l[i] (List.getElem_mem hlt)
  rw[hix,qm]
  refine⟨_,hld, ?_⟩
  try simp only[aV]
  have n4:(M3.push (.row [St [],St []] false TH 0)).heap M3.next=some (.row [St [],St []] false TH 0):=by simp[RM.push]
  rw[dQ n4 (by rfl) (by rfl) (by rfl)]
  have k4:af [] M3 ((M3.push (.row [St [],St []] false TH 0)).put M3.next (.row (HD.cells l[i]) false TH 0)):=((af.refl _ _).push _).new _ (Nat.le_refl _)
  have n5:((M3.push (.row [St [],St []] false TH 0)).put M3.next (.row (HD.cells l[i]) false TH 0)).heap M3.next=some (.row (HD.cells l[i]) false TH 0):=aB _
  have l5:M3.next<((M3.push (.row [St [],St []] false TH 0)).put M3.next (.row (HD.cells l[i]) false TH 0)).next:=by simp[RM.push,RM.put]
  generalize (M3.push (.row [St [],St []] false TH 0)).put M3.next (.row (HD.cells l[i]) false TH 0)=M4 at *
  have ld0:∀ {M' : RM} (k:af [] M4 M') {K' : AV→Prop},ax M' (.ptr M3.next 0) K'=K' (St l[i].1):=fun k=>aK (k.aC n5 l5 (by simp)) rfl
  have ld1:∀ {M' : RM} (k:af [] M4 M') {K' : AV→Prop},ax M' (.ptr M3.next 1) K'=K' (St l[i].2):=fun k=>aK (k.aC n5 l5 (by simp)) rfl
  simp only[iE,bS]
  rw[ld0 (af.refl _ _)]
  have kM4:af [] M M4:=k03.trans k4
  refine hn (by omega) fun M5 k5=>?_
  simp only[bO]
  refine Cz (P:=af [] M4) (p:=!dW l[i].2) k5 (fun _ k hk=>?_) fun M6 k6=>?_
  ·rw[ld1 k5]
   refine hg ((kM4.trans k5).base.trans hB) (by omega) fun M6 k6=>?_
   simp only[bO]
   exact hk M6 (k5.trans k6)
  refine Cz (P:=af [] M4) (p:=low l[i].1 == iq) k6 (fun _ k hk=>?_) fun M7 k7=>?_
  ·rw[ld0 k6]
   refine hs (by omega) fun M7 k7=>?_
   simp only[eX]
   exact hk M7 (k6.trans k7)
  refine Cz (P:=af [] M4) (p:=low l[i].1 == fC) k7 (fun _ k hk=>?_) fun M8 k8=>?_
  ·rw[ld0 k7]
   refine hs (by omega) fun M8 k8=>?_
   simp only[eX]
   exact hk M8 (k7.trans k8)
  have hok:zK l[i]=!(!eY l[i].1 || !dW l[i].2 || low l[i].1 == iq || low l[i].1 == fC):=rfl
  have htk:(l.take (i + 1)).all zK=zK l[i]:=by
   rw[List.take_succ_eq_append_getElem hlt,List.all_append,hA]; simp
  refine aM (fun h=>?_) fun h=>?_
  ·have hbad:zK l[i]=false:=by rw[hok,h]; rfl
   refine hE 1 M8 ?_ (.inl rfl) (kM4.trans k8)
   have:l.all zK=false:=by
    rw[← List.take_append_drop (i + 1) l,List.all_append,htk,hbad]; rfl
   unfold iX; rw[this]
  ·have hgd:zK l[i]=true:=by rw[hok,h]; rfl
   rw[ld0 k8,dz]
   refine⟨by simp; omega, ?_⟩
   rw[ld1 k8,dz]
   refine⟨by simp; omega, ?_⟩
   rw[dz]
   refine⟨by simp; omega, ?_⟩
   rw[dz]
   refine⟨by simp; omega, ?_⟩
   rw[add1 (by omega)]
   refine hnext _ _ _ (by omega) ⟨i + 1,rfl, ?_,by omega,by rw[htk,hgd],k3.trans (k4.trans k8)⟩
   congr 2
   unfold wS
   rw[List.take_succ_eq_append_getElem hlt,List.flatMap_append]
   simp[AX]
 ·have:i=l.length:=by simp at h; omega
  subst this
  rw[List.take_length] at hA hlen
  have n3:=k3.aC n0 l0 (by simp)
  simp only[List.take_length,iE,bS]
  rw[aK n3 rfl,dz]
  refine⟨by simp; omega, ?_⟩
  rw[aK n3 (by rfl:([St more.1,St more.2] : List AV)[1]?=some (St more.2)),dz]
  refine⟨by simp; omega, ?_⟩
  rw[dz]
  refine⟨by simp; omega, ?_⟩
  rw[dz]
  refine⟨by simp; omega, ?_⟩
  rw[dz]
  refine⟨by simp; omega, ?_⟩
  have hs:wS first l++(more.1++[58,32]++more.2++[13,10]++[13,10])=rW first l more:=rfl
  rw[hs,aJ.len hv,add1 (by omega),show(N .i64 32)=N .i64 ((32:Nat) : Int) from rfl,bG]
  refine mK (p:=decide (((rW first l more).length:Int) > 2048)) (fun _ k hk=>by simpa only[go_sem] using hk) ?_
  refine mK (p:=decide ((sz:Int) > 16384)) (fun _ k hk=>by simpa only[go_sem] using hk) ?_
  have ht:(decide (((l.length + 1:Nat) : Int) > ((32:Nat) : Int)) || decide (((rW first l more).length:Int) > 2048) || decide ((sz:Int) > 16384))=Ep l (rW first l more) sz:=rfl
  rw[ht]
  refine aM (fun h=>?_) fun h=>?_
  ·exact hE 2 M3 (by unfold iX; rw[hA]; simp only[h]) (.inr rfl) k03
  ·rw[gZ]
   simp only[aV]
   have k4:af [] M3 (M3.push (.row (BY.row (rW first l more)) true T 0)):=(af.refl _ _).push _
   have hal:(rW first l more).length≤2048:=by
    have h':=h
    unfold Ep at h'
    simp only[Bool.or_eq_false_iff,decide_eq_false_iff_not] at h'
    omega
   have o4:Ow BY (M3.push (.row (BY.row (rW first l more)) true T 0)) M3.next T (.slc M3.next 0 (rW first l more).length (.op 1)) (rW first l more) :=
    Own.op _ _ _ (Nat.le_refl _) (by simp[RM.push]) (RM.lJ _) (by rw[Enc.gB])
   refine nE (E:=BY) o4 k4.next (by decide) (aJ.keep (aJ.keep hbv k03 (by simp)) k4 (by simp)) (by omega) (by omega) fun v7 M7 o7 k7 _ _=>?_
   refine hQ _ v7 M7 (by unfold iX; rw[hA]; simp only[h]) (by simp; omega) ?_ (Own.mono o7 k03.next)
   refine af.own (k03.trans k4) k7 (fun x hx=>?_)
   have:=k03.next
   simp[aW] at hx; omega
def nJ (base:Nat) : Nat→Nat→Str
 | 0,_=>[]
 | f + 1,n=>match Nat.blt n base with
   | true=>[if n<10 then UInt8.ofNat (48 + n) else UInt8.ofNat (87 + n)]
   | false=>nJ base f (n / base)++[if n % base<10 then UInt8.ofNat (48 + n % base) else UInt8.ofNat (87 + n % base)]
def jb (n:Nat) : Str:=nJ 10 20 n
def gY (n:Nat) : Str:=nJ 16 20 n
def LD (B:Base) (c:ak) : Prop:=∀ {M:RM} {n:Nat} {Q:ai},M.base=B→n<1000000000000→(∀ M',af [] M M'→Q (St (jb n)) M')→c [N .i64 (n:Int)] M Q
def Eo (B:Base) (c:ak) : Prop:=∀ {M:RM} {n:Nat} {Q:ai},M.base=B→n<4294967296→(∀ M',af [] M M'→Q (St (gY n)) M')→c [N .i64 (n:Int),N .i64 16] M Q
theorem tL:∀ (base f n:Nat),(nJ base f n).length≤f
 | _,0,_=>by simp[nJ]
 | base,f + 1,n=>by
   rw[nJ]
   split
   ·simp
   ·have:=tL base f (n / base); simp; omega
abbrev pG:Str:=[67,111,110,116,101,110,116,45,76,101,110,103,116,104]
abbrev LC:Str:=[84,114,97,110,115,102,101,114,45,69,110,99,111,100,105,110,103]
def xN (B:Base) (c:ak) : Prop:=∀ {M:RM} {n:Nat} {Q:ai},M.base=B→n<1000000000000→(∀ M',af [] M M'→Q (.agg [St pG,St (jb n)]) M')→c [N .i64 (n:Int)] M Q
theorem Jf {B:Base} {T:Nat} {ci:ak} (hi:LD B ci) : xN B fun args M Q=>∃ a0,args=[a0]∧lQ T ci a0 M Q:=by
 intro M n Q hB hn hQ
 refine⟨_,rfl, ?_⟩
 unfold lQ
 simp only[aV]
 have k0:af [] M (M.push (.row [St [],St []] false T 0)):=(af.refl _ _).push _
 have n0:(M.push (.row [St [],St []] false T 0)).heap M.next=some (.row [St [],St []] false T 0):=by simp[RM.push]
 have l0:M.next<(M.push (.row [St [],St []] false T 0)).next:=by simp[RM.push]
 generalize M.push (.row [St [],St []] false T 0)=M0 at *
 refine hi (k0.base.trans hB) hn fun M1 k1=>?_
 rw[eu]
 refine⟨_,vM rfl rfl rfl rfl, ?_⟩
 rw[dQ (k1.aC n0 l0 (by simp)) (by rfl) (by rfl) (by rfl),aQ (aB _) (by rfl)]
 exact hQ _ ((k0.trans k1).new _ (Nat.le_refl _))
def mg (m p:Str) : Bool:=dY m && fo p
def xL (c:ak) : Prop:=∀ {M:RM} {m p:Str} {x y:AV} {Q:ai},oneCell x=true→oneCell y=true→m.length<4611686018427387904→p.length<4611686018427387904→(∀ M',af [] M M'→Q (Bo (mg m p)) M')→c [.agg [St m,St p,x,y]] M Q
theorem Jl {T:Nat} {cm cp:ak} (hm:fP dY cm) (hp:fP fo cp) : xL fun args M Q=>∃ a0,args=[a0]∧jC T cm cp a0 M Q:=by
 intro M m p x y Q hx hy h1 h2 hQ
 refine⟨_,rfl, ?_⟩
 unfold jC
 rw[iV (by simp only[List.all_cons,List.all_nil,hx,hy]; rfl) (by simp)]
 simp only[aV,bS]
 have k0:af [] M (M.push (.row [St m,St p,x,y] false T 0)):=(af.refl _ _).push _
 have n0:(M.push (.row [St m,St p,x,y] false T 0)).heap M.next=some (.row [St m,St p,x,y] false T 0):=by simp[RM.push]
 have l0:M.next<(M.push (.row [St m,St p,x,y] false T 0)).next:=by simp[RM.push]
 generalize M.push (.row [St m,St p,x,y] false T 0)=M0 at *
 rw[iE,aK n0 rfl]
 refine hm h1 fun M1 k1=>?_
 refine DF (P:=af [] M) (p:=fo p) (k0.trans k1) (fun _ k hk=>?_) hQ
 rw[iE,aK (k1.aC n0 l0 (by simp)) rfl]
 exact hp h2 fun M2 k2=>hk M2 (k0.trans (k1.trans k2))
def Gw (m p:Str) : Str:=m++[32]++p++[32]++uU
def pu (m p:Str) (l:List Hd) (body:Str) : Except Nat Str:=match mg m p with
 | false=>.error 1
 | true=>iX (Gw m p) l (pG,jb body.length) body.length body
theorem I8 {m p:Str} (h:mg m p=true) : m.length≤8∧p.length≤201:=by
 unfold mg dY fo fM at h
 simp only[Bool.and_eq_true,decide_eq_true_eq] at h
 omega
def FR (B:Base) (T:Nat) (c:ak) : Prop:=∀ {M:RM} {hv bv:AV} {m p body:Str} {l:List Hd} {Q:ai},M.base=B→Sl HD M hv l→l.length≤1000→(∀ h∈l,h.1.length≤281474976710656∧h.2.length≤281474976710656) →
 m.length≤281474976710656→p.length≤281474976710656→Sl BY M bv body→body.length≤1000000000 →
 (∀ s v' M',pu m p l body=.ok s→s.length≤2048 + body.length→af [] M M'→Ow BY M' M.next T v' s→Q (.tup [v',N .i64 0]) M')→(∀ (e:Nat) M',pu m p l body=.error e→(e=1∨e=2)→af [] M M'→Q (.tup [aA,N .i64 (e:Int)]) M') →
 c [.agg [St m,St p,hv,bv]] M Q
theorem F6 {B:Base} {T T8:Nat} {cg cc cp:ak} (hg:xL cg) (hc:xN B cc) (hp:su B T8 cp) : FR B T8 fun args M Q=>∃ a0,args=[a0]∧jf T cg cc cp a0 M Q:=by
 intro M hv bv m p body l Q hB hh hll hle hm hpl hb hbl hQ hE
 refine⟨_,rfl, ?_⟩
 unfold jf
 have ohv:=aJ.one hh
 have obv:=aJ.one hb
 rw[iV (by simp only[List.all_cons,List.all_nil,ohv,obv]; rfl) (by simp)]
 simp only[aV]
 have k0:af [] M (M.push (.row [St m,St p,hv,bv] false T 0)):=(af.refl _ _).push _
 have n0:(M.push (.row [St m,St p,hv,bv] false T 0)).heap M.next=some (.row [St m,St p,hv,bv] false T 0):=by simp[RM.push]
 have l0:M.next<(M.push (.row [St m,St p,hv,bv] false T 0)).next:=by simp[RM.push]
 generalize M.push (.row [St m,St p,hv,bv] false T 0)=M0 at *
 rw[aQ n0 (by rfl)]
 refine hg ohv obv (by omega) (by omega) fun M1 k1=>?_
 have n1:=k1.aC n0 l0 (by simp)
 have l1:=Nat.lt_of_lt_of_le l0 k1.next
 have k01:=k0.trans k1
 simp only[bO]
 refine aM (fun h=>?_) fun h=>?_
 ·have hk:mg m p=false:=by simpa using h
  exact hE 1 M1 (by unfold pu; rw[hk]) (.inl rfl) k01
 have hk:mg m p=true:=by simpa using h
 obtain⟨q1,q2⟩:=I8 hk
 have e:pu m p l body=iX (Gw m p) l (pG,jb body.length) body.length body:=by unfold pu; rw[hk]
 rw[e] at hQ hE
 have ld0:∀ {M' : RM} (k:af [] M1 M') {K' : AV→Prop},ax M' (.ptr M.next 0) K'=K' (St m):=fun k=>aK (k.aC n1 l1 (by simp)) rfl
 have ld1:∀ {M' : RM} (k:af [] M1 M') {K' : AV→Prop},ax M' (.ptr M.next 1) K'=K' (St p):=fun k=>aK (k.aC n1 l1 (by simp)) rfl
 have ld2:∀ {M' : RM} (k:af [] M1 M') {K' : AV→Prop},ax M' (.ptr M.next 2) K'=K' hv:=fun k=>aK (k.aC n1 l1 (by simp)) rfl
 have ld3:∀ {M' : RM} (k:af [] M1 M') {K' : AV→Prop},ax M' (.ptr M.next 3) K'=K' bv:=fun k=>aK (k.aC n1 l1 (by simp)) rfl
 simp only[iE,ld0 (af.refl _ M1),ld1 (af.refl _ M1),ld2 (af.refl _ M1),ld3 (af.refl _ M1)]
 rw[dz]
 refine⟨by simp; omega, ?_⟩
 rw[dz]
 refine⟨by simp; omega, ?_⟩
 rw[dz]
 refine⟨by simp; omega, ?_⟩
 rw[dz]
 refine⟨by simp; omega, ?_⟩
 rw[aJ.len hb,aJ.len hb]
 refine hc (n:=body.length) (k01.base.trans hB) (by omega) fun M2 k2=>?_
 have k02:=k01.trans k2
 rw[ld0 k2]; refine⟨rfl, ?_⟩
 rw[ld1 k2]; refine⟨rfl, ?_⟩
 rw[ld2 k2]; refine⟨rfl, ?_⟩
 rw[ld3 k2]; refine⟨rfl, ?_⟩
 rw[ld3 k2]; refine⟨rfl, ?_⟩
 have hil:(jb body.length).length≤20:=tL _ _ _
 refine hp (more:=(pG,jb body.length)) (k02.base.trans hB) (aJ.keep hh k02 (by simp)) hll hle (by simp; omega) (by simp) (by simpa using (by omega:(jb body.length).length≤1000000)) (aJ.keep hb k02 (by simp)) hbl (fun s v' M3 e3 hl3 k3 o3=>?_) (fun e' M3 e3 he k3=>?_)
 ·simp only[bz,bu]
  exact hQ s v' M3 e3 hl3 (k02.trans k3) (Own.mono o3 k02.next)
 ·simp only[bz,bu]
  exact hE e' M3 e3 he (k02.trans k3)
def EK (n:Int) : Bool:=decide (n<100) || decide (n > 599)
def zP (n:Int) : Str:=if (n.tdiv 100 == 2)=true then[79,75] else[78,111]
def Gv (n:Int) : Str:=vS++jb n.toNat++[32]++zP n
def lc (n:Int) (l:List Hd) (body:Str) : Except Nat Str:=match EK n with
 | true=>.error 1
 | false=>iX (Gv n) l (pG,jb body.length) body.length body
def Dz (B:Base) (T:Nat) (c:ak) : Prop:=∀ {M:RM} {hv bv:AV} {n:Int} {body:Str} {l:List Hd} {Q:ai},M.base=B→Sl HD M hv l→l.length≤1000→(∀ h∈l,h.1.length≤281474976710656∧h.2.length≤281474976710656) →
 Sl BY M bv body→body.length≤1000000000 →
 (∀ s v' M',lc n l body=.ok s→s.length≤2048 + body.length→af [] M M'→Ow BY M' M.next T v' s→Q (.tup [v',N .i64 0]) M')→(∀ (e:Nat) M',lc n l body=.error e→(e=1∨e=2)→af [] M M'→Q (.tup [aA,N .i64 (e:Int)]) M') →
 c [.agg [N .i64 n,hv,bv]] M Q
theorem Eu {B:Base} {T T8:Nat} {ci cc cp:ak} (hi:LD B ci) (hc:xN B cc) (hp:su B T8 cp) : Dz B T8 fun args M Q=>∃ a0,args=[a0]∧iT T ci cc cp a0 M Q:=by
 intro M hv bv n body l Q hB hh hll hle hb hbl hQ hE
 refine⟨_,rfl, ?_⟩
 unfold iT
 have ohv:=aJ.one hh
 have obv:=aJ.one hb
 rw[iV (by simp only[List.all_cons,List.all_nil,ohv,obv]; rfl) (by simp)]
 simp only[aV]
 have k0:af [] M (M.push (.row [N .i64 n,hv,bv] false T 0)):=(af.refl _ _).push _
 have n0:(M.push (.row [N .i64 n,hv,bv] false T 0)).heap M.next=some (.row [N .i64 n,hv,bv] false T 0):=by simp[RM.push]
 have l0:M.next<(M.push (.row [N .i64 n,hv,bv] false T 0)).next:=by simp[RM.push]
 generalize M.push (.row [N .i64 n,hv,bv] false T 0)=M1 at *
 have ld0:∀ {M' : RM} (k:af [] M1 M') {K' : AV→Prop},ax M' (.ptr M.next 0) K'=K' (N .i64 n):=fun k=>aK (k.aC n0 l0 (by simp)) rfl
 have ld1:∀ {M' : RM} (k:af [] M1 M') {K' : AV→Prop},ax M' (.ptr M.next 1) K'=K' hv:=fun k=>aK (k.aC n0 l0 (by simp)) rfl
 have ld2:∀ {M' : RM} (k:af [] M1 M') {K' : AV→Prop},ax M' (.ptr M.next 2) K'=K' bv:=fun k=>aK (k.aC n0 l0 (by simp)) rfl
 simp only[iE,bS,ld0 (af.refl _ M1),ld1 (af.refl _ M1),ld2 (af.refl _ M1),dF]
 refine mK (p:=decide (n > 599)) (fun _ k hk=>?_) ?_
 ·simpa only[bG,ld0 (af.refl _ M1)] using hk
 have hbc:(decide (n<100) || decide (n > 599))=EK n:=rfl
 rw[hbc]
 refine aM (fun h=>?_) fun h=>?_
 ·exact hE 1 M1 (by unfold lc; rw[h]) (.inl rfl) k0
 have h':=h
 unfold EK at h'
 simp only[Bool.or_eq_false_iff,decide_eq_false_iff_not] at h'
 have e:lc n l body=iX (Gv n) l (pG,jb body.length) body.length body:=by unfold lc; rw[h]
 rw[e] at hQ hE
 rw[pM,ld0 (af.refl _ M1),PX]
 refine⟨by decide, ?_⟩
 have hdv:1≤n.tdiv 100∧n.tdiv 100≤5:=by
  rw[Int.tdiv_eq_ediv_of_nonneg (by omega)]; omega
 rw[bn (by omega) (by omega),bq]
 have tail:∀ w:Str,w=zP n→((ax M1 (.ptr M.next 0) fun t18=>ax M1 (.ptr M.next 1) fun t25=>ax M1 (.ptr M.next 2) fun t27=>bi t27 fun t28=>ax M1 (.ptr M.next 2) fun t31=>bi t31 fun t32=>ax M1 (.ptr M.next 2) fun t34=>ci [t18] M1 fun t19 M_9=>ax M_9 (.ptr M.next 1) fun Sy=>(Sy=t25∧ax M_9 (.ptr M.next 2) fun Sj=>(Sj=t27∧ax M_9 (.ptr M.next 2) fun SS=>(SS=t31∧ax M_9 (.ptr M.next 2) fun Tp=>(Tp=t34∧bE .add (St [72,84,84,80,47,49,46,49,32]) t19 fun t20=>bE .add t20 (St [32]) fun t21=>bE .add t21 (St w) fun t23=>cc [t28] M_9 fun t29 BK=>ax BK (.ptr M.next 1) fun Tv=>(Tv=t25∧ax BK (.ptr M.next 2) fun Rz=>(Rz=t31∧ax BK (.ptr M.next 2) fun SB=>(SB=t34∧cp [t23,t25,t29,t32,t34] BK fun t35 OQ=>aG t35 0 fun t36=>aG t35 1 fun t37=>Q (.tup [t36,t37]) OQ)))))))) : Prop):=by
  intro w hw
  rw[ld0 (af.refl _ M1),ld1 (af.refl _ M1),ld2 (af.refl _ M1),aJ.len hb,ld2 (af.refl _ M1),aJ.len hb,ld2 (af.refl _ M1)]
  obtain⟨m,rfl⟩ : ∃ m:Nat,n=(m:Int):=⟨n.toNat,by omega⟩
  refine hi (k0.base.trans hB) (by omega) fun M2 k2=>?_
  rw[ld1 k2]; refine⟨rfl, ?_⟩
  rw[ld2 k2]; refine⟨rfl, ?_⟩
  rw[ld2 k2]; refine⟨rfl, ?_⟩
  rw[ld2 k2]; refine⟨rfl, ?_⟩
  have hl1:(jb m).length≤20:=tL _ _ _
  have hl2:(jb body.length).length≤20:=tL _ _ _
  have hwl:w.length≤2:=by rw[hw]; unfold zP; split <;> simp
  rw[dz]
  refine⟨by simp; omega, ?_⟩
  rw[dz]
  refine⟨by simp; omega, ?_⟩
  rw[dz]
  refine⟨by simp; omega, ?_⟩
  have k02:=k0.trans k2
  refine hc (n:=body.length) (k02.base.trans hB) (by omega) fun M3 k3=>?_
  have k23:=k2.trans k3
  rw[ld1 k23]; refine⟨rfl, ?_⟩
  rw[ld2 k23]; refine⟨rfl, ?_⟩
  rw[ld2 k23]; refine⟨rfl, ?_⟩
  have k03:=k0.trans k23
  have Qg:[72,84,84,80,47,49,46,49,32]++jb m++[32]++w=Gv (m:Int):=by rw[hw]; rfl
  rw[Qg]
  have VL:(Gv (m:Int)).length≤1000000:=by rw[← Qg]; simp; omega
  refine hp (more:=(pG,jb body.length)) (k03.base.trans hB) (aJ.keep hh k03 (by simp)) hll hle VL (by simp) (by simpa using (by omega:(jb body.length).length≤1000000)) (aJ.keep hb k03 (by simp)) hbl (fun s v' M4 e4 hl4 k4 o4=>?_) (fun e' M4 e4 he k4=>?_)
  ·simp only[bz,bu]
   exact hQ s v' M4 e4 hl4 (k03.trans k4) (Own.mono o4 k03.next)
  ·simp only[bz,bu]
   exact hE e' M4 e4 he (k03.trans k4)
 refine aM (fun h=>?_) fun h=>?_
 ·exact tail [79,75] (by unfold zP; rw[if_pos h])
 ·exact tail [78,111] (by unfold zP; rw[if_neg (by rw[h]; decide)])
abbrev ZB:List AV:=[N .u8 0]
theorem xC (n:Nat) : (ed ZB n).length=n∧(ed ZB n).all oneCell=true:=by
 induction n with
 | zero=>simp[ed]
 | succ n ih=>rw[ed,List.length_append,List.all_append,ih.1,ih.2]; simp[oneCell]; omega
theorem Ik:∀ (a b:Nat),ed ZB (a + b)=ed ZB a++ed ZB b
 | 0,b=>by simp[ed]
 | a + 1,b=>by rw[show a + 1 + b=(a + b) + 1 by omega,ed,ed,Ik a b]; simp
theorem kX (s:Str) : (BY.row s).length=s.length:=by rw[Enc.gB]; simp[BY]
theorem T9 {M:RM} {b T k:Nat} {ps ys:Str} {u:AV} {zs:List AV} {K:ai} (hb:M.heap b=some (.row (BY.row ps++ed ZB k) true T 0)) (hu:Sl BY M u ys) (hk:ys.length≤k) (hl:ps.length + ys.length≤1000000000)
  (hK:∀ M',M'.heap b=some (.row (BY.row (ps++ys)++ed ZB (k - ys.length)) true T 0)→af [b] M M'→M'.next=M.next→K (.slc b 0 (ps++ys).length (.op 1)) M') :
  appW T 1 1 zs false (.slc b 0 ps.length (.op 1)) u M K:=by
 have hn:=aJ.nZ hu zs
 refine⟨ys.length,BY.row ys,hn,by omega,by omega, ?_⟩
 by_cases h0:ys.length=0
 ·have:ys=[]:=List.length_eq_zero_iff.1 h0
  subst this
  refine⟨.slc b 0 ps.length (.op 1),M,by simp[rZ], ?_⟩
  have:=hK M (by simpa using hb) (af.refl _ _) rfl
  simpa using this
 ·have hfit:0 + (ps.length + ys.length) * 1≤(BY.row ps++ed ZB k).length:=by
   rw[List.length_append,kX,(xC k).1]; omega
  refine⟨.slc b 0 (ps.length + ys.length) (.op 1),M.put b (.row (BY.row (ps++ys)++ed ZB (k - ys.length)) true T 0), ?_, ?_⟩
  ·simp only[rZ,if_neg h0,hb]
   rw[if_pos (by simp),if_pos hfit,RM.zR hb,sV (by rw[kX,List.length_append,kX,(xC k).1]; omega) (by omega) (BY.rM ys)]
   simp only[Option.map_some]
   congr 4
   rw[Enc.nK]
   have e1:(BY.row ps++ed ZB k).take (0 + ps.length * 1)=BY.row ps:=by rw[List.take_left' (by rw[kX]; omega)]
   have e2:(BY.row ps++ed ZB k).drop (0 + ps.length * 1 + (BY.row ys).length)=ed ZB (k - ys.length):=by
    rw[show ed ZB k=ed ZB ys.length++ed ZB (k - ys.length) by rw[← Ik]; congr 1; omega,← List.append_assoc,List.drop_left' (by rw[List.length_append,kX,(xC _).1,kX]; omega)]
   rw[e1,e2]
  ·have:=hK _ (aB _) ((af.refl _ _).put _ (.inr (by simp))) rfl
   rw[List.length_append] at this
   exact this
theorem QK {M:RM} {base T n:Nat} {v:AV} {cs:List AV} (h:Own M base T 1 v cs n) (hn:0<n) : ∃ b,v=.slc b 0 n (.op 1)∧base≤b∧b<M.next∧M.heap b=some (.row cs true T 0):=by
 cases h with
 | nil=>omega
 | ex0 b o _ _ _=>omega
 | op b n cs h1 h2 h3 h4=>exact⟨b,rfl,h1,h2,h3⟩
def IC (T:Nat) (c:ak) : Prop:=∀ {M:RM} {n:Nat} {Q:ai},n≤1000000000→0<n →
 (∀ b M',M.next≤b→b<M'.next→M'.heap b=some (.row (ed ZB n) true T 0)→af [] M M'→Q (.slc b 0 0 (.op 1)) M')→c [aA,N .i64 (n:Int)] M Q
theorem LK {TS T:Nat} : IC T fun args M Q=>∃ a0 a1,args=[a0,a1]∧uH TS T a0 a1 M Q:=by
 intro M n Q hn hz h1
 refine⟨_,_,rfl, ?_⟩
 unfold uH
 rw[pM,dF,show decide ((n:Int)<0)=false by simp,aX]
 dsimp only
 rw[pM]
 have hcap:∀ K:AV→Prop,wR aA K=K (N .i64 0):=fun K=>by
  unfold wR
  exact propext ⟨fun⟨m,h,k⟩=>by cases h; exact k,fun k=>⟨0,rfl,k⟩⟩
 rw[hcap,Cv,gu,show IntKind.wrap .i64 ((0:Int) - 0)=0 from by rw[bn] <;> decide,gu,Int.sub_zero,bn (by omega) (by omega),bG]
 dsimp only[ag]
 rw[show decide ((n:Int) > 0)=true by simp; omega,bN,hcap,show dL 1 aA none (some (N .i64 0)) none=some aA by simp[dL,bnd],cz]
 have hr:=xC n
 refine AA (base:=M.next) (m:=n) (ds:=ed ZB n) .nil (Nat.le_refl _) (Nat.le_refl _) (by simp[nZ]) (by rw[hr.1,Nat.mul_one]) hr.2 (by omega) (by omega) ?_
 intro v' M' o k _ _
 rw[Nat.zero_add] at o
 obtain⟨b,rfl,q1,q2,q3⟩:=QK o (by omega)
 rw[Cv,show dL 1 (.slc b 0 n (.op 1)) none (some (N .i64 0)) none=some (.slc b 0 0 (.op 1)) by simp[dL,bnd]; omega,cz]
 exact h1 b M' q1 q2 (by simpa using q3) (by simpa [aW] using k)
def Cq (T:Nat) (c:ak) : Prop:=∀ {M:RM} {bb TB:Nat} {vs:List AV} {xss:List Str} {Q:ai},M.heap bb=some (.row vs false TB 0)→bb<M.next→vs.length=xss.length→vs.length≤1000→(∀ (i:Nat) (v:AV) (x:Str),vs[i]?=some v→xss[i]?=some x→Sl BY M v x) →
 0<xss.flatten.length→xss.flatten.length≤1000000000→(∀ r M',Ow BY M' M.next T r xss.flatten→af [] M M'→Q r M')→c [.slc bb 0 vs.length (.ex vs.length)] M Q
theorem GU {TS T:Nat} {cg:ak} (hg:IC T cg) : Cq T fun args M Q=>∃ a0,args=[a0]∧qC TS cg T a0 M Q:=by
 intro M bb TB vs xss Q hb hbl hlen hvl hv hpos hmax hQ
 refine⟨_,rfl, ?_⟩
 unfold qC
 simp only[pM]
 have at_:∀ (i:Nat) (K:AV→Prop),i<vs.length→bZ (.slc bb 0 vs.length (.ex vs.length)) (N .i64 (i:Int)) 1 K=K (.ptr bb i):=fun i K hi=>by
  rw[oM]
  simp only[Int.toNat_natCast,Nat.mul_one,Nat.zero_add]
  exact propext ⟨fun h=>h.2.2,fun h=>⟨by omega,by omega,h⟩⟩
 have hfl:∀ i,i≤xss.length→(xss.take i).flatten.length≤xss.flatten.length:=fun i _=>by
  have e:xss.flatten=(xss.take i).flatten++(xss.drop i).flatten:=by rw[← List.flatten_append,List.take_append_drop]
  rw[e,List.length_append]; omega
 have hst:∀ i (hi:i<xss.length),(xss.take (i + 1)).flatten=(xss.take i).flatten++xss[i]:=fun i hi=>by
  rw[List.take_succ_eq_append_getElem hi,List.flatten_append,List.flatten_cons,List.flatten_nil,List.append_nil]
 rw[kw]
 refine aZ (fun m zs M3=>∃ i:Nat,m=vs.length - i∧i≤vs.length∧zs=[N .i64 ((xss.take i).flatten.length:Int),N .i64 (i:Int)]∧M3=M) _ ⟨0,rfl,Nat.zero_le _,rfl,rfl⟩ ?_
 rintro next m zs M3 hnext ⟨i,rfl,hi,rfl,rfl⟩
 simp only[aN,cK,iO]
 refine aM (fun h=>?_) fun h=>?_
 ·have hlt:i<vs.length:=by simpa using h
  have hlx:i<xss.length:=by omega
  have sl:=hv i vs[i] xss[i] (List.getElem?_eq_getElem hlt) (List.getElem?_eq_getElem hlx)
  have h1:=hfl (i + 1) (by omega)
  have h2:=congrArg List.length (hst i hlx)
  rw[List.length_append] at h2
  rw[at_ i _ hlt,aK hb (List.getElem?_eq_getElem hlt),aJ.len sl,addN (by omega),dF,show decide ((((xss.take i).flatten.length + xss[i].length:Nat) : Int)<0)=false by simp; omega,aX]
  try simp only[aN]
  rw[add1 (by omega)]
  exact hnext _ _ _ (by omega) ⟨i + 1,rfl,by omega,by rw[h2],rfl⟩
 ·have:i=vs.length:=by simp at h; omega
  subst this
  rw[hlen,List.take_length]
  refine hg hmax hpos fun b M4 hb0 hb1 hrow k4=>?_
  rw[← hlen,kw]
  have hbb:bb≠b:=by omega
  refine aZ (fun m zs M5=>∃ i:Nat,m=vs.length - i∧i≤vs.length∧zs=[.slc b 0 (xss.take i).flatten.length (.op 1),N .i64 (i:Int)]∧af [b] M4 M5∧M5.next=M4.next ∧
    M5.heap b=some (.row (BY.row (xss.take i).flatten++ed ZB (xss.flatten.length - (xss.take i).flatten.length)) true T 0)) _
   ⟨0,rfl,Nat.zero_le _,rfl,af.refl _ _,rfl,by simpa [Enc.row] using hrow⟩ ?_
  rintro Gy m zs M5 nP ⟨i,rfl,hi2,rfl,k5,n5,Gn⟩
  simp only[aN,cK,iO]
  refine aM (fun h=>?_) fun h=>?_
  ·have hlt:i<vs.length:=by simpa using h
   have hlx:i<xss.length:=by omega
   have sl:=hv i vs[i] xss[i] (List.getElem?_eq_getElem hlt) (List.getElem?_eq_getElem hlx)
   have hb4:=k4.aC hb hbl (by simp)
   have hb5:=k5.aC hb4 (by omega) (by simp; exact hbb)
   have sl5:Sl BY M5 vs[i] xss[i]:=aJ.keep (aJ.keep sl k4 (by simp)) k5 (fun d hd hm=>by have:=aJ.lt sl d hd; simp at hm; omega)
   have h1:=hfl (i + 1) (by omega)
   have h2:=congrArg List.length (hst i hlx)
   rw[List.length_append] at h2
   rw[at_ i _ hlt,aK hb5 (List.getElem?_eq_getElem hlt)]
   refine T9 Gn sl5 (by omega) (by omega) fun M6 UF k6 n6=>?_
   rw[add1 (by omega)]
   refine nP _ _ _ (by omega) ⟨i + 1,rfl,by omega,by rw[hst i hlx],k5.trans k6,by rw[n6,n5], ?_⟩
   rw[UF,hst i hlx,List.length_append,Nat.sub_sub]
  ·have:i=vs.length:=by simp at h; omega
   subst this
   rw[hlen,List.take_length] at Gn ⊢
   rw[Nat.sub_self] at Gn
   have RG:M5.heap b=some (.row (BY.row xss.flatten) true T 0):=by simpa [ed] using Gn
   refine hQ _ M5 (Own.op _ _ _ hb0 (by omega) RG (by rw[Enc.gB])) ?_
   exact⟨k5.base.trans k4.base,by rw[n5]; exact k4.next,fun x hx _=>by rw[k5.heap x (Nat.lt_of_lt_of_le hx k4.next) (by simp; omega),k4.heap x hx (by simp)]⟩
def Ev (T:Nat) (c:ak) : Prop:=∀ {M:RM} {v:AV} {s:List Int} {Q:ai},Sl INT M v s→s.length≤1000000→(∀ v' M',Ow INT M' M.next T v' s→af [] M M'→Q v' M')→c [v] M Q
theorem Js {T:Nat} : Ev T fun args M Q=>∃ a0,args=[a0]∧vH T a0 M Q:=by
 intro M v s Q hv hl hQ
 refine⟨_,rfl, ?_⟩
 unfold vH
 rcases aJ.xD hv false with⟨rfl,he⟩ | ⟨hne,he⟩
 ·rw[he,show(!false)=true from rfl,bN]
  have:s=[]:=by
   unfold Sl at hv
   cases s with
   | nil=>rfl
   | cons x s=>generalize hcs:INT.row (x :: s)=cs at *; generalize hn:(x :: s).length=n at *; cases hv; cases hcs
  subst this
  exact hQ aA M .nil (af.refl _ _)
 ·rw[he,aX,Gz]
  simp only[aV]
  have k1:af [] M (M.push (.row [] false T 0)):=(af.refl _ _).push _
  refine nE (E:=INT) (Ow.lit INT M) (by simp[RM.push]) (by decide) (aJ.keep hv k1 (by simp)) (by simp; omega) (by simp; omega) fun v7 M7 o7 k7 _ _=>?_
  refine hQ v7 M7 (by simpa using o7) ?_
  refine af.own k1 k7 (fun b hb=>?_)
  simp[aW] at hb; omega
theorem Kr {M:RM} {base T:Nat} {v:AV} {xs s:Str} {zs:List AV} {K:ai} (ho:Ow BY M base T v xs) (hb:base≤M.next) (hn:xs.length + s.length≤1000000000)
  (hK:∀ v' M',Ow BY M' base T v' (xs++s)→af (aW v) M M'→K v' M') : appW T 1 1 zs false v (St s) M K:=by
 have e:nZ M 1 zs false (St s)=some (s.length,BY.row s):=by simp[nZ,CZ]
 refine AA ho hb (by decide) e (by rw[kX,Nat.mul_one]) (BY.rM s) (by omega) (by omega) fun v' M' h1 h2 _ _=>?_
 refine hK v' M' ?_ h2
 rw[← Enc.nK] at h1
 unfold Ow; rw[List.length_append]; exact h1
def vK (n:Int) (rest:Str) : Int:=if (rest.length:Int)<n then(rest.length:Int) else n
def qa (s:Str) : Str:=gY s.length++[13,10]++s++[13,10]
def jS:List Int→Str→Str→Str × Str
 | [],acc,rest=>(acc,rest)
 | n :: ns,acc,rest=>match decide (vK n rest<1) with
   | true=>jS ns acc rest
   | false=>jS ns (acc++qa (rest.take (vK n rest).toNat)) (rest.drop (vK n rest).toNat)
abbrev Lb:Str:=[48,13,10,13,10]
def j6 (m p:Str) (l:List Hd) (body:Str) (sizes:List Int) : Except Nat Str:=match mg m p with
 | false=>.error 1
 | true=>iX (Gw m p) l (LC,qD) body.length ((jS (sizes++[(body.length:Int)]) [] body).1++Lb)
theorem Uh {T:Nat} {zs:List AV} {a b c d z:AV} {K:RB→(Nat→AV)→Prop} (ha:a.cells=[a]) (hb:b.cells=[b]) (hc:c.cells=[c]) (hd:d.cells=[d]) (ha1:oneCell a=true) (hb1:oneCell b=true) (hc1:oneCell c=true) (hd1:oneCell d=true) :
  dX T 4 [z] [(0,1,a),(1,1,b),(2,1,c),(3,1,d)] K=K (.row [a,b,c,d] false T 0) (fun b=>.slc b 0 4 (.ex 4)):=by
 have:pY (ed [z] 4) [(0,1,a),(1,1,b),(2,1,c),(3,1,d)]=some [a,b,c,d]:=by
  simp[pY,ed,ha,hb,hc,hd,ha1,hb1,hc1,hd1]
 apply propext; unfold dX
 constructor
 ·rintro⟨l,h,hk⟩; rw[this] at h; cases h; exact hk
 ·intro hk; exact⟨_,this,hk⟩
theorem Bs.new (M:RM) (T:Nat) (s:Str) : Bs (M.push (.row (BY.row s) true T 0)) (.slc M.next 0 s.length (.op 1)) s:=⟨(Rw.new M s).sl,rfl⟩
def Br (B:Base) (T:Nat) (c:ak) : Prop:=∀ {M:RM} {hv bv sv:AV} {m p body:Str} {l:List Hd} {sizes:List Int} {Q:ai},M.base=B→Sl HD M hv l→l.length≤1000→(∀ h∈l,h.1.length≤281474976710656∧h.2.length≤281474976710656) →
 m.length≤281474976710656→p.length≤281474976710656→Bs M bv body→body.length≤1000000→Sl INT M sv sizes→sizes.length≤1000 →
 (∀ s v' M',j6 m p l body sizes=.ok s→s.length≤100000000→af [] M M'→Ow BY M' M.next T v' s→Q (.tup [v',N .i64 0]) M')→(∀ (e:Nat) M',j6 m p l body sizes=.error e→(e=1∨e=2)→af [] M M'→Q (.tup [aA,N .i64 (e:Int)]) M') →
 c [.agg [St m,St p,hv,bv],sv] M Q
theorem DC {B:Base} {T TI T8 TB:Nat} {cg ck cf cc cp:ak} (hg:xL cg) (hk:Ev TI ck) (hf:Eo B cf) (hc:Cq T8 cc) (hp:su B T8 cp) :
  Br B T8 fun args M Q=>∃ a0 a1,args=[a0,a1]∧lN T cg ck TI T8 cf TB cc cp a0 a1 M Q:=by
 intro M hv bv sv m p body l sizes Q hB hh hll hle hm hpl hb hbl hsv hsl hQ hE
 refine⟨_,_,rfl, ?_⟩
 unfold lN
 have ohv:=aJ.one hh
 have obv:=aJ.one hb.sl
 rw[iV (by simp only[List.all_cons,List.all_nil,ohv,obv]; rfl) (by simp)]
 simp only[aV]
 have k0:af [] M (M.push (.row [St m,St p,hv,bv] false T 0)):=(af.refl _ _).push _
 have n0:(M.push (.row [St m,St p,hv,bv] false T 0)).heap M.next=some (.row [St m,St p,hv,bv] false T 0):=by simp[RM.push]
 have l0:M.next<(M.push (.row [St m,St p,hv,bv] false T 0)).next:=by simp[RM.push]
 generalize M.push (.row [St m,St p,hv,bv] false T 0)=M0 at *
 rw[aQ n0 (by rfl)]
 refine hg ohv obv (by omega) (by omega) fun M1 k1=>?_
 have n1:=k1.aC n0 l0 (by simp)
 have l1:=Nat.lt_of_lt_of_le l0 k1.next
 have k01:=k0.trans k1
 simp only[bO]
 refine aM (fun h=>?_) fun h=>?_
 ·have hk:mg m p=false:=by simpa using h
  exact hE 1 M1 (by unfold j6; rw[hk]) (.inl rfl) k01
 have hok:mg m p=true:=by simpa using h
 obtain⟨q1,q2⟩:=I8 hok
 have e:j6 m p l body sizes=iX (Gw m p) l (LC,qD) body.length ((jS (sizes++[(body.length:Int)]) [] body).1++Lb):=by unfold j6; rw[hok]
 rw[e] at hQ hE
 have ld:∀ {M' : RM} (k:af [] M1 M') (i:Nat) (x:AV),([St m,St p,hv,bv] : List AV)[i]?=some x→∀ {K' : AV→Prop},ax M' (.ptr M.next i) K'=K' x:=fun k i x hx=>aK (k.aC n1 l1 (by simp)) hx
 simp only[iE]
 rw[ld (af.refl _ _) 3 bv rfl]
 refine hk (aJ.keep hsv k01 (by simp)) (by omega) fun v2 M2 o2 k2=>?_
 rw[hb.len,qM (by rfl) (by rfl) (by rfl)]
 simp only[aV]
 have k02:=k01.trans k2
 refine o8 (E:=INT) (a:=(body.length:Int)) (Own.mono o2 k01.next) k02.next (by decide) (by omega) (by omega) fun v3 M3 o3 k3 _ _=>?_
 have k03:af [] M M3:=af.own k02 k3 (fun x hx=>by have:=(Own.blk o2 x hx).1; have:=k01.next; omega)
 have k13:af [] M1 M3:=af.own k2 k3 (fun x hx=>(Own.blk o2 x hx).1)
 generalize hns:sizes++[(body.length:Int)]=ns at *
 have hnl:ns.length≤1001:=by rw[← hns]; simp; omega
 have s3:Sl INT M3 v3 ns:=Own.jc o3
 rw[aJ.len s3]
 refine aZ (fun z ys M4=>∃ (i:Nat) (av rv:AV) (acc rest:Str),z=ns.length - i∧ys=[av,rv,N .i64 (i:Int)]∧i≤ns.length∧af [] M3 M4∧Ow BY M4 M1.next T8 av acc∧Bs M4 rv rest∧(∀ x∈aW rv,x∈aW bv) ∧
   jS ns [] body=jS (ns.drop i) acc rest∧acc.length + rest.length≤i * 30 + body.length) _
  ⟨0,aA,bv,[],body,rfl,rfl,Nat.zero_le _,af.refl _ _,.nil,hb.keep k03 (by simp),fun x hx=>hx,rfl,by simp⟩ ?_
 rintro next z ys M4 hnext ⟨i,av,rv,acc,rest,rfl,rfl,hi,k4,oa,hr,hrb,hch,hal⟩
 simp only[aN,cK,iO]
 have k34:=k03.trans k4
 have k14:=k13.trans k4
 refine aM (fun h=>?_) fun h=>?_
 ·have hlt:i<ns.length:=by simpa using h
  have s4:Sl INT M4 v3 ns:=aJ.keep s3 k4 (by simp)
  obtain⟨b0,o0,_,_,hix,hld⟩:=s4.at 1 (i:Int) hlt
  have hdr:ns.drop i=ns[i] :: ns.drop (i + 1):=List.drop_eq_getElem_cons hlt
  rw[pM,hix,dI]
  refine⟨_,fB.1 hld, ?_⟩
  rw[hr.len,MO]
  have hcut:(if false=true then(if (rest.length:Int) > ns[i] then(rest.length:Int) else ns[i]) else if (rest.length:Int)<ns[i] then(rest.length:Int) else ns[i])=vK ns[i] rest:=by
   unfold vK; simp
  rw[hcut,dF]
  refine aM (fun h=>?_) fun h=>?_
  ·simp only[aN,cK]
   rw[add1 (by omega)]
   refine hnext _ _ _ (by omega) ⟨i + 1,av,rv,acc,rest,rfl,rfl,by omega,k4,oa,hr,hrb, ?_,by omega⟩
   rw[hch,hdr,jS,h]
  ·obtain⟨k,hk,hkl,hk1⟩ : ∃ k:Nat,vK ns[i] rest=(k:Int)∧k≤rest.length∧1≤k:=by
    have h1:¬ vK ns[i] rest<1:=by simpa using h
    refine⟨(vK ns[i] rest).toNat,by omega, ?_,by omega⟩
    have:vK ns[i] rest≤rest.length:=by unfold vK; split <;> omega
    omega
   have hstep:jS (ns.drop i) acc rest=jS (ns.drop (i + 1)) (acc++qa (rest.take k)) (rest.drop k):=by
    rw[hdr,jS,h,hk,Int.toNat_natCast]
   have htl:(rest.take k).length=k:=by simp; omega
   have hcb:qa (rest.take k)=gY k++[13,10]++rest.take k++[13,10]:=by unfold qa; rw[htl]
   have hxl:(gY k).length≤20:=tL _ _ _
   rw[hk]
   obtain⟨t39,e39,h39,hsub39⟩ : ∃ v',dL 1 rv none (some (N .i64 (k:Int))) none=some v'∧Bs M4 v' (rest.take k)∧(∀ x∈aW v',x∈aW rv):=by
    have:=hr.sub (vJ 0) (gz _ k .i64) (Nat.zero_le _) hkl (K:=fun v'=>Bs M4 v' (rest.take k)∧(∀ x∈aW v',x∈aW rv)) (fun v' h1 h2=>⟨by simpa using h1,h2⟩)
    obtain⟨v',h1,h2⟩:=this
    exact⟨v',h1,h2.1,h2.2⟩
   obtain⟨t46,e46,h46,SG⟩ : ∃ v',dL 1 rv (some (N .i64 (k:Int))) none none=some v'∧Bs M4 v' (rest.drop k)∧(∀ x∈aW v',x∈aW rv):=by
    have:=hr.sub (gz 0 k .i64) (vJ _) hkl (Nat.le_refl _) (K:=fun v'=>Bs M4 v' (rest.drop k)∧(∀ x∈aW v',x∈aW rv)) (fun v' h1 h2=>⟨by rw[List.take_of_length_le (by simp)] at h1; exact h1,h2⟩)
    obtain⟨v',h1,h2⟩:=this
    exact⟨v',h1,h2.1,h2.2⟩
   -- put together
   have fin:∀ (M5:RM) (t36 t41:AV),af [] M4 M5→Bs M5 t36 (gY k++[13,10])→Bs M5 t41 [13,10] →
     (dX TB 4 [(.sc (.slice none 0 0))] [(0,1,av),(1,1,t36),(2,1,t39),(3,1,t41)] fun VP Wy=>uM VP Wy M5 fun t42 OW b_19=>cc [t42] OW fun t43 Cs=>bB (dL 1 rv (some (N .i64 (k:Int))) none none) fun t46=>ae .add (N .i64 (i:Int)) (N .i64 1) fun t47=>next [(ag [t43,t46] 0),(ag [t43,t46] 1),t47] Cs):=by
    intro M5 t36 t41 k5 h36 h41
    have a5:=oa.keep k5 (by simp)
    have b5:=h39.keep k5 (by simp)
    rw[Uh (z:=.sc (.slice none 0 0)) (zs:=[]) (Own.cells a5) (aJ.cells h36.sl) (aJ.cells b5.sl) (aJ.cells h41.sl) (Own.one a5) (aJ.one h36.sl) (aJ.one b5.sl) (aJ.one h41.sl)]
    simp only[A9]
    have k6:af [] M5 (M5.push (.row [av,t36,t39,t41] false TB 0)):=(af.refl _ _).push _
    have n6:(M5.push (.row [av,t36,t39,t41] false TB 0)).heap M5.next=some (.row [av,t36,t39,t41] false TB 0):=by simp[RM.push]
    have l6:M5.next<(M5.push (.row [av,t36,t39,t41] false TB 0)).next:=by simp[RM.push]
    generalize M5.push (.row [av,t36,t39,t41] false TB 0)=M6 at *
    have hfl:([acc,gY k++[13,10],rest.take k,[13,10]] : List Str).flatten=acc++qa (rest.take k):=by rw[hcb]; simp
    have hfll:(acc++qa (rest.take k)).length≤acc.length + 24 + k:=by
     rw[hcb]; simp only[List.length_append,List.length_cons,List.length_nil,htl]; omega
    have WM:0<(acc++qa (rest.take k)).length:=by
     rw[hcb]; simp only[List.length_append,List.length_cons,List.length_nil]; omega
    refine hc (vs:=[av,t36,t39,t41]) (xss:=[acc,gY k++[13,10],rest.take k,[13,10]]) n6 l6 rfl (by simp) (fun j v x hv hx=>?_) (by rw[hfl]; exact WM) (by
      rw[hfl]
      have:i * 30≤1001 * 30:=Nat.mul_le_mul_right _ (by omega)
      omega) fun r M7 o7 k7=>?_
    ·rcases j with _ | _ | _ | _ | j
     ·cases hv; cases hx; exact aJ.keep (Own.jc a5) k6 (by simp)
     ·cases hv; cases hx; exact aJ.keep h36.sl k6 (by simp)
     ·cases hv; cases hx; exact aJ.keep b5.sl k6 (by simp)
     ·cases hv; cases hx; exact aJ.keep h41.sl k6 (by simp)
     ·cases hv
    rw[hfl] at o7
    have k47:=k5.trans (k6.trans k7)
    rw[e46,cz]
    simp only[aN,cK]
    rw[add1 (by omega)]
    refine hnext _ _ _ (by omega) ⟨i + 1,r,t46,acc++qa (rest.take k),rest.drop k,rfl,rfl,by omega,k4.trans k47,Own.mono o7 (Nat.le_trans (k14.trans k5).next k6.next),h46.keep k47 (by simp),fun x hx=>hrb x (SG x hx),by rw[hch,hstep], ?_⟩
    have:(rest.drop k).length=rest.length - k:=by simp
    omega
   refine⟨?_, ?_⟩
   ·rw[e39,cz]
    refine⟨[N .u8 13,N .u8 10],rfl, ?_⟩
    simp only[A9]
    have k5:af [] M4 (M4.push (.row [N .u8 13,N .u8 10] false T8 0)):=(af.refl _ _).push _
    have n5:(M4.push (.row [N .u8 13,N .u8 10] false T8 0)).heap M4.next=some (.row [N .u8 13,N .u8 10] false T8 0):=by simp[RM.push]
    have l5:M4.next<(M4.push (.row [N .u8 13,N .u8 10] false T8 0)).next:=by simp[RM.push]
    generalize M4.push (.row [N .u8 13,N .u8 10] false T8 0)=M5 at *
    refine hf ((k34.trans k5).base.trans hB) (by omega) fun M6 k6=>?_
    have n6:=k6.aC n5 l5 (by simp)
    have l6:=Nat.lt_of_lt_of_le l5 k6.next
    rw[cz]
    refine⟨rfl,[N .u8 13,N .u8 10],rfl,⟨n6,rfl⟩, ?_⟩
    rw[dz]
    refine⟨by simp; omega, ?_⟩
    rw[gZ]
    have b7:=Bs.new M6 T8 (gY k++[13,10])
    have k7:af [] M6 (M6.push (.row (BY.row (gY k++[13,10])) true T8 0)):=(af.refl _ _).push _
    have n7:=k7.aC n6 l6 (by simp)
    have m7:(M6.push (.row (BY.row (gY k++[13,10])) true T8 0)).heap M6.next=some (.row (BY.row (gY k++[13,10])) true T8 0):=by simp[RM.push]
    have l7:M4.next<(M6.push (.row (BY.row (gY k++[13,10])) true T8 0)).next:=by simp[RM.push]; omega
    have l7' : M6.next<(M6.push (.row (BY.row (gY k++[13,10])) true T8 0)).next:=by simp[RM.push]
    generalize hM7:M6.push (.row (BY.row (gY k++[13,10])) true T8 0)=M7 at *
    refine⟨M4.next,0,2,2,[N .u8 13,N .u8 10],T8,rfl,n7, ?_⟩
    have k47:af [] M4 M7:=k5.trans (k6.trans k7)
    have k8:af [] M4 (M7.put M4.next (.row [N .u8 13,N .u8 10] false T8 (([N .u8 13,N .u8 10] : List AV).length + 1))):=k47.new _ (Nat.le_refl _)
    have m8:(M7.put M4.next (.row [N .u8 13,N .u8 10] false T8 (([N .u8 13,N .u8 10] : List AV).length + 1))).heap M6.next=some (.row (BY.row (gY k++[13,10])) true T8 0):=eP m7 (by omega)
    dsimp only
    rw[gZ]
    refine⟨⟨m8,rfl⟩, ?_⟩
    rw[cz]
    refine⟨rfl, ?_⟩
    refine fin _ _ _ k8 ⟨?_,rfl⟩ ⟨?_,Nat.le_refl _⟩
    ·exact aJ.slc _ _ _ _ _ (by rw[Hm]; exact l7') (by rw[RM.iP m8 (by rw[Enc.gB]; simp[BY]),List.drop_zero,List.take_of_length_le (by rw[Enc.gB]; simp[BY])])
    ·refine aJ.slc _ _ _ _ _ (by rw[Hm]; exact l7) ?_
     rw[RM.iP (aB _) (by decide)]
     rfl
   ·refine⟨[N .u8 13,N .u8 10],rfl, ?_⟩
    simp only[A9]
    rw[e39,cz]
    refine⟨M4.next,0,2,2,[N .u8 13,N .u8 10],T8,rfl,by simp[RM.push], ?_⟩
    have k5:af [] M4 ((M4.push (.row [N .u8 13,N .u8 10] false T8 0)).put M4.next (.row [N .u8 13,N .u8 10] false T8 (([N .u8 13,N .u8 10] : List AV).length + 1))):=((af.refl _ _).push _).new _ (Nat.le_refl _)
    have b5:Bs ((M4.push (.row [N .u8 13,N .u8 10] false T8 0)).put M4.next (.row [N .u8 13,N .u8 10] false T8 (([N .u8 13,N .u8 10] : List AV).length + 1))) (.slc M4.next 0 2 (.ex 2)) [13,10]:=⟨by
     refine aJ.slc _ _ _ _ _ (by simp[RM.push,RM.put]) ?_
     rw[RM.iP (aB _) (by decide)]
     rfl,Nat.le_refl _⟩
    dsimp only
    rw[cz]
    refine⟨rfl, ?_⟩
    refine hf ((k34.trans k5).base.trans hB) (by omega) fun M6 k6=>?_
    rw[cz]
    refine⟨rfl, ?_⟩
    rw[dz]
    refine⟨by simp; omega, ?_⟩
    rw[gZ]
    have k7:af [] M6 (M6.push (.row (BY.row (gY k++[13,10])) true T8 0)):=(af.refl _ _).push _
    exact fin _ _ _ (k5.trans (k6.trans k7)) (Bs.new M6 T8 _) (b5.keep (k6.trans k7) (by simp))
 ·have:i=ns.length:=by simp at h; omega
  subst this
  rw[List.drop_length] at hch
  have hch' : jS ns [] body=(acc,rest):=hch
  rw[hch'] at hQ hE
  have:ns.length * 30≤1001 * 30:=Nat.mul_le_mul_right _ hnl
  refine Kr oa k14.next (by simp; omega) fun v5 M5 o5 k5=>?_
  have k15:af [] M1 M5:=af.own k14 k5 (fun x hx=>(Own.blk oa x hx).1)
  have k05:af [] M M5:=k01.trans k15
  rw[ld k15 0 (St m) rfl,dz]
  refine⟨by simp; omega, ?_⟩
  rw[ld k15 1 (St p) rfl,dz]
  refine⟨by simp; omega, ?_⟩
  rw[dz]
  refine⟨by simp; omega, ?_⟩
  rw[dz]
  refine⟨by simp; omega, ?_⟩
  rw[ld k15 2 hv rfl,eu]
  refine⟨_,vM rfl rfl rfl rfl, ?_⟩
  rw[ld k15 3 bv rfl,hb.len]
  have hl5:(acc++Lb).length≤100000000 - 2048:=by simp; omega
  refine hp (more:=(LC,qD)) (body:=acc++Lb) (sz:=body.length) (k05.base.trans hB) (aJ.keep hh k05 (by simp)) hll hle (by simp; omega) (by simp) (by simp) (Own.jc o5) (by omega) (fun s v' M6 e6 hl6 k6 o6=>?_) (fun e' M6 e6 he k6=>?_)
  ·simp only[bz,bu]
   exact hQ s v' M6 e6 (by omega) (k05.trans k6) (Own.mono o6 k05.next)
  ·simp only[bz,bu]
   exact hE e' M6 e6 he (k05.trans k6)
end Go.Ab.Hw
set_option maxRecDepth 20000
namespace Go.Ab.Hw
open Go Go.Ab Go.Ab.Sm
open Go.Ab.Vl (bK)
theorem kY {f:(List AV→RM→Prop)→Prop} {g:List AV→RM→Prop} (x:List AV) (N:RM) (hf:∀ J:List AV→RM→Prop,J x N→f J) (hg:g x N) : eG f g:=hf g hg
def wJ (n:Nat) : Int:=UM .u8 (n:Int) 32
def I7 (c:ak) : Prop:=∀ {M:RM} {x:UInt8} {Q:ai},Q (N .u8 (wJ x.toNat)) M→c [By x] M Q
theorem Le:I7 fun args M Q=>∃ a0,args=[a0]∧iY a0 M Q:=by
 intro M x Q hQ
 refine⟨_,rfl, ?_⟩
 unfold iY
 rw[QW]
 exact hQ
def KU (n:Nat) : Bool:=!(jI (bU (UInt8.ofNat n)) && !dG (UInt8.ofNat n)) || (decide (97≤wJ n) && decide (wJ n≤122) && decide (wJ n - 97 + 10=(iR (UInt8.ofNat n) : Int)) && !decide (n=95))
theorem Nr:(List.range 256).all KU=true:=by decide +kernel
theorem O3 (x:UInt8) : KU x.toNat=true:=List.all_eq_true.1 Nr x.toNat (List.mem_range.2 x.toNat_lt)
theorem J7 {x:UInt8} (h:jI (bU x)=true) (hd:dG x=false) : 97≤wJ x.toNat∧wJ x.toNat≤122∧wJ x.toNat - 97 + 10=(iR x:Int)∧x.toNat≠95:=by
 have:=O3 x
 unfold KU at this
 rw[UInt8.ofNat_toNat,h,hd] at this
 simp only[Bool.not_false,Bool.and_self,Bool.not_true,Bool.false_or,Bool.and_eq_true,decide_eq_true_eq,Bool.not_eq_true',decide_eq_false_iff_not] at this
 exact⟨this.1.1.1,this.1.1.2,this.1.2,this.2⟩
theorem MS {s:Str} {i:Nat} (hi:i<s.length) : ik (s.take (i + 1))=ik (s.take i) * 16 + iR s[i]:=by
 unfold ik
 rw[List.take_succ_eq_append_getElem hi,List.foldl_append]
 rfl
theorem C8 {n:Int} (h0:0≤n) (h1:n<18446744073709551616) : IntKind.wrap .u64 n=n:=by
 simp only[IntKind.wrap,show(2:Int) ^ IntKind.u64.bits=18446744073709551616 from by decide]
 simp[IntKind.signed]
 omega
theorem CK {TE T8:Nat} {cl cu:ak} (hl:I7 cl) : EC fun args M Q=>∃ a0 a1 a2,args=[a0,a1,a2]∧gM TE cl T8 cu a0 a1 a2 M Q:=by
 intro M s Q h1 h8 hx hQ
 refine⟨_,_,_,rfl, ?_⟩
 unfold gM
 have hne:(s == [])=false:=by cases s with | nil=>simp at h1 | cons a b=>rfl
 rw[eX,hne,aX,bq,show((16:Int) == 0)=false from rfl]
 refine kY (x:=[St s,N .i64 16]) (N:=M) (fun J hJ=>?_) ?_
 ·rw[gy,show decide ((2:Int)≤16)=true from rfl]
  simp only[bI,gy]
  rw[show decide ((16:Int)≤36)=true from rfl]
  simp only[bT,bN]
  exact hJ
 simp only[aN,cK]
 refine kY (x:=[N .i64 64]) (N:=M) (fun J hJ=>?_) ?_
 ·rw[bq,show((64:Int) == 0)=false from rfl,aX,dF,show decide ((64:Int)<0)=false from rfl]
  simp only[bP,bG]
  rw[show decide ((64:Int) > 64)=false from rfl]
  simp only[cO,aX]
  exact hJ
 simp only[aN,cK]
 refine kY (x:=[N .u64 1152921504606846976]) (N:=M) (fun J hJ=>?_) ?_
 ·rw[bq,show((16:Int) == 10)=false from rfl,aX,bq,show((16:Int) == 16)=true from rfl,bN]
  exact hJ
 simp only[aN,cK]
 rw[iU,QM]
 refine⟨by decide, ?_⟩
 rw[gu,gZ]
 simp only[aV,kw]
 have hmax:IntKind.wrap .u64 (SK .u64 1 (IntKind.wrap .u64 64) - 1)=18446744073709551615:=by decide +kernel
 rw[hmax]
 have hk1:af [] M (M.push (.row (BY.row s) true T8 0)):=(af.refl _ _).push _
 have hr1:Rw BY (M.push (.row (BY.row s) true T8 0)) M.next true T8 s:=Rw.new M s
 generalize M.push (.row (BY.row s) true T8 0)=M1 at *
 refine aZ (fun m ys M3=>∃ i:Nat,m=s.length - i∧ys=[Bo false,N .u64 (ik (s.take i) : Int),N .i64 (i:Int)]∧i≤s.length∧M3=M1) _ ⟨0,rfl,rfl,Nat.zero_le _,rfl⟩ ?_
 rintro next m ys M3 hnext ⟨i,rfl,rfl,hi,rfl⟩
 simp only[aN,cK,iO]
 refine aM (fun h=>?_) fun h=>?_
 ·have hlt:i<s.length:=by simpa using h
  have hc:=hr1.ax hlt
  have cb:=xQ s[i]
  have hmem:jI (bU s[i])=true:=by
   unfold low at hx
   rw[List.all_map] at hx
   exact List.all_eq_true.1 hx s[i] (List.getElem_mem hlt)
  have hdv:=JW hmem
  have hall:(low (s.take i)).all jI=true:=by
   rw[List.all_eq_true]
   intro y hy
   unfold low at hy
   rw[List.mem_map] at hy
   obtain⟨z,hz,rfl⟩:=hy
   unfold low at hx
   rw[List.all_map] at hx
   exact List.all_eq_true.1 hx z (List.mem_of_mem_take hz)
  have hlt2:=pK hall (by simp; omega)
  have ht:=MS hlt
  refine kY (x:=[Bo false,N .u64 (ik (s.take (i + 1)) : Int)]) (N:=M3) (fun J hJ=>?_) ?_
  rotate_left
  ·simp only[aN,cK]
   rw[add1 (by omega)]
   exact hnext _ _ _ (by omega) ⟨i + 1,rfl,rfl,by omega,rfl⟩
  rw[oM]
  refine⟨by omega,by omega, ?_⟩
  rw[dI]
  refine⟨By s[i],by simpa using hc, ?_⟩
  refine kY (x:=[Bo false,N .u8 (iR s[i] : Int)]) (N:=M3) (fun J2 hJ2=>?_) ?_
  rotate_left
  ·simp only[aN,cK]
   rw[iU,show IntKind.wrap .u8 16=16 by decide,bL,show decide ((iR s[i] : Int) ≥ 16)=false by simp; omega,aX,bL,show decide ((ik (s.take i) : Int) ≥ 1152921504606846976)=false by simp; omega,aX,iU,show IntKind.wrap .u64 16=16 by decide,
    oW,C8 (by omega) (by omega),iU,C8 (by omega) (by omega),iQ,C8 (by omega) (by omega),dF,show decide ((ik (s.take i) : Int) * 16 + (iR s[i] : Int)<(ik (s.take i) : Int) * 16)=false from decide_eq_false (by omega)]
   simp only[bP,bG]
   rw[show decide ((ik (s.take i) : Int) * 16 + (iR s[i] : Int) > 18446744073709551615)=false by simp; omega]
   simp only[cO,aX]
   have e:((ik (s.take (i + 1)) : Nat) : Int)=(ik (s.take i) : Int) * 16 + (iR s[i] : Int):=by rw[ht]; omega
   rw[e] at hJ
   exact hJ
  rw[bq]
  have h95:((s[i].toNat:Int) == 95)=false:=by
   cases hd:dG s[i] with
   | true =>
     unfold dG at hd
     simp only[Bool.and_eq_true,decide_eq_true_eq] at hd
     simp; omega
   | false =>
     have:=(J7 hmem hd).2.2.2
     simp; omega
  rw[h95]
  simp only[eU,cO,aX,bS,aN,gy]
  cases hd:dG s[i] with
  | true =>
    have hd':=hd
    unfold dG at hd'
    simp only[Bool.and_eq_true,decide_eq_true_eq] at hd'
    rw[show decide ((48:Int)≤(s[i].toNat:Int))=true by simp; omega]
    simp only[bI]
    rw[show decide ((s[i].toNat:Int)≤57)=true by simp; omega]
    simp only[bT,bN]
    rw[gu,fq (by omega) (by omega)]
    have hv:(s[i].toNat:Int) - 48=(iR s[i] : Int):=by unfold iR; rw[if_pos (by omega)]; omega
    rw[hv]
    exact hJ2
  | false =>
    obtain⟨q1,q2,q3,_⟩:=J7 hmem hd
    have hno:(decide ((48:Int)≤(s[i].toNat:Int)) && decide ((s[i].toNat:Int)≤57))=false:=by
     rw[← hd]; unfold dG; rfl
    refine gp (p:=decide ((s[i].toNat:Int)≤57)) (fun _ k hk=>hk) ?_
    rw[hno,aX]
    refine hl ?_
    rw[gy,show decide ((97:Int)≤wJ s[i].toNat)=true by simpa using q1]
    simp only[bI]
    refine hl ?_
    rw[gy,show decide (wJ s[i].toNat≤(122:Int))=true by simpa using q2]
    simp only[bT,bN]
    refine hl ?_
    rw[gu,fq (by omega) (by omega),iQ,fq (by omega) (by omega),q3]
    exact hJ2
 ·have:i=s.length:=by simp at h; omega
  subst this
  simp only[eU,cO,aX]
  rw[List.take_length]
  exact hQ _ hk1
theorem Er {cp ct:ak} (hp:EC cp) : EC fun args M Q=>∃ a0 a1 a2,args=[a0,a1,a2]∧kP cp ct a0 a1 a2 M Q:=by
 intro M s Q h1 h8 hx hQ
 refine⟨_,_,_,rfl, ?_⟩
 unfold kP
 refine hp h1 h8 hx fun M1 k1=>?_
 simp only[bz,bu]
 refine .inr ⟨rfl,rfl, ?_⟩
 dsimp only
 rw[show(!true)=false from rfl,aX]
 exact hQ M1 k1
def zW (n:Nat) : UInt8:=if n<10 then UInt8.ofNat (48 + n) else UInt8.ofNat (87 + n)
theorem Dq {base f n:Nat} (h:n<base) : nJ base (f + 1) n=[zW n]:=by
 rw[nJ,mI h]; rfl
theorem Ic {base f n:Nat} (h:¬ n<base) : nJ base (f + 1) n=nJ base f (n / base)++[zW (n % base)]:=by
 rw[nJ,fO h]; rfl
abbrev Ck:Str:=[48,49,50,51,52,53,54,55,56,57,97,98,99,100,101,102,103,104,105,106,107,108,109,110,111,112,113,114,115,116,117,118,119,120,121,122]
theorem OZ:∀ m:Fin 16,Ck[m.val]?=some (zW m.val):=by decide
theorem Kt {n:Nat} (h:n<16) {K:AV→Prop} : bQ (St Ck) (N .u64 (n:Int)) K=K (By (zW n)):=by
 have hl:n<Ck.length:=Nat.lt_of_lt_of_le h (by decide)
 rw[bK hl]
 have:=OZ ⟨n,h⟩
 rw[List.getElem?_eq_getElem hl] at this
 rw[Option.some.inj this]
def UK (B:Base) (c:ak) : Prop:=∀ {M:RM} {Q:ai},M.base=B→Q (N .i64 4) M→c [N .u64 16] M Q
def MG (c:ak) : Prop:=∀ {M:RM} {Q:ai},Q (Bo true) M→c [N .i64 16] M Q
theorem OU:MG fun args M Q=>∃ a0,args=[a0]∧fT a0 M Q:=by
 intro M Q hQ
 refine⟨_,rfl, ?_⟩
 unfold fT
 rw[gu,GL,show Mm .i64 16 (IntKind.wrap .i64 (16 - 1))=0 by decide +kernel,bq,show((0:Int) == 0)=true from rfl]
 exact hQ
def KY (B:Base) (c:ak) : Prop:=∀ {M:RM} {n:Nat} {Q:ai},M.base=B→n<4294967296→(∀ M',af [] M M'→Q (.tup [aA,St (gY n)]) M')→c [aA,N .u64 (n:Int),N .i64 16,Bo false,Bo false] M Q
theorem Ns {B:Base} {TA n:Nat} {cp ct:ak} (hp:MG cp) (ht:UK B ct) {M M0:RM} {zs:List AV} (hB:M.base=B) (hn:n<4294967296) (hzl:zs.length=65) (k0:af [] M M0) (n0:M0.heap M.next=some (.row zs false TA 0)) (l0:M.next<M0.next) :
  ∀ J13:List AV→RM→Prop,(∀ (i:Nat) (M3:RM) (X:List AV),M3.heap M.next=some (.row (X++BY.row (gY n)) false TA 0)→X.length=i→i + (gY n).length=65→af [] M M3→M.next<M3.next→J13 [N .i64 (i:Int)] M3) →
    eG (fun J13=>cp [N .i64 16] M0 fun t34 Im=>aj t34 ( gP .u64 (N .i64 16) fun t36=>ct [t36] Im fun t37 VN=>gP .u64 t37 fun t38=>gP .u64 (N .i64 16) fun t40=>gP .u64 (N .i64 16) fun t42=>ae .sub t42 (N .u64 1) fun t43=>cZ (fun next A7 Hf=>ae .geq (ag A7 0) t40 fun t46=>aj t46 ( ae .sub (ag A7 1) (N .i64 1) fun t48=>ae .and (ag A7 0) t43 fun t52=>bQ (St Ck) t52 fun t53=>oD (.ptr M.next 0) t48 65 1 fun t54=>az Hf t54 t53 1 fun OW=>Bp .shr (ag A7 0) t38 fun t57=>next [t57,t48] OW) ( ae .sub (ag A7 1) (N .i64 1) fun t59=>bQ (St Ck) (ag A7 0) fun t62=>oD (.ptr M.next 0) t59 65 1 fun t63=>az Hf t63 t62 1 fun Vz=>J13 [t59] Vz)) [N .u64 (n:Int),(N .i64 65)] VN) ( gP .u64 (N .i64 16) fun t65=>cZ (fun Q3 Ay Rf=>ae .geq (ag Ay 0) t65 fun t68=>aj t68 ( ae .sub (ag Ay 1) (N .i64 1) fun t70=>ae .quo (ag Ay 0) t65 fun t73=>ae .mul t73 t65 fun t78=>ae .sub (ag Ay 0) t78 fun t79=>bQ (St Ck) t79 fun t80=>oD (.ptr M.next 0) t70 65 1 fun t81=>az Rf t81 t80 1 fun Fb=>Q3 [t73,t70] Fb) ( ae .sub (ag Ay 1) (N .i64 1) fun t84=>bQ (St Ck) (ag Ay 0) fun t87=>oD (.ptr M.next 0) t84 65 1 fun t88=>az Rf t88 t87 1 fun Lc=>J13 [t84] Lc)) [N .u64 (n:Int),(N .i64 65)] Im)) J13:=by
 intro J13 hJ
 refine(show ∀ (f:(List AV→RM→Prop)→Prop) (g:List AV→RM→Prop),f g→eG f g from fun _ _ h=>h) _ _ ?_
 refine hp ?_
 rw[bN,iU,show IntKind.wrap .u64 16=16 by decide]
 refine ht (k0.base.trans hB) ?_
 rw[iU,show IntKind.wrap .u64 4=4 by decide,iU,show IntKind.wrap .u64 16=16 by decide,iU,show IntKind.wrap .u64 16=16 by decide,gu,show IntKind.wrap .u64 (16 - 1)=15 by decide]
 refine aZ (fun m ys M3=>∃ (u f:Nat) (X:List AV) (ds:Str),u=m∧ys=[N .u64 (u:Int),N .i64 (X.length:Int)]∧X.length + ds.length=65∧f + ds.length=20∧1≤f∧u<16 ^ f∧u<4294967296∧gY n=nJ 16 f u++ds∧M3.heap M.next=some (.row (X++BY.row ds) false TA 0)∧af [] M M3∧M.next<M3.next) _
  ⟨n,20,zs,[],rfl,by rw[hzl]; rfl,by rw[hzl]; rfl,rfl,by decide,Nat.lt_of_lt_of_le hn (by decide),hn,by unfold gY; rw[List.append_nil],by rw[Enc.Q4,List.append_nil]; exact n0,k0,l0⟩ ?_
 rintro next m ys M3 hnext ⟨u,f,X,ds,rfl,rfl,hXl,hf,hf1,huf,hu,Mv,hrow,k3,l3⟩
 simp only[aN,cK]
 have hXp:1≤X.length:=by omega
 obtain⟨Y,y,rfl⟩ : ∃ Y y,X=Y++[y]:=⟨X.dropLast,X.getLast (by intro e; rw[e] at hXp; simp at hXp),(List.dropLast_concat_getLast _).symm⟩
 simp only[List.length_append,List.length_cons,List.length_nil,Nat.zero_add] at hXl
 have hsub:∀ K:AV→Prop,ae .sub (N .i64 (((Y++[y]).length:Nat) : Int)) (N .i64 1) K=K (N .i64 (Y.length:Int)):=fun K=>by
  rw[show(N .i64 1)=N .i64 ((1:Nat) : Int) from rfl,sW (by simp) (by simp; omega)]
  simp
 have hidx:∀ K:AV→Prop,oD (.ptr M.next 0) (N .i64 (Y.length:Int)) 65 1 K=K (.ptr M.next Y.length):=fun K=>by
  rw[Pp]
  simp only[Int.toNat_natCast,Nat.mul_one,Nat.zero_add]
  exact propext ⟨fun h=>h.2.2,fun h=>⟨by omega,by omega,h⟩⟩
 have hset:∀ d:UInt8,((Y++[y])++BY.row ds).set Y.length (By d)=Y++BY.row (d :: ds):=fun d=>by
  rw[List.append_assoc,List.set_append_right _ _ (Nat.le_refl _),Nat.sub_self]
  rfl
 have hput:∀ (d:UInt8) (K:RM→Prop),az M3 (.ptr M.next Y.length) (By d) 1 K=K (M3.put M.next (.row (Y++BY.row (d :: ds)) false TA 0)):=fun d K =>
  eQ _ hrow (by simp) rfl rfl (hset d)
 have Sk:∀ d:UInt8,af [] M (M3.put M.next (.row (Y++BY.row (d :: ds)) false TA 0)):=fun d=>k3.new _ (Nat.le_refl _)
 rw[bL]
 refine aM (fun h=>?_) fun h=>?_
 ·have h16:¬ u<16:=by simp at h; omega
  obtain⟨g,rfl⟩ : ∃ g,f=g + 1:=⟨f - 1,by omega⟩
  have hg1:1≤g:=by
   rcases Nat.eq_zero_or_pos g with e | e
   ·subst e; simp at huf; omega
   ·exact e
  rw[hsub,GL,show(15:Int)=((15:Nat) : Int) from rfl,PL rfl]
  have hand:(u &&& 15) % 2 ^ Eb .u64=u % 16:=by
   rw[show(15:Nat)=2 ^ 4 - 1 from rfl,Nat.and_two_pow_sub_one_eq_mod]
   exact Nat.mod_eq_of_lt (Nat.lt_of_lt_of_le (Nat.mod_lt _ (by decide)) (by decide))
  rw[hand,Kt (Nat.mod_lt _ (by decide)),hidx,hput,Qz]
  refine⟨by decide, ?_⟩
  have Vd:O6 .u64 (u:Int) 4=((u / 16:Nat) : Int):=by
   unfold O6
   rw[show(2:Int) ^ min (Int.toNat 4) IntKind.u64.bits=16 by decide,Int.fdiv_eq_ediv_of_nonneg _ (by decide)]
   omega
  rw[Vd]
  refine hnext (u / 16) _ _ (by omega) ⟨u / 16,g,Y,zW (u % 16) :: ds,rfl,rfl,by simp; omega,by simp; omega,hg1, ?_,by omega, ?_,aB _,Sk _,l3⟩
  ·rw[Nat.pow_succ] at huf
   exact Nat.div_lt_of_lt_mul (by rw[Nat.mul_comm]; exact huf)
  ·rw[Mv,Ic h16]; simp
 ·have h16:u<16:=by simp at h; omega
  obtain⟨g,rfl⟩ : ∃ g,f=g + 1:=⟨f - 1,by omega⟩
  rw[hsub,Kt h16,hidx,hput]
  have hd:gY n=zW u :: ds:=by rw[Mv,Dq h16]; rfl
  refine hJ Y.length _ Y ?_ rfl (by rw[hd]; simp; omega) (Sk _) l3
  rw[hd]; exact aB _
theorem NR {B:Base} {TS TA T8:Nat} {cp ct:ak} (hp:MG cp) (ht:UK B ct) : KY B fun args M Q=>∃ a0 a1 a2 a3 a4,args=[a0,a1,a2,a3,a4]∧gG TS TA cp ct T8 a0 a1 a2 a3 a4 M Q:=by
 intro M n Q hB hn hQ
 refine⟨_,_,_,_,_,rfl, ?_⟩
 unfold gG
 refine kY [] M (fun J hJ=>?_) ?_
 ·rw[dF,show decide ((16:Int)<2)=false from rfl]
  simp only[bP,bq]
  rw[show((16:Int) == 10)=false from rfl]
  simp only[cO,bP,bG]
  rw[show decide ((16:Int) > 36)=false from rfl]
  simp only[cO,aX]
  exact hJ
 simp only[aV]
 generalize hz:([(N .u8 0),(N .u8 0),(N .u8 0),(N .u8 0),(N .u8 0),(N .u8 0),(N .u8 0),(N .u8 0),(N .u8 0),(N .u8 0),(N .u8 0),(N .u8 0),(N .u8 0),(N .u8 0),(N .u8 0),(N .u8 0),(N .u8 0),(N .u8 0),(N .u8 0),(N .u8 0),(N .u8 0),(N .u8 0),(N .u8 0),(N .u8 0),(N .u8 0),(N .u8 0),(N .u8 0),(N .u8 0),(N .u8 0),(N .u8 0),(N .u8 0),(N .u8 0),(N .u8 0),(N .u8 0),(N .u8 0),(N .u8 0),(N .u8 0),(N .u8 0),(N .u8 0),(N .u8 0),(N .u8 0),(N .u8 0),(N .u8 0),(N .u8 0),(N .u8 0),(N .u8 0),(N .u8 0),(N .u8 0),(N .u8 0),(N .u8 0),(N .u8 0),(N .u8 0),(N .u8 0),(N .u8 0),(N .u8 0),(N .u8 0),(N .u8 0),(N .u8 0),(N .u8 0),(N .u8 0),(N .u8 0),(N .u8 0),(N .u8 0),(N .u8 0),(N .u8 0)] : List AV)=zs
 have hzl:zs.length=65:=by rw[← hz]; rfl
 have k0:af [] M (M.push (.row zs false TA 0)):=(af.refl _ _).push _
 have n0:(M.push (.row zs false TA 0)).heap M.next=some (.row zs false TA 0):=by simp[RM.push]
 have l0:M.next<(M.push (.row zs false TA 0)).next:=by simp[RM.push]
 generalize M.push (.row zs false TA 0)=M0 at *
 refine kY [N .u64 (n:Int)] M0 (fun J hJ=>?_) ?_
 ·rw[aX]; exact hJ
 simp only[aN]
 -- the digits
 refine Ns hp ht hB hn hzl k0 n0 l0 _ ?_
 intro i M3 X hrow hX hil k3 l3
 simp only[aN]
 refine kY [N .i64 (i:Int)] M3 (fun J hJ=>?_) ?_
 ·rw[aX]; exact hJ
 simp only[aN]
 have hpos:0<(gY n).length:=by
  unfold gY
  rw[nJ]
  split <;> simp
 have hsub:tX 65 1 (.ptr M.next 0) (some (N .i64 (i:Int))) none=some (.slc M.next i (65 - i) (.ex (65 - i))):=by
  have e1:bnd 0 (some (N .i64 (i:Int)))=some i:=gz _ _ _
  have e2:bnd 65 none=some 65:=rfl
  simp only[tX,e1,e2]
  rw[if_pos ⟨(by omega:i≤65),Nat.le_refl _⟩,if_neg (by omega),Nat.zero_add,Nat.mul_one]
 rw[aX,hsub,cz]
 have hs:Sl BY M3 (.slc M.next i (65 - i) (.ex (65 - i))) (gY n):=by
  have e:65 - i=(gY n).length:=by omega
  unfold Sl
  rw[e]
  refine aJ.slc _ _ _ _ _ ?_ ?_
  ·exact l3
  ·rw[RM.iP hrow (by rw[List.length_append,kX,hX]; simp[BY])]
   rw[List.drop_left' hX,List.take_of_length_le (by rw[kX]; simp[BY])]
 rw[hs.str]
 exact hQ M3 k3
end Go.Ab.Hw
namespace Go.Ab.Hw
open Go Go.Ab Go.Ab.Sm
theorem Ot {B:Base} {TA:Nat} {c1 c2 c3 cb:ak} (hb:KY B cb) : Eo B fun args M Q=>∃ a0 a1,args=[a0,a1]∧gN c1 TA c2 c3 cb a0 a1 M Q:=by
 intro M n Q hB hn hQ
 refine⟨_,_,rfl, ?_⟩
 unfold gN
 rw[bq,show((16:Int) == 10)=false from rfl,aX,iU,C8 (by omega) (by omega),dF,show decide ((n:Int)<0)=false by simp]
 refine hb hB hn fun M1 k1=>?_
 simp only[bz,bu]
 exact hQ M1 k1
theorem PY {B:Base} {cf:ak} (hf:Eo B cf) : Eo B fun args M Q=>∃ a0 a1,args=[a0,a1]∧oJ cf a0 a1 M Q:=by
 intro M n Q hB hn hQ
 exact⟨_,_,rfl,hf hB hn hQ⟩
end Go.Ab.Hw
set_option maxRecDepth 100000
namespace Go.Ab.Dk
open Go Go.Ab
end Go.Ab.Dk
namespace Go.Ab.Crw
open Go Go.Ab
end Go.Ab.Crw
namespace Go.Ab
open Go Go.RowKit
section
variable {P:Program} {ρ:Ren} {M:RM} {w w' : World}
theorem NS {base:Base} {A:AW} (hw0:df P base ρ A w) (hbl:Below w.heap.size w w') (hbase:base≤w.heap.size) {x:iA} {ob:Obj} {i:fH} (hge:w.heap.size≤i.cb) (hob:w'.heap[i.cb]?=some ob)
  (hrel:iI P (ρ.add A.next i) i x ob) : df P base (ρ.add A.next i) (A.push x) w'∧Step base A.next ρ w (ρ.add A.next i) w':=by
 have hb:ρ A.next=none:=hw0.fresh (Nat.le_refl _)
 have hw:=vB hw0 x
 have hx:(A.push x).heap.get A.next=some x:=by simp[AW.push,Tree.bH]
 have hlt:A.next<(A.push x).next:=by simp[AW.push]
 have hle:=Ren.tY (i:=i) hb
 have hadd:∀ c j,ρ.add A.next i c=some j→(c=A.next∧j=i)∨(c≠A.next∧ρ c=some j):=by
  intro c j h
  unfold Ren.add at h
  split at h
  ·cases h; exact .inl ⟨‹_›,rfl⟩
  ·exact .inr ⟨‹_›,h⟩
 have hcb:i.cb<w'.heap.size:=(Array.getElem?_eq_some_iff.1 hob).1
 refine⟨⟨?_, ?_, ?_,hw.top, ?_,base.low w _ (fun c hc=>hbl.block c (by omega)) hw.inv⟩,⟨hbl.os,hbl.tape,hbl.output,hbl.size, ?_, ?_, ?_,fun c hc=>hbl.block c (by omega)⟩⟩
 ·intro c j h
  rcases hadd c j h with⟨rfl,rfl⟩ | ⟨_,h⟩
  ·exact⟨hlt,hcb⟩
  ·have:=hw.dom c j h; have:=hbl.size; omega
 ·intro c j y h hy
  rcases hadd c j h with⟨rfl,rfl⟩ | ⟨_,h⟩
  ·rw[hx] at hy; cases hy
   exact⟨ob,hob,hrel⟩
  ·obtain⟨o,ho,hr⟩:=hw.blk c j y h hy
   exact⟨o,by rw[hbl.block j.cb (hw.dom c j h).2]; exact ho,hr.mono hle⟩
 ·intro b1 b2 i1 i2 x1 x2 h1 h2 g1 g2 he
  rcases hadd _ _ h1 with⟨e1,f1⟩ | ⟨_,k1⟩ <;> rcases hadd _ _ h2 with⟨e2,f2⟩ | ⟨_,k2⟩
  ·rw[e1,e2]
  ·have:=(hw.dom _ _ k2).2; subst f1; omega
  ·have:=(hw.dom _ _ k1).2; subst f2; omega
  ·exact hw.sep _ _ _ _ _ _ k1 k2 g1 g2 he
 ·intro c j y h hy
  rcases hadd c j h with⟨rfl,rfl⟩ | ⟨_,h⟩
  ·omega
  ·exact hw.lo c j y h hy
 ·intro c hc _; exact hbl.block c hc
 ·intro c hc; unfold Ren.add; rw[if_neg (by omega)]
 ·intro c j h
  rcases hadd c j h with⟨rfl,rfl⟩ | ⟨_,h⟩
  ·exact .inr hge
  ·exact .inl ⟨c,j,h,rfl⟩
theorem eZ.Rp {f:FuncId} {args:List AV} {T n:Nat} {cs:List AV} {Q:ai} (hP:EJ P f) (hsz:aT P T=some 1) (h1:cs.all oneCell=true) (hlen:cs.length=n)
  (h:∀ (ρ:Ren) (w:World) (us:List Value),aO ρ args us→bY P ρ M w→Calls P f ⟨us⟩ w fun e w'=>∃ v xs,e=.returned v∧w'.ownsRow w.heap.size T 1 v n xs∧(∀ ρ',aO ρ' cs xs)∧Below w.heap.size w w')
  (hQ:∀ v M',Own M' M.next T 1 v cs n→af [] M M'→Q v M') : eZ P f args M Q:=by
 refine⟨hP,fun ρ w us hargs hw=>(h ρ w us hargs hw).mono fun e w' hR=>?_⟩
 obtain⟨v,xs,rfl,⟨hxl,hrow⟩,hrel,hbl⟩:=hR
 rcases hrow with⟨rfl,h0⟩ | ⟨g,cap,cur,rfl,hge,hg,r1,r2,r3,r4⟩
 ·have:cs=[]:=List.length_eq_zero_iff.1 (by omega)
  subst this
  have hn:n=0:=h0
  subst hn
  exact⟨_,aA,M,ρ,rfl,After.below hw hbl,.sc _ rfl,hQ _ _ .nil (af.refl _ _)⟩
 ·obtain⟨A,hA⟩:=hw
  obtain⟨tr,htr⟩:=jl cs .leaf 0 h1
  obtain⟨_,hget⟩:=fe _ _ _ htr
  obtain⟨_,hcell⟩:=vF htr
  have hblk:iI P (ρ.add A.next ⟨g,0,cap,1⟩) ⟨g,0,cap,1⟩ (.row n tr [] true T 0) (.cells cur T (0,0)):=by
   refine⟨cur,(0,0),rfl,⟨by show 0 + n≤_; omega,fun k x hx=>?_,fun k _ _=>by simp,fun h=>(by cases h),fun _=>⟨Nat.one_pos,by show cur.size=0 + cap * 1; omega,hsz⟩,rfl⟩⟩
   obtain⟨hk1,hk2⟩:=jT hx
   rw[hget,if_pos (by omega),Nat.sub_zero] at hk2
   obtain⟨v,hv,hvr⟩:=(hrel (ρ.add A.next ⟨g,0,cap,1⟩)).get hk2
   refine⟨v, ?_,hvr⟩
   show cur[0 + k]?=some v
   rw[Nat.zero_add,← Array.getElem?_toList]
   rw[← r4,Nat.mul_one,List.getElem?_take_of_lt (by omega)] at hv
   exact hv
  obtain⟨q1,q2⟩:=NS hA.rel hbl (Nat.le_trans (show M.base.n≤M.lo from Nat.le_refl _) hA.size) (i:=⟨g,0,cap,1⟩) hge hg hblk
  obtain⟨k1,k2,k3⟩:=RM.wD hA (x:=.row cs true T 0) (y:=.row n tr [] true T 0) ⟨hlen,rfl,rfl,rfl,fun k v hk=>by rw[← hlen]; exact hcell k v hk⟩
  have hnx:=hA.next
  refine⟨_,.slc M.next 0 n (.op 1),M.push (.row cs true T 0),_,rfl,iG hA q2 q1 k1 k2 (by simp[AW.push]) k3, ?_,hQ _ _ (.op M.next n cs (Nat.le_refl _) (by simp[RM.push]) (RM.lJ _) (by omega)) ((af.refl _ _).push _)⟩
  have:=ah.jD (ρ:=ρ.add A.next ⟨g,0,cap,1⟩) M.next 0 n ⟨g,0,cap,1⟩ (by rw[← hnx]; simp[Ren.add]) (by show 0 + n≤cap; omega)
  simpa using this
end
end Go.Ab
set_option maxRecDepth 10000
namespace Go.Ab.Hw
open Go Go.Ab Go.Ab.Sm
theorem JP {T8:Nat} : uW fun args M Q=>∃ a0,args=[a0]∧uY T8 a0 M Q:=by
 intro M s Q hl hQ
 refine⟨_,rfl, ?_⟩
 unfold uY
 simp only[bS,aV,gZ]
 have hk1:af [] M (M.push (.row (BY.row s) true T8 0)):=(af.refl _ _).push _
 have hr1:Rw BY (M.push (.row (BY.row s) true T8 0)) M.next true T8 s:=Rw.new M s
 generalize M.push (.row (BY.row s) true T8 0)=M1 at *
 refine aZ (fun m ys M3=>∃ i:Nat,m=s.length - i∧ys=[N .i64 i]∧i≤s.length∧Rw BY M3 M.next true T8 (upTo bU i s)∧af [] M M3) _
  ⟨0,rfl,rfl,Nat.zero_le _,by rw[FE]; exact hr1,hk1⟩ ?_
 rintro next m ys M3 hnext ⟨i,rfl,rfl,hi,hR,hK⟩
 simp only[go_sem]
 refine⟨fun hlt=>?_,fun hge=>?_⟩
 ·have hlt:i<s.length:=by simpa using hlt
  have hlen:i<(upTo bU i s).length:=by rw[Cr]; exact hlt
  have hg:=Cx bU hlt
  have hc:=hR.ax hlen
  have w1:=tu (show i<9223372036854775807 by omega)
  have hge:(upTo bU i s)[i]=s[i]:=Option.some.inj ((List.getElem?_eq_getElem hlen).symm.trans hg)
  rw[hge] at hc
  refine⟨by omega,_,hc, ?_⟩
  have same:bU s[i]=s[i]→next [N .i64 ((i + 1:Nat) : Int)] M3:=fun h=>by
   refine hnext _ _ _ (by omega) ⟨i + 1,rfl,rfl,by omega, ?_,hK⟩
   rw[Fe bU hlt h]
   exact hR
  have cb:=xQ s[i]
  simp only[w1]
  by_cases h1:65≤s[i].toNat
  ·have e1:((s[i].toNat:Int) ≥ 65):=by omega
   simp only[e1,decide_true,go_sem,if_true]
   refine⟨by omega,_,hc, ?_⟩
   by_cases h2:s[i].toNat≤90
   ·have e2:((s[i].toNat:Int)≤90):=by omega
    have hlow:bU s[i]=s[i] + 32:=by rw[bU,if_pos ⟨h1,h2⟩]
    have hn:(bU s[i]).toNat=s[i].toNat + 32:=by
     rw[hlow,UInt8.toNat_add]
     show(s[i].toNat + 32) % 256=_
     omega
    have wv:N IntKind.u8 (IntKind.u8.wrap ((s[i].toNat:Int) + 32))=By (bU s[i]):=by
     rw[By,hn]
     congr 1
     rw[fq (by omega) (by omega)]; omega
    obtain⟨hs,hR'⟩:=hR.CJ hlen (bU s[i])
    rw[Cf bU hlt] at hs hR'
    simp only[e2,decide_true,go_sem]
    refine⟨by omega,_,hc, ?_⟩
    simp only[go_sem]
    refine⟨by omega,_,(congrArg (fun x=>M3.stores M.next i [x]) wv).trans hs, ?_⟩
    exact hnext _ _ _ (by omega) ⟨i + 1,rfl,rfl,by omega,hR',hK.put _ (.inl (Nat.le_refl _))⟩
   ·have e2:¬ ((s[i].toNat:Int)≤90):=by omega
    simp only[e2,decide_false,go_sem]
    exact same (by rw[bU,if_neg (by omega)])
  ·have e1:¬ ((s[i].toNat:Int) ≥ 65):=by omega
   simp only[e1,decide_false,go_sem]
   exact same (by rw[bU,if_neg (by omega)])
 ·have:i=s.length:=by simp at hge; omega
  subst this
  rw[I5] at hR
  have:=hR.sl (cap:=.op 1)
  rw[List.length_map] at this
  rw[Sl.str this]
  exact hQ M3 hK
end Go.Ab.Hw
namespace Go.Ab.Hw
open Go Go.Ab
theorem BR (t:Str) : ∀ {s a r:Str},crlf s=some (a,r)→crlf (s++t)=some (a,r++t)
 | [],a,r,h=>by simp[crlf] at h
 | [_],a,r,h=>by simp[crlf] at h
 | x :: y :: s,a,r,h=>by
   rw[crlf] at h
   rw[List.cons_append,List.cons_append,crlf]
   cases hc:x == 13 && y == 10
   ·rw[hc] at h
    dsimp only at h ⊢
    cases hs:crlf (y :: s) with
    | none=>rw[hs] at h; cases h
    | some p =>
      rw[hs] at h
      obtain⟨a',r'⟩:=p
      cases h
      have:=BR t hs
      rw[List.cons_append] at this
      rw[this]
   ·rw[hc] at h
    cases h; rfl
theorem Jc {t:Str} : ∀ {s a r:Str},crlf s=none→crlf (s++t)=some (a,r)→s.length≤a.length + 1
 | [],a,r,_,_=>by simp
 | [_],a,r,_,_=>by simp
 | x :: y :: s,a,r,h,k=>by
   rw[crlf] at h
   rw[List.cons_append,List.cons_append,crlf] at k
   cases hc:x == 13 && y == 10
   ·rw[hc] at h k
    dsimp only at h k
    cases hs:crlf (y :: s) with
    | some p=>rw[hs] at h; cases h
    | none =>
      cases hs2:crlf (y :: (s++t)) with
      | none=>rw[hs2] at k; cases k
      | some p =>
        rw[hs2] at k
        obtain⟨a',r'⟩:=p
        cases k
        have:=Jc (t:=t) (s:=y :: s) (a:=a') (r:=r') hs (by rw[List.cons_append]; exact hs2)
        simp at this ⊢
        omega
   ·rw[hc] at h; cases h
end Go.Ab.Hw
namespace Go.Ab.Hw
open Go Go.Ab Go.Ab.Sm
open Go.Ab.Vl (brk)
theorem IP {p:UInt8→Bool} (h:(List.range 256).all (fun n=>p (UInt8.ofNat n))=true) (x:UInt8) : p x=true:=by
 have:=List.all_eq_true.1 h x.toNat (List.mem_range.2 x.toNat_lt)
 simpa using this
theorem II (s:Str) (x:UInt8) : dN (s++[x])=dN s * 10 + (x.toNat - 48):=by simp[dN]
theorem Pb (s:Str) (x:UInt8) : ik (s++[x])=ik s * 16 + iR x:=by simp[ik]
structure Xc (n:Nat) (s:Str) : Prop where
 val:dN s=n
 dig:s.all dG=true
 vals:s.all oZ=true
 bl:∀ x∈s,([32,9] : Str).contains x=false
 pos:1≤s.length
 len:∀ k,1≤k→n<10 ^ k→s.length≤k
structure Xd (n:Nat) (s:Str) : Prop where
 val:ik s=n
 dig:(low s).all jI=true
 no13:∀ x∈s,x≠13
 pos:1≤s.length
 len:∀ k,1≤k→n<16 ^ k→s.length≤k
theorem J8 {x:UInt8} {r:Str} : ∀ {s:Str},x ∉ s→brk x (s++x :: r)=some (s,r)
 | [],_=>by simp[brk]
 | c :: t,h=>by
   have hc:c≠x:=fun e=>h (by simp[e])
   have ht:x ∉ t:=fun e=>h (by simp[e])
   rw[List.cons_append,brk,if_neg hc,J8 ht]
   rfl
theorem xW {x:UInt8} : ∀ {s:Str},x ∉ s→words x s=[s]:=fun {s} h=>by
 rw[nH]
 cases hb:brk x s with
 | none=>rfl
 | some p =>
   obtain⟨a,b⟩:=p
   have:=uz hb
   have h0:s.count x=0:=List.count_eq_zero.2 h
   omega
theorem zM {x:UInt8} {s r:Str} (h:x ∉ s) : words x (s++x :: r)=s :: words x r:=by
 rw[nH,J8 h]
theorem SX:low iq=iq:=by decide
theorem Tm:low fC=fC:=by decide
end Go.Ab.Hw
namespace Go.Ab.Hw
open Go Go.Ab Go.Ab.Sm
open Go.Ab.Vl (brk di ek dJ bK)
theorem nG {p:UInt8→Bool} {s:Str} {i:Nat} (h:i<s.length) (hp:p s[i]=false) : s.all p=false:=by
 rw[← List.take_append_drop i s,List.all_append,List.drop_eq_getElem_cons h,List.all_cons,hp]; simp
theorem j5 {p:UInt8→Bool} {s:Str} {i:Nat} (h:i<s.length) (hA:(s.take i).all p=true) (hp:p s[i]=true) : (s.take (i + 1)).all p=true:=by
 rw[List.take_succ_eq_append_getElem h,List.all_append,hA]; simp[hp]
theorem FM (x:UInt8) : kE x=!(decide ((x.toNat:Int)<65) || decide ((x.toNat:Int) > 90)):=by
 unfold kE
 by_cases h1:(x.toNat:Int) ≥ 65 <;> by_cases h2:(x.toNat:Int)≤90 <;> simp[h1,h2] <;> omega
theorem Kl (x:UInt8) : qw x=!(decide ((x.toNat:Int)<33) || decide ((x.toNat:Int) > 126)):=by
 unfold qw
 by_cases h1:(x.toNat:Int) ≥ 33 <;> by_cases h2:(x.toNat:Int)≤126 <;> simp[h1,h2] <;> omega
theorem Oh (x:UInt8) : p32 x=!(decide ((x.toNat:Int)<32) || decide ((x.toNat:Int) > 126)):=by
 unfold p32
 by_cases h1:(x.toNat:Int) ≥ 32 <;> by_cases h2:(x.toNat:Int)≤126 <;> simp[h1,h2] <;> omega
theorem Aw (x:UInt8) : dG x=!(decide ((x.toNat:Int)<48) || decide ((x.toNat:Int) > 57)):=by
 unfold dG
 by_cases h1:(x.toNat:Int) ≥ 48 <;> by_cases h2:(x.toNat:Int)≤57 <;> simp[h1,h2] <;> omega
def dm (x:UInt8) : Bool:=((x.toNat:Int) == 32) || ((x.toNat:Int) == 9)
theorem Gi:mG dm fun args M Q=>∃ a0,args=[a0]∧qz a0 M Q:=by
 intro M x Q hQ
 refine⟨_,rfl, ?_⟩
 unfold qz
 simp only[bS,By,bq]
 exact mK (fun _ k hk=>by simpa only[go_sem] using hk) hQ
theorem ES:fP dY fun args M Q=>∃ a0,args=[a0]∧pq a0 M Q:=by
 intro M s Q hl hQ
 refine⟨_,rfl, ?_⟩
 unfold pq
 refine aZ (fun m ys M3=>∃ i:Nat,m=s.length - i∧ys=[N .i64 i]∧i≤s.length∧(s.take i).all kE=true∧M3=M) _ ⟨0,rfl,rfl,Nat.zero_le _,rfl,rfl⟩ ?_
 rintro next m ys M3 hnext ⟨i,rfl,rfl,hi,hA,rfl⟩
 simp only[aN,dS,iO,bS]
 refine aM (fun h=>?_) fun h=>?_
 ·have hlt:i<s.length:=by simpa using h
  rw[bK hlt,By,dF]
  refine mK (p:=decide ((s[i].toNat:Int) > 90)) (fun _ k hk=>by rw[bK hlt,By,bG]; exact hk) ?_
  refine aM (fun h=>?_) fun h=>?_
  ·have hf:kE s[i]=false:=by rw[FM,h]; rfl
   have:dY s=false:=by unfold dY; rw[nG hlt hf,Bool.and_false]
   rw[← this]; exact hQ _ (af.refl _ _)
  ·have ht:kE s[i]=true:=by rw[FM,h]; rfl
   rw[add1 (by omega)]
   exact hnext _ _ _ (by omega) ⟨i + 1,rfl,rfl,by omega,j5 hlt hA ht,rfl⟩
 ·have:i=s.length:=by simp at h; omega
  subst this
  rw[List.take_length] at hA
  rw[bL]
  refine gp (p:=decide ((s.length:Int)≤8)) (fun _ k hk=>by rw[gy]; exact hk) ?_
  have:dY s=(decide ((s.length:Int) ≥ 1) && decide ((s.length:Int)≤8)):=by unfold dY fM; rw[hA,Bool.and_true]
  rw[← this]; exact hQ _ (af.refl _ _)
theorem Wd (x:UInt8) (s:Str) : pre [x] s=(decide ((s.length:Int) ≥ 1) && (s.getD 0 0 == x)):=by
 unfold pre
 cases s with
 | nil=>rfl
 | cons a t =>
   simp
   intro
   omega
theorem Il:fP fo fun args M Q=>∃ a0,args=[a0]∧rT a0 M Q:=by
 intro M s Q hl hQ
 refine⟨_,rfl, ?_⟩
 unfold rT
 refine aZ (fun m ys M3=>∃ i:Nat,m=s.length - i∧ys=[N .i64 i]∧i≤s.length∧(s.take i).all qw=true∧M3=M) _ ⟨0,rfl,rfl,Nat.zero_le _,rfl,rfl⟩ ?_
 rintro next m ys M3 hnext ⟨i,rfl,rfl,hi,hA,rfl⟩
 simp only[aN,dS,iO,bS]
 refine aM (fun h=>?_) fun h=>?_
 ·have hlt:i<s.length:=by simpa using h
  rw[bK hlt,By,dF]
  refine mK (p:=decide ((s[i].toNat:Int) > 126)) (fun _ k hk=>by rw[bK hlt,By,bG]; exact hk) ?_
  refine aM (fun h=>?_) fun h=>?_
  ·have hf:qw s[i]=false:=by rw[Kl,h]; rfl
   have:fo s=false:=by unfold fo; rw[nG hlt hf,Bool.and_false]
   rw[← this]; exact hQ _ (af.refl _ _)
  ·have ht:qw s[i]=true:=by rw[Kl,h]; rfl
   rw[add1 (by omega)]
   exact hnext _ _ _ (by omega) ⟨i + 1,rfl,rfl,by omega,j5 hlt hA ht,rfl⟩
 ·have:i=s.length:=by simp at h; omega
  subst this
  rw[List.take_length] at hA
  rw[bL]
  have e:fo s=(decide ((s.length:Int) ≥ 1) && (((s.getD 0 0).toNat:Int) == 47) && decide ((s.length:Int)≤201)):=by
   unfold fo
   rw[hA,Bool.and_true,Wd]
   congr 2
   rw[Bool.eq_iff_iff,beq_iff_eq,beq_iff_eq]
   constructor
   ·intro e; rw[e]; rfl
   ·intro e
    have:(s.getD 0 0).toNat=47:=by omega
    exact UInt8.toNat_inj.1 this
  refine gp (p:=(((s.getD 0 0).toNat:Int) == 47)) (fun hc k hk=>?_) ?_
  ·have h1:0<s.length:=by simp at hc; omega
   have:=bK h1 .i64
   rw[show((0:Nat) : Int)=0 from rfl] at this
   rw[this,By,bq]
   have e0:s.getD 0 0=s[0]:=by simp[List.getD,h1]
   rw[e0] at hk
   exact hk
  refine gp (p:=decide ((s.length:Int)≤201)) (fun _ k hk=>by rw[gy]; exact hk) ?_
  rw[← e]; exact hQ _ (af.refl _ _)
def xS (x:UInt8) : Bool:=((decide ((x.toNat:Int) ≥ 97) && decide ((x.toNat:Int)≤122)) || (decide ((x.toNat:Int) ≥ 65) && decide ((x.toNat:Int)≤90))) || (decide ((x.toNat:Int) ≥ 48) && decide ((x.toNat:Int)≤57)) || ((x.toNat:Int) == 45)
theorem N7:∀ x,(xS x == qG (bU x))=true:=IP (by decide +kernel)
theorem P8 (x:UInt8) : qG (bU x)=xS x:=(eq_of_beq (N7 x)).symm
theorem Bz (s:Str) : eY s=(fM s 1 40 && s.all xS):=by
 unfold eY low
 rw[List.all_map]
 congr 2
 funext x
 exact P8 x
theorem IR:fP eY fun args M Q=>∃ a0,args=[a0]∧sI a0 M Q:=by
 intro M s Q hl hQ
 refine⟨_,rfl, ?_⟩
 unfold sI
 refine aZ (fun m ys M3=>∃ i:Nat,m=s.length - i∧ys=[N .i64 i]∧i≤s.length∧(s.take i).all xS=true∧M3=M) _ ⟨0,rfl,rfl,Nat.zero_le _,rfl,rfl⟩ ?_
 rintro next m ys M3 hnext ⟨i,rfl,rfl,hi,hA,rfl⟩
 simp only[aN,dS,iO,bS]
 refine aM (fun h=>?_) fun h=>?_
 ·have hlt:i<s.length:=by simpa using h
  rw[bK hlt,By]
  generalize hx:s[i]=x
  have bad:xS x=false→Q (Bo false) M3:=fun hf=>by
   have:eY s=false:=by rw[Bz,nG hlt (by rw[hx]; exact hf),Bool.and_false]
   rw[← this]; exact hQ _ (af.refl _ _)
  have good:xS x=true→next [N .i64 ((i + 1:Nat) : Int)] M3:=fun ht =>
   hnext _ _ _ (by omega) ⟨i + 1,rfl,rfl,by omega,j5 hlt hA (by rw[hx]; exact ht),rfl⟩
  unfold xS at bad good
  simp only[bL,gy,bq]
  generalize decide ((x.toNat:Int) ≥ 97)=a1 at *
  generalize decide ((x.toNat:Int)≤122)=a2 at *
  generalize decide ((x.toNat:Int) ≥ 65)=c1 at *
  generalize decide ((x.toNat:Int)≤90)=c2 at *
  generalize decide ((x.toNat:Int) ≥ 48)=d1 at *
  generalize decide ((x.toNat:Int)≤57)=d2 at *
  generalize ((x.toNat:Int) == 45)=e1 at *
  have ad:ae .add (N .i64 (i:Int)) (N .i64 1) (fun t10=>next [t10] M3)=next [N .i64 ((i + 1:Nat) : Int)] M3:=add1 (by omega)
  cases a1 <;> cases a2 <;> simp only[bX,bP,bI,eU,gq,bT,cO,bO,Bool.not_true,aX,ad] <;>
   first
   | exact good rfl
   | (cases c1 <;> cases c2 <;> simp only[bX,bP,bI,eU,gq,bT,cO,bO,Bool.not_true,aX,ad] <;>
     first
     | exact good rfl
     | (cases d1 <;> cases d2 <;> simp only[bX,bP,bI,eU,gq,bT,cO,bO,Bool.not_true,aX,ad] <;>
       first
       | exact good rfl
       | (cases e1
          ·exact aM (fun _=>bad rfl) (fun h=>by cases h)
          ·exact aM (fun h=>by cases h) (fun _=>good rfl))))
 ·have:i=s.length:=by simp at h; omega
  subst this
  rw[List.take_length] at hA
  rw[bL]
  refine gp (p:=decide ((s.length:Int)≤40)) (fun _ k hk=>by rw[gy]; exact hk) ?_
  have:eY s=(decide ((s.length:Int) ≥ 1) && decide ((s.length:Int)≤40)):=by rw[Bz]; unfold fM; rw[hA,Bool.and_true]
  rw[← this]; exact hQ _ (af.refl _ _)
theorem Jt:∀ x,(dm x == ([32,9] : Str).contains x)=true:=IP (by decide +kernel)
theorem L6 (x:UInt8) : ([32,9] : Str).contains x=dm x:=(eq_of_beq (Jt x)).symm
def jm (p:UInt8→Bool) (l:Str) : Str:=(l.reverse.dropWhile p).reverse
theorem CX (p:UInt8→Bool) (x:UInt8) (l:Str) : jm p (x :: l)=if (jm p l).isEmpty && p x then[] else x :: jm p l:=by
 unfold jm
 rw[List.reverse_cons,List.dropWhile_append]
 cases h:(l.reverse.dropWhile p) with
 | nil => 
   simp
   cases hp:p x <;> simp[List.dropWhile,hp]
 | cons a t=>simp
theorem uk (p:UInt8→Bool) : ∀ l:Str,(jm p l).dropWhile p=jm p (l.dropWhile p)
 | []=>rfl
 | x :: l=>by
   rw[CX]
   have ih:=uk p l
   cases hp:p x with
   | true =>
     rw[List.dropWhile_cons_of_pos hp,← ih]
     cases hd:jm p l with
     | nil=>simp[hd]
     | cons a t=>simp[hd,List.dropWhile_cons_of_pos hp]
   | false =>
     rw[List.dropWhile_cons_of_neg (by simp[hp])]
     simp[hp,CX]
theorem IB (s:Str) : trimB s=jm dm (s.dropWhile dm):=by
 unfold trimB Lib.trimS Lib.trimLeftS Lib.trimRightS
 have e:(fun x=>([32,9] : Str).contains x)=dm:=funext L6
 rw[e]
 exact uk dm s
theorem DZ {p:UInt8→Bool} {l:Str} {x:UInt8} : jm p (l++[x])=if p x then jm p l else l++[x]:=by
 unfold jm
 rw[List.reverse_append,List.reverse_singleton,List.singleton_append]
 cases h:p x <;> simp[List.dropWhile,h]
def GM (c:ak) : Prop:=∀ {M:RM} {s:Str} {Q:ai},s.length<4611686018427387904→Q (St (trimB s)) M→c [St s] M Q
theorem GX {cb:ak} (hb:mG dm cb) : GM fun args M Q=>∃ a0,args=[a0]∧sO cb a0 M Q:=by
 intro M s Q hl hQ
 refine⟨_,rfl, ?_⟩
 unfold sO
 refine aZ (fun m ys M3=>∃ u:Str,m=u.length∧ys=[St u]∧u.length≤s.length∧trimB s=jm dm (u.dropWhile dm)∧M3=M) _ ⟨s,rfl,rfl,Nat.le_refl _,IB s,rfl⟩ ?_
 rintro next m ys M3 hnext ⟨u,rfl,rfl,hu,e,rfl⟩
 simp only[aN,dS]
 have second:(∀ x t,u=x :: t→dm x=false)→cZ (fun Sa EI BK=>aS (ag EI 0) fun t14=>ae .gtr t14 (N .i64 0) fun t15=>aa t15 true (fun Vu=>Vu (ag EI 0) BK) (fun k=>k .undef BK) fun t17 Rh=>aa t15 true (fun WL=>WL (ag EI 0) Rh) (fun k=>k .undef Rh) fun t18 Im=>aa t15 true (fun Vv=>aS t18 fun t19=>Vv t19 Im) (fun k=>k .undef Im) fun Tq Hf=>aa t15 true (fun OM=>ae .sub Tq (N .i64 1) fun t20=>OM t20 Hf) (fun k=>k .undef Hf) fun Tt Cs=>aa t15 true (fun Wv=>bQ t17 Tt fun t21=>Wv t21 Cs) (fun k=>k .undef Cs) fun Sd Fb=>aa t15 true (fun VK=>cb [Sd] Fb fun t22 Ec=>VK t22 Ec) (fun k=>k .undef Fb) fun Re RY=>ay t15 Re (Bo false) fun t23=>aj t23 ( aS (ag EI 0) fun t26=>ae .sub t26 (N .i64 1) fun t27=>bB (bV (ag EI 0) none (some t27)) fun t28=>Sa [t28] RY) ( Q (ag EI 0) RY)) [St u] M3:=by
  intro h0
  have e1:u.dropWhile dm=u:=by
   cases u with
   | nil=>rfl
   | cons x t=>rw[List.dropWhile_cons_of_neg (by rw[h0 x t rfl]; decide)]
  rw[e1] at e
  refine aZ (fun m ys M4=>∃ u2:Str,m=u2.length∧ys=[St u2]∧u2.length≤s.length∧trimB s=jm dm u2∧M4=M3) _ ⟨u,rfl,rfl,hu,e,rfl⟩ ?_
  rintro Gy m ys M4 nP ⟨u2,rfl,rfl,hu2,e2,rfl⟩
  simp only[aN,dS,bS]
  rcases List.eq_nil_or_concat u2 with rfl | ⟨t,x,rfl⟩
  ·simp only[bG,List.length_nil]
   rw[show decide (((0:Nat) : Int) > 0)=false from rfl]
   simp only[eU,cO,aX]
   rw[e2] at hQ
   exact hQ
  ·rw[List.concat_eq_append] at *
   have hlen:(t++[x]).length=t.length + 1:=by simp
   rw[hlen] at hu2 ⊢
   rw[bG,show decide (((t.length + 1:Nat) : Int) > 0)=true from decide_eq_true (by omega)]
   simp only[bI]
   rw[show(N .i64 1)=N .i64 ((1:Nat) : Int) from rfl,sW (by omega) (by omega),Nat.add_sub_cancel,bK (by rw[hlen]; omega)]
   have hx:(t++[x])[t.length]'(by simp)=x:=by simp
   rw[hx]
   refine hb ?_
   simp only[bT]
   rw[DZ] at e2
   refine aM (fun h=>?_) fun h=>?_
   ·rw[h,if_pos rfl] at e2
    rw[sW (by omega) (by omega),Nat.add_sub_cancel,dJ (by rw[hlen]; omega),cz,List.take_left' rfl]
    exact nP _ _ _ (by omega) ⟨t,rfl,rfl,by omega,e2,rfl⟩
   ·rw[h,if_neg (by decide)] at e2
    rw[e2] at hQ
    exact hQ
 cases u with
 | nil =>
   simp only[bG,List.length_nil]
   rw[show decide (((0:Nat) : Int) > 0)=false from rfl]
   simp only[eU,cO,aX]
   exact second (fun x t h=>by cases h)
 | cons x t =>
   rw[bG,show decide ((((x :: t).length:Nat) : Int) > 0)=true from decide_eq_true (by rw[List.length_cons]; omega)]
   simp only[bI]
   have hx:(x :: t)[0]'(by simp)=x:=rfl
   have:=bK (s:=x :: t) (i:=0) (by simp) .i64
   rw[show((0:Nat) : Int)=0 from rfl] at this
   rw[this,hx]
   refine hb ?_
   simp only[bT]
   refine aM (fun h=>?_) fun h=>?_
   ·have:=di (s:=x :: t) (l:=1) (by simp) .i64
    rw[show((1:Nat) : Int)=1 from rfl] at this
    rw[this,cz]
    rw[List.dropWhile_cons_of_pos h] at e
    exact hnext _ _ _ (by simp) ⟨t,rfl,rfl,by simp at hu; omega,e,rfl⟩
   ·exact second (fun y t' h'=>by cases h'; exact h)
end Go.Ab.Hw
namespace Go.Ab.Hw
open Go Go.Ab Go.Ab.Sm
open Go.Ab.Vl (brk di ek dJ bK gX gT)
theorem Bs.read {M:RM} {v:AV} {b:Str} (h:Bs M v b) {i:Nat} (hi:i<b.length) {K:AV→Prop} : (bZ v (N .i64 (i:Int)) 1 fun t=>ax M t K)=K (By b[i]):=by
 obtain⟨c,o,_,_,hix,hld⟩:=h.sl.WU (i:Int) hi
 rw[hix,dI,hld _ rfl]
 exact propext ⟨fun⟨v,e,k⟩=>by cases e; exact k,fun k=>⟨_,rfl,k⟩⟩
def mX (b:Str) : Option Nat:=(crlf b).map (fun p=>p.1.length)
def Cj:Option Nat→Int
 | none=>-1
 | some n=>n
theorem OB (x y:UInt8) (t:Str) : mX (x :: y :: t)=if x == 13 && y == 10 then some 0 else(mX (y :: t)).map (· + 1):=by
 unfold mX
 rw[crlf]
 cases h:x == 13 && y == 10 with
 | true=>rfl
 | false =>
   dsimp only
   cases crlf (y :: t) with
   | none=>rfl
   | some p=>rfl
def KP (c:ak) : Prop:=∀ {M:RM} {v:AV} {b:Str} {Q:ai},Bs M v b→b.length≤1000000000→Q (N .i64 (Cj (mX b))) M→c [v] M Q
theorem sw (x:UInt8) (n:Nat) (hn:n<256) : ((x.toNat:Int) == (n:Int))=(x == UInt8.ofNat n):=by
 rw[Bool.eq_iff_iff,beq_iff_eq,beq_iff_eq]
 constructor
 ·intro h
  have:x.toNat=n:=by omega
  rw[← this]; simp
 ·intro h
  rw[h,UInt8.toNat_ofNat',Nat.mod_eq_of_lt (by omega)]
theorem JA:KP fun args M Q=>∃ a0,args=[a0]∧vD a0 M Q:=by
 intro M v b Q hv hl hQ
 refine⟨_,rfl, ?_⟩
 unfold vD
 refine aZ (fun m ys M3=>∃ i:Nat,m=b.length - i∧ys=[N .i64 i]∧i≤b.length∧mX b=(mX (b.drop i)).map (· + i)∧M3=M) _ ⟨0,rfl,rfl,Nat.zero_le _,by simp,rfl⟩ ?_
 rintro next m ys M3 hnext ⟨i,rfl,rfl,hi,e,rfl⟩
 simp only[aN,bS,hv.len]
 rw[gu,bn (by omega) (by omega),dF]
 refine aM (fun h=>?_) fun h=>?_
 ·have hlt:i + 1<b.length:=by simp at h; omega
  have hd:b.drop i=b[i] :: b[i + 1] :: b.drop (i + 2):=by
   rw[List.drop_eq_getElem_cons (by omega:i<b.length),List.drop_eq_getElem_cons hlt]
  have hd1:b.drop (i + 1)=b[i + 1] :: b.drop (i + 2):=List.drop_eq_getElem_cons hlt
  rw[hv.read (by omega:i<b.length),By,bq,show((b[i].toNat:Int) == 13)=(b[i] == 13) from sw _ 13 (by decide)]
  refine gp (p:=b[i + 1] == 10) (fun _ k hk=>?_) ?_
  ·rw[add1 (by omega),hv.read hlt,By,bq,show((b[i + 1].toNat:Int) == 10)=(b[i + 1] == 10) from sw _ 10 (by decide)]
   exact hk
  rw[hd,OB] at e
  refine aM (fun h=>?_) fun h=>?_
  ·rw[h,if_pos rfl] at e
   rw[e] at hQ
   simpa [Cj] using hQ
  ·rw[h,if_neg (by decide)] at e
   rw[add1 (by omega)]
   refine hnext _ _ _ (by omega) ⟨i + 1,rfl,rfl,by omega, ?_,rfl⟩
   rw[hd1,e,Option.map_map]
   congr 1
   funext n
   simp; omega
 ·have hge:b.length≤i + 1:=by simp at h; omega
  have hn:mX (b.drop i)=none:=by
   have:(b.drop i).length≤1:=by simp; omega
   match b.drop i,this with
   | [],_=>rfl
   | [x],_=>rfl
  rw[hn] at e
  rw[e] at hQ
  exact hQ
def nW (x:UInt8) : Bool:=(decide ((x.toNat:Int) ≥ 48) && decide ((x.toNat:Int)≤57)) || (decide ((x.toNat:Int) ≥ 97) && decide ((x.toNat:Int)≤102)) || (decide ((x.toNat:Int) ≥ 65) && decide ((x.toNat:Int)≤70))
theorem PR:∀ x,(nW x == jI (bU x))=true:=IP (by decide +kernel)
theorem Q0 (x:UInt8) : jI (bU x)=nW x:=(eq_of_beq (PR x)).symm
theorem kG (s:Str) : (low s).all jI=s.all nW:=by
 unfold low
 rw[List.all_map]
 congr 1
 funext x
 exact Q0 x
theorem PT {x:UInt8} (h1:(x.toNat:Int) ≥ 48) (h2:(x.toNat:Int)≤57) : ((x.toNat:Int) - 48=(iR x:Int)):=by
 unfold iR
 rw[if_pos (by omega)]; omega
theorem Me {x:UInt8} (h1:(x.toNat:Int) ≥ 97) (h2:(x.toNat:Int)≤102) : ((x.toNat:Int) - 97 + 10=(iR x:Int)):=by
 unfold iR
 rw[if_neg (by omega),if_neg (by omega)]; omega
theorem Lp {x:UInt8} (h1:(x.toNat:Int) ≥ 65) (h2:(x.toNat:Int)≤70) : ((x.toNat:Int) - 65 + 10=(iR x:Int)):=by
 unfold iR
 rw[if_neg (by omega),if_pos (by omega)]; omega
def MC (c:ak) : Prop:=∀ {M:RM} {s:Str} {Q:ai},s.length≤1000000000→(ic s=true→Q (.tup [N .i64 (ik s:Int),Bo true]) M)→(∀ n:Int,ic s=false→Q (.tup [N .i64 n,Bo false]) M)→c [St s] M Q
theorem Q9 {k:Nat} (h:k≤8) : 16 ^ k≤4294967296:=Nat.pow_le_pow_right (n:=16) (by decide) h
theorem JF:MC fun args M Q=>∃ a0,args=[a0]∧uX a0 M Q:=by
 intro M s Q hl hQ hQ2
 refine⟨_,rfl, ?_⟩
 unfold uX
 refine aZ (fun m ys M3=>∃ (i:Nat) (n:Int),m=s.length - i∧ys=[N .i64 n,N .i64 i]∧i≤s.length∧(s.take i).all nW=true∧(i≤8→n=(ik (s.take i) : Int))∧M3=M) _ ⟨0,0,rfl,rfl,Nat.zero_le _,rfl,fun _=>rfl,rfl⟩ ?_
 rintro next m ys M3 hnext ⟨i,n,rfl,rfl,hi,hA,hn,rfl⟩
 simp only[aN,cK,dS,iO,bS]
 refine aM (fun h=>?_) fun h=>?_
 ·have hlt:i<s.length:=by simpa using h
  rw[gX]
  refine gT (fun xs M4=>M4=M3∧∃ n' : Int,xs=[N .i64 n']∧nW s[i]=true∧(i + 1≤8→n'=(ik (s.take (i + 1)) : Int))) ?_ ?_
  ·rintro xs M4 ⟨rfl,n',rfl,hx,hn'⟩
   simp only[aN]
   rw[add1 (by omega)]
   exact hnext _ _ _ (by omega) ⟨i + 1,n',rfl,rfl,by omega,j5 hlt hA hx,hn',rfl⟩
  ·intro J hJ
   rw[bK hlt,By]
   generalize hx:s[i]=x
   have step:∀ d:Int,d=(iR x:Int)→nW x=true→i + 1≤8→(16 * n + d=(ik (s.take (i + 1)) : Int))∧-9000000000≤16 * n∧16 * n≤9000000000000:=by
    intro d hd hb h8
    have h1:=pK (s:=s.take i) (by rw[kG]; exact hA) (by simp; omega)
    rw[List.take_succ_eq_append_getElem hlt,Pb,hx,hn (by omega),hd]
    refine⟨by omega,by omega,by omega⟩
   have ux:=xQ x
   rw[bL]
   refine gp (p:=decide ((x.toNat:Int)≤57)) (fun _ k hk=>by rw[gy]; exact hk) ?_
   refine aM (fun h=>?_) fun h1=>?_
   ·simp only[Bool.and_eq_true,decide_eq_true_eq] at h
    have hb:nW x=true:=by unfold nW; simp[h.1,h.2]
    rw[oW,gu,iU,iQ]
    refine hJ _ _ ⟨rfl,_,rfl,by rw[hx]; exact hb,fun h8=>?_⟩
    obtain⟨h3,h4,h5⟩:=step _ (PT h.1 h.2) hb h8
    rw[fq (by omega) (by omega),bn (n:=16 * n) (by omega) (by omega),bn (n:=(x.toNat:Int) - 48) (by omega) (by omega),h3]
    have:=pK (s:=s.take (i + 1)) (by rw[kG]; exact j5 hlt hA (by rw[hx]; exact hb)) (by simp; omega)
    exact bn (by omega) (by omega)
   rw[bL]
   refine gp (p:=decide ((x.toNat:Int)≤102)) (fun _ k hk=>by rw[gy]; exact hk) ?_
   refine aM (fun h=>?_) fun h2=>?_
   ·simp only[Bool.and_eq_true,decide_eq_true_eq] at h
    have hb:nW x=true:=by unfold nW; simp[h.1,h.2]
    rw[oW,gu,iU,iQ,iQ]
    refine hJ _ _ ⟨rfl,_,rfl,by rw[hx]; exact hb,fun h8=>?_⟩
    obtain⟨h3,h4,h5⟩:=step _ (Me h.1 h.2) hb h8
    rw[fq (by omega) (by omega),bn (n:=16 * n) (by omega) (by omega),bn (n:=(x.toNat:Int) - 97) (by omega) (by omega),bn (n:=16 * n + ((x.toNat:Int) - 97)) (by omega) (by omega),Int.add_assoc,h3]
    have:=pK (s:=s.take (i + 1)) (by rw[kG]; exact j5 hlt hA (by rw[hx]; exact hb)) (by simp; omega)
    exact bn (by omega) (by omega)
   rw[bL]
   refine gp (p:=decide ((x.toNat:Int)≤70)) (fun _ k hk=>by rw[gy]; exact hk) ?_
   refine aM (fun h=>?_) fun h3=>?_
   ·simp only[Bool.and_eq_true,decide_eq_true_eq] at h
    have hb:nW x=true:=by unfold nW; simp[h.1,h.2]
    rw[oW,gu,iU,iQ,iQ]
    refine hJ _ _ ⟨rfl,_,rfl,by rw[hx]; exact hb,fun h8=>?_⟩
    obtain⟨h3,h4,h5⟩:=step _ (Lp h.1 h.2) hb h8
    rw[fq (by omega) (by omega),bn (n:=16 * n) (by omega) (by omega),bn (n:=(x.toNat:Int) - 65) (by omega) (by omega),bn (n:=16 * n + ((x.toNat:Int) - 65)) (by omega) (by omega),Int.add_assoc,h3]
    have:=pK (s:=s.take (i + 1)) (by rw[kG]; exact j5 hlt hA (by rw[hx]; exact hb)) (by simp; omega)
    exact bn (by omega) (by omega)
   ·have hf:nW s[i]=false:=by rw[hx]; unfold nW; rw[h1,h2,h3]; rfl
    refine hQ2 0 ?_
    unfold ic
    rw[kG,nG hlt hf,Bool.and_false]
 ·have:i=s.length:=by simp at h; omega
  subst this
  rw[List.take_length] at hA hn
  rw[bL]
  refine gp (p:=decide ((s.length:Int)≤8)) (fun _ k hk=>by rw[gy]; exact hk) ?_
  have e:ic s=(decide ((s.length:Int) ≥ 1) && decide ((s.length:Int)≤8)):=by unfold ic fM; rw[kG,hA,Bool.and_true]
  rw[← e]
  cases ho:ic s with
  | true =>
    rw[ho] at e
    have:s.length≤8:=by
     have:=e.symm
     simp only[Bool.and_eq_true,decide_eq_true_eq] at this
     omega
    rw[hn this]
    exact hQ ho
  | false=>exact hQ2 n ho
theorem P6 {x:UInt8} : ∀ {s:Str} {i:Nat},(∀ y∈s.take i,y≠x)→brk x s=(brk x (s.drop i)).map (fun p=>(s.take i++p.1,p.2)):=by
 intro s
 induction s with
 | nil =>
   intro i _
   rw[List.drop_nil]
   rfl
 | cons y s ih =>
   intro i h
   cases i with
   | zero=>simp
   | succ i =>
     rw[List.take_succ_cons] at h
     have hy:y≠x:=h y List.mem_cons_self
     have:=ih (i:=i) (fun z hz=>h z (List.mem_cons_of_mem _ hz))
     rw[brk,if_neg hy,this,List.drop_succ_cons,List.take_succ_cons]
     cases brk x (s.drop i) with
     | none=>rfl
     | some p=>rfl
theorem FQ (p:UInt8→Bool) (l:Str) : (jm p l).length≤l.length:=by
 unfold jm
 rw[List.length_reverse]
 refine Nat.le_trans (List.IsSuffix.length_le (List.dropWhile_suffix p)) ?_
 rw[List.length_reverse]
 exact Nat.le_refl _
theorem Ov (s:Str) (h:0<s.length) : (s == trimB s)=(!dm (s[0]) && !dm (s[s.length - 1])):=by
 rw[IB]
 cases s with
 | nil=>simp at h
 | cons x t =>
   cases hx:dm x with
   | true =>
     rw[List.dropWhile_cons_of_pos hx]
     have h1:=FQ dm (t.dropWhile dm)
     have h2:(t.dropWhile dm).length≤t.length:=List.IsSuffix.length_le (List.dropWhile_suffix dm)
     have h3:(x :: t)≠jm dm (t.dropWhile dm):=fun e=>by
      have:=congrArg List.length e
      rw[List.length_cons] at this
      omega
     have e0:(x :: t)[0]=x:=rfl
     rw[e0,hx]
     simpa using h3
   | false =>
     rw[List.dropWhile_cons_of_neg (by rw[hx]; decide)]
     have e0:(x :: t)[0]=x:=rfl
     rw[e0,hx]
     rcases List.eq_nil_or_concat (x :: t) with e | ⟨u,y,e⟩
     ·cases e
     ·rw[List.concat_eq_append] at e
      have hl:(x :: t)[(x :: t).length - 1]'(by simp)=y:=by simp[e]
      rw[hl,e,DZ]
      cases hy:dm y with
      | true =>
        rw[if_pos rfl]
        have h1:=FQ dm u
        have h3:u++[y]≠jm dm u:=fun e=>by
         have:=congrArg List.length e
         rw[List.length_append,List.length_singleton] at this
         omega
        simpa using h3
      | false=>simp
theorem QX (x:UInt8) : oZ x=!(!((x.toNat:Int) == 9) && (decide ((x.toNat:Int)<32) || decide ((x.toNat:Int) > 126))):=by
 unfold oZ
 by_cases h1:(x.toNat:Int) ≥ 32 <;> by_cases h2:(x.toNat:Int)≤126 <;> by_cases h3:(x.toNat:Int)=9 <;> simp[h1,h2,h3] <;> omega
theorem F5 {cb:ak} (hb:mG dm cb) : fP dW fun args M Q=>∃ a0,args=[a0]∧qp cb a0 M Q:=by
 intro M s Q hl hQ
 refine⟨_,rfl, ?_⟩
 unfold qp
 refine aZ (fun m ys M3=>∃ i:Nat,m=s.length - i∧ys=[N .i64 i]∧i≤s.length∧(s.take i).all oZ=true∧M3=M) _ ⟨0,rfl,rfl,Nat.zero_le _,rfl,rfl⟩ ?_
 rintro next m ys M3 hnext ⟨i,rfl,rfl,hi,hA,rfl⟩
 simp only[aN,dS,iO,bS]
 refine aM (fun h=>?_) fun h=>?_
 ·have hlt:i<s.length:=by simpa using h
  have ib:∀ {K:AV→Prop},bQ (St s) (N .i64 (i:Int)) K=K (By s[i]):=bK hlt .i64 _
  have bad:oZ s[i]=false→Q (Bo false) M3:=fun hf=>by
   have:dW s=false:=by unfold dW; rw[nG hlt hf,Bool.and_false]
   rw[← this]; exact hQ _ (af.refl _ _)
  have good:oZ s[i]=true→next [N .i64 ((i + 1:Nat) : Int)] M3:=fun ht =>
   hnext _ _ _ (by omega) ⟨i + 1,rfl,rfl,by omega,j5 hlt hA ht,rfl⟩
  have ad:ae .add (N .i64 (i:Int)) (N .i64 1) (fun t10=>next [t10] M3)=next [N .i64 ((i + 1:Nat) : Int)] M3:=add1 (by omega)
  rw[QX] at bad good
  simp only[ib,By,dV,dF,bG]
  rw[show((s[i].toNat:Int) != 9)=!((s[i].toNat:Int) == 9) from rfl]
  generalize ((s[i].toNat:Int) == 9)=c1 at *
  generalize decide ((s[i].toNat:Int)<32)=c2 at *
  generalize decide ((s[i].toNat:Int) > 126)=c3 at *
  cases c1 <;> cases c2 <;> simp only[Bool.not_true,Bool.not_false,bX,bP,bI,eU,gq,bT,cO,aX,bN,ad] <;>
   first
   | exact good rfl
   | exact bad rfl
   | (cases c3
      ·exact aM (fun h=>by cases h) (fun _=>good rfl)
      ·exact aM (fun _=>bad rfl) (fun h=>by cases h))
 ·have:i=s.length:=by simp at h; omega
  subst this
  rw[List.take_length] at hA
  have e:dW s=(s == trimB s):=by unfold dW; rw[hA,Bool.and_true]
  rw[e] at hQ
  rw[bq]
  by_cases h0:s.length=0
  ·have:s=[]:=List.length_eq_zero_iff.1 h0
   subst this
   simp only[List.length_nil]
   rw[show(((0:Nat) : Int) == 0)=true from rfl]
   simp only[bX,gq,bT]
   exact hQ _ (af.refl _ _)
  ·have hp:0<s.length:=by omega
   rw[Ov s hp] at hQ
   have i0:∀ {K:AV→Prop},bQ (St s) (N .i64 0) K=K (By s[0]):=bK hp .i64 _
   have i1:∀ {K:AV→Prop},bQ (St s) (N .i64 ((s.length - 1:Nat) : Int)) K=K (By (s[s.length - 1]'(by omega))):=bK (by omega) .i64 _
   have e00:((s.length:Int) == 0)=false:=beq_eq_false_iff_ne.2 (by omega)
   rw[e00]
   simp only[bP,i0,cO]
   refine hb ?_
   simp only[bO]
   have sb:∀ {K:AV→Prop},ae .sub (N .i64 (s.length:Int)) (N .i64 1) K=K (N .i64 ((s.length - 1:Nat) : Int)):=sW (j:=1) (by omega) (by omega)
   cases hb0:dm s[0] with
   | true =>
     rw[hb0] at hQ
     simp only[Bool.not_true,eU,gq,cO]
     exact hQ _ (af.refl _ _)
   | false =>
     rw[hb0] at hQ
     simp only[Bool.not_false,bI,sb,i1]
     refine hb ?_
     simp only[bO,bT]
     exact hQ _ (af.refl _ _)
def CG (c:ak) : Prop:=∀ {M:RM} {s:Str} {Q:ai},s.length≤1000000 →
 (∀ h M',dZ s=some h→af [] M M'→Q (.tup [.agg [St h.1,St h.2],Bo true]) M')→(∀ a b M',dZ s=none→af [] M M'→Q (.tup [.agg [St a,St b],Bo false]) M')→c [St s] M Q
theorem E5 {T:Nat} {cn ct cv:ak} (hn:fP eY cn) (ht:GM ct) (hv:fP dW cv) : CG fun args M Q=>∃ a0,args=[a0]∧pQ T cn ct cv a0 M Q:=by
 intro M s Q hl hQ hE
 refine⟨_,rfl, ?_⟩
 unfold pQ
 simp only[aV]
 have k0:af [] M (M.push (.row [St [],St []] false T 0)):=(af.refl _ _).push _
 have n0:(M.push (.row [St [],St []] false T 0)).heap M.next=some (.row [St [],St []] false T 0):=by simp[RM.push]
 have l0:M.next<(M.push (.row [St [],St []] false T 0)).next:=by simp[RM.push]
 generalize M.push (.row [St [],St []] false T 0)=M0 at *
 have err:∀ (M1:RM) (x y:Str),af [] M0 M1→dZ s=none→az M1 (.ptr M.next 0) (.agg [St x,St y]) 2 fun Lc=>aL Lc (.ptr M.next 0) 2 fun res=>Q (.tup [res,Bo false]) Lc:=by
  intro M1 x y k1 e
  have n1:=k1.aC n0 l0 (by simp)
  rw[dQ n1 (by rfl) (by rfl) (by rfl),aQ (aB _) (by rfl)]
  exact hE x y _ e ((k0.trans k1).new _ (Nat.le_refl _))
 refine aZ (fun m ys M3=>∃ i:Nat,m=s.length - i∧ys=[N .i64 i]∧i≤s.length∧(∀ y∈s.take i,y≠58)∧M3=M0) _ ⟨0,rfl,rfl,Nat.zero_le _,by simp,rfl⟩ ?_
 rintro next m ys M3 hnext ⟨i,rfl,rfl,hi,hA,rfl⟩
 have En:=P6 hA
 simp only[aN,dS,iO,bS]
 refine gp (p:=!(s.getD i 0 == 58)) (fun hc k hk=>?_) ?_
 ·have hlt:i<s.length:=by simpa using hc
  rw[bK hlt,By,dV,show((s[i].toNat:Int) != 58)=!(s[i] == 58) from congrArg (!·) (sw _ 58 (by decide))]
  have e0:s.getD i 0=s[i]:=by simp[List.getD,hlt]
  rw[e0] at hk
  exact hk
 refine aM (fun h=>?_) fun h=>?_
 ·simp only[Bool.and_eq_true,decide_eq_true_eq,Bool.not_eq_true',beq_eq_false_iff_ne] at h
  have hlt:=h.1
  have e0:s.getD i 0=s[i]:=by simp[List.getD,hlt]
  rw[e0] at h
  rw[add1 (by omega)]
  refine hnext _ _ _ (by omega) ⟨i + 1,rfl,rfl,by omega,fun y hy=>?_,rfl⟩
  rw[List.take_succ_eq_append_getElem hlt] at hy
  rcases List.mem_append.1 hy with hy | hy
  ·exact hA y hy
  ·have:y=s[i]:=by simpa using hy
   rw[this]; exact h.2
 ·rw[bq,show((i:Int) == (s.length:Int))=decide (i=s.length) by rw[Bool.eq_iff_iff,beq_iff_eq,decide_eq_true_iff]; omega]
  by_cases he:i=s.length
  ·rw[decide_eq_true he]
   simp only[bX,bT,bN]
   rw[eu]
   refine⟨_,rfl,err _ _ _ (af.refl _ _) ?_⟩
   rw[he,List.drop_length] at En
   unfold dZ
   rw[En]; rfl
  ·have hlt:i<s.length:=by omega
   have e0:s.getD i 0=s[i]:=by simp[List.getD,hlt]
   have h58:s[i]=58:=by
    rw[e0] at h
    simpa [hlt] using h
   rw[decide_eq_false he]
   have e3:s.drop i=58 :: s.drop (i + 1):=by rw[List.drop_eq_getElem_cons hlt,h58]
   rw[e3,brk,if_pos rfl] at En
   have En:brk 58 s=some (s.take i,s.drop (i + 1)):=by rw[En]; simp
   have hD:dZ s=match eY (s.take i) && dW (trimB (s.drop (i + 1))) with
    | true=>some (s.take i,trimB (s.drop (i + 1)))
    | false=>none:=by unfold dZ; rw[En]; try rfl
   simp only[bP]
   rw[dJ hi,cz]
   have tl:(s.take i).length≤s.length:=by rw[List.length_take]; omega
   have dl:(s.drop (i + 1)).length≤s.length:=by rw[List.length_drop]; omega
   have trl:=uj (s.drop (i + 1))
   refine hn (by omega) fun M1 k1=>?_
   simp only[bO,cO]
   refine aM (fun h=>?_) fun h=>?_
   ·rw[eu]
    refine⟨_,rfl,err _ _ _ k1 ?_⟩
    have:eY (s.take i)=false:=by simpa using h
    rw[hD,this]; rfl
   ·have hg:eY (s.take i)=true:=by simpa using h
    rw[add1 (by omega),di (by omega),cz]
    refine ht (by omega) ?_
    rw[cz,eu]
    refine⟨_,vM rfl rfl rfl rfl, ?_⟩
    refine hv (by omega) fun M2 k2=>?_
    rw[cz]
    refine⟨rfl, ?_⟩
    cases hv2:dW (trimB (s.drop (i + 1))) with
    | false =>
      exact err _ _ _ (k1.trans k2) (by rw[hD,hg,hv2]; rfl)
    | true =>
      have n2:=(k1.trans k2).aC n0 l0 (by simp)
      rw[dQ n2 (by rfl) (by rfl) (by rfl),aQ (aB _) (by rfl)]
      exact hQ (s.take i,trimB (s.drop (i + 1))) _ (by rw[hD,hg,hv2]; rfl) ((k0.trans (k1.trans k2)).new _ (Nat.le_refl _))
theorem Iq {x:UInt8} {s v:Str} (h:words x s=[v]) : v=s:=by
 rw[nH] at h
 cases hb:brk x s with
 | none=>rw[hb] at h; exact(List.cons.inj h).1.symm
 | some p =>
   rw[hb] at h
   have:=(List.cons.inj h).2
   exact absurd this (Ie x p.2)
theorem G7 {A C D:Str} (hA:(32:UInt8) ∉ A) (hC:(32:UInt8) ∉ C) : dw (A++32 :: (C++32 :: D))=match (D == uU) && mg A C with
  | true=>some (A,C)
  | false=>none:=by
 unfold dw
 rw[zM hA,zM hC]
 cases hd:D == uU with
 | true =>
   have:D=uU:=eq_of_beq hd
   subst this
   rw[xW (by decide)]
   dsimp only
   have:ow A C uU=mg A C:=by unfold ow mg; simp
   rw[this]
   rfl
 | false =>
   rw[Bool.false_and]
   rcases Na (A :: C :: words 32 D) with⟨a,b,c,e⟩ | hn
   ·have e1:=(List.cons.inj e).2
    have e2:=(List.cons.inj e1).2
    have:=Iq e2
    subst this
    have hf:ow A C c=false:=by unfold ow; rw[hd,Bool.and_false]
    rw[e2]
    dsimp only
    rw[hf]
   ·cases hw:words 32 D with
    | nil=>rfl
    | cons v t =>
      cases t with
      | nil=>rw[hw] at hn; exact absurd rfl hn
      | cons _ _=>rfl
theorem IM {A B:Str} (hA:(32:UInt8) ∉ A) (hB:(32:UInt8) ∉ B) : dw (A++32 :: B)=none:=by
 unfold dw
 rw[zM hA,xW hB]
theorem Ga {A:Str} (hA:(32:UInt8) ∉ A) : dw A=none:=by
 unfold dw
 rw[xW hA]
theorem Kw {x:UInt8} {s:Str} {i:Nat} (h:i<s.length) (hA:x ∉ s.take i) (hp:s[i]≠x) : x ∉ s.take (i + 1):=by
 rw[List.take_succ_eq_append_getElem h]
 intro hm
 rcases List.mem_append.1 hm with hm | hm
 ·exact hA hm
 ·have:x=s[i]:=by simpa using hm
  exact hp this.symm
theorem FT {s:Str} (h:pre vS s=true) : jY s=s.drop 9:=by unfold jY; rw[if_pos h]
theorem pre_eq {p s:Str} (h:p.length≤s.length) : pre p s=(s.take p.length == p):=by unfold pre; rw[decide_eq_true h,Bool.true_and]
def EM (c:ak) : Prop:=∀ {M:RM} {s:Str} {rq:Bool} {Q:ai},s.length≤1000000 →
 (∀ m p M',rq=true→dw s=some (m,p)→af [] M M'→Q (.tup [.agg [St m,St p,N .i64 0,aA,aA],Bo true]) M') →
 (∀ M',rq=false→gH s=true→af [] M M'→Q (.tup [.agg [St [],St [],N .i64 (codeOf s:Int),aA,aA],Bo true]) M') →
 (∀ (x y:Str) (n:Int) M',(rq=true→dw s=none)→(rq=false→gH s=false)→af [] M M'→Q (.tup [.agg [St x,St y,N .i64 n,aA,aA],Bo false]) M') →
 c [St s,Bo rq] M Q
abbrev bJ (T:Nat) (x y:Str) (n:Int) : RB:=.row [St x,St y,N .i64 n,aA,aA] false T 0
theorem MI {f g:Prop→Prop} {k:Prop} : vW (Bo true) true f g k=f k:=rfl
theorem KA {f g:Prop→Prop} {k:Prop} : vW (Bo false) true f g k=g k:=rfl
theorem Gl {T:Nat} {cm cp:ak} (hm:fP dY cm) (hp:fP fo cp) : EM fun args M Q=>∃ a0 a1,args=[a0,a1]∧qx T cm cp a0 a1 M Q:=by
 intro M s rq Q hl hQ hQ2 hE
 refine⟨_,_,rfl, ?_⟩
 unfold qx
 simp only[aV]
 rw[eu]
 refine⟨_,rfl, ?_⟩
 have k0:af [] M ((M.push (bJ T [] [] 0)).push (bJ T [] [] 0)):=((af.refl _ _).push _).push _
 have a4:((M.push (bJ T [] [] 0)).push (bJ T [] [] 0)).heap M.next=some (bJ T [] [] 0):=by simp[RM.push]
 have a6:((M.push (bJ T [] [] 0)).push (bJ T [] [] 0)).heap (M.push (bJ T [] [] 0)).next=some (bJ T [] [] 0):=by simp[RM.push]
 have e5:(M.push (bJ T [] [] 0)).next=M.next + 1:=rfl
 have n0:((M.push (bJ T [] [] 0)).push (bJ T [] [] 0)).next=M.next + 2:=rfl
 rw[e5] at a6 ⊢
 generalize (M.push (bJ T [] [] 0)).push (bJ T [] [] 0)=M0 at *
 rw[dQ a6 (by rfl) (by rfl) (by rfl)]
 have k1:af [] M (M0.put (M.next + 1) (bJ T [] [] 0)):=k0.new _ (by omega)
 have b4:(M0.put (M.next + 1) (bJ T [] [] 0)).heap M.next=some (bJ T [] [] 0):=eP a4 (by omega)
 have b6:(M0.put (M.next + 1) (bJ T [] [] 0)).heap (M.next + 1)=some (bJ T [] [] 0):=aB _
 have n1:(M0.put (M.next + 1) (bJ T [] [] 0)).next=M.next + 2:=n0
 generalize M0.put (M.next + 1) (bJ T [] [] 0)=M1 at *
 have err:∀ (M2:RM) (x y:Str) (n:Int),af [] M M2→M2.heap M.next=some (bJ T [] [] 0)→M2.heap (M.next + 1)=some (bJ T x y n)→(rq=true→dw s=none)→(rq=false→gH s=false) →
   aL M2 (.ptr (M.next + 1) 0) 5 fun t49=>az M2 (.ptr M.next 0) t49 5 fun oP=>aL oP (.ptr M.next 0) 5 fun res=>Q (.tup [res,Bo false]) oP:=by
  intro M2 x y n k2 c4 c6 h1 h2
  rw[aQ c6 (by rfl),dQ c4 (by rfl) (by rfl) (by rfl),aQ (aB _) (by rfl)]
  exact hE x y n _ h1 h2 (k2.new _ (Nat.le_refl _))
 refine aM (fun hq=>?_) fun hq=>?_
 ·
  refine aZ (fun m ys M3=>∃ i:Nat,m=s.length - i∧ys=[N .i64 i]∧i≤s.length∧(32:UInt8) ∉ s.take i∧M3=M1) _ ⟨0,rfl,rfl,Nat.zero_le _,by simp,rfl⟩ ?_
  rintro next m ys M3 hnext ⟨i,rfl,rfl,hi,hA,rfl⟩
  simp only[aN,dS,iO,bS]
  refine gp (p:=!(s.getD i 0 == 32)) (fun hc k hk=>?_) ?_
  ·have hlt:i<s.length:=by simpa using hc
   rw[bK hlt,By,dV,show((s[i].toNat:Int) != 32)=!(s[i] == 32) from congrArg (!·) (sw _ 32 (by decide))]
   have e0:s.getD i 0=s[i]:=by simp[List.getD,hlt]
   rw[e0] at hk
   exact hk
  refine aM (fun h=>?_) fun h=>?_
  ·simp only[Bool.and_eq_true,decide_eq_true_eq,Bool.not_eq_true',beq_eq_false_iff_ne] at h
   have hlt:=h.1
   have e0:s.getD i 0=s[i]:=by simp[List.getD,hlt]
   rw[e0] at h
   rw[add1 (by omega)]
   exact hnext _ _ _ (by omega) ⟨i + 1,rfl,rfl,by omega,Kw hlt hA h.2,rfl⟩
  ·have hs:i<s.length→s=s.take i++32 :: s.drop (i + 1):=fun hlt=>by
    have e0:s.getD i 0=s[i]:=by simp[List.getD,hlt]
    rw[e0] at h
    have h32:s[i]=32:=by simpa [hlt] using h
    conv=>lhs; rw[← List.take_append_drop i s,List.drop_eq_getElem_cons hlt,h32]
   have hs0:¬ i<s.length→s.take i=s:=fun h=>List.take_of_length_le (by omega)
   rw[add1 (by omega)]
   have hB:(s.drop (i + 1)).length=s.length - (i + 1):=List.length_drop
   generalize hBe:s.drop (i + 1)=B at *
   refine aZ (fun m ys M4=>∃ k:Nat,m=B.length - k∧ys=[N .i64 ((i + 1 + k:Nat) : Int)]∧k≤B.length∧(32:UInt8) ∉ B.take k∧M4=M3) _ ⟨0,rfl,rfl,Nat.zero_le _,by simp,rfl⟩ ?_
   rintro Gy m ys M4 nP ⟨k,rfl,rfl,hk,hC,rfl⟩
   simp only[aN,dS,iO,bS]
   have AP:(i + 1 + k<s.length)↔(k<B.length):=by omega
   have hBk:∀ (h1:k<B.length),s[i + 1 + k]'(AP.2 h1)=B[k]:=fun h1=>by subst hBe; simp
   refine gp (p:=!(B.getD k 0 == 32)) (fun hc k' hk'=>?_) ?_
   ·have hlt:i + 1 + k<s.length:=by simpa using hc
    have hlt2:=AP.1 hlt
    rw[bK hlt,hBk hlt2,By,dV,show((B[k].toNat:Int) != 32)=!(B[k] == 32) from congrArg (!·) (sw _ 32 (by decide))]
    have e0:B.getD k 0=B[k]:=by simp[List.getD,hlt2]
    rw[e0] at hk'
    exact hk'
   refine aM (fun h2=>?_) fun h2=>?_
   ·simp only[Bool.and_eq_true,decide_eq_true_eq,Bool.not_eq_true',beq_eq_false_iff_ne] at h2
    have hlt2:=AP.1 h2.1
    have e0:B.getD k 0=B[k]:=by simp[List.getD,hlt2]
    rw[e0] at h2
    rw[add1 (by omega),Nat.add_assoc]
    exact nP _ _ _ (by omega) ⟨k + 1,rfl,rfl,by omega,Kw hlt2 hC h2.2,rfl⟩
   ·rw[bL]
    by_cases hk2:k<B.length
    ·have hlt:=AP.2 hk2
     have hil:i<s.length:=by omega
     have e0:B.getD k 0=B[k]:=by simp[List.getD,hk2]
     rw[e0] at h2
     have h32:B[k]=32:=by simpa [hlt] using h2
     have hBs:B=B.take k++32 :: B.drop (k + 1):=by conv=>lhs; rw[← List.take_append_drop k B,List.drop_eq_getElem_cons hk2,h32]
     have hf:dw s=match (B.drop (k + 1) == uU) && mg (s.take i) (B.take k) with
       | true=>some (s.take i,B.take k)
       | false=>none:=by
      conv=>lhs; rw[hs hil,hBs]
      exact G7 hA hC
     rw[show decide (((i + 1 + k:Nat) : Int) ≥ (s.length:Int))=false from decide_eq_false (by omega)]
     simp only[bP,cO]
     rw[di (by omega),cz]
     have hdr:s.drop (i + 1 + k)=32 :: B.drop (k + 1):=by
      rw[← List.drop_drop,hBe,List.drop_eq_getElem_cons hk2,h32]
     rw[hdr,lg]
     have e1:((32 :: B.drop (k + 1)) != [32,72,84,84,80,47,49,46,49])=!(B.drop (k + 1) == uU):=rfl
     rw[e1]
     refine aM (fun h3=>?_) fun h3=>?_
     ·have h3:(B.drop (k + 1) == uU)=false:=by simpa using h3
      refine err _ _ _ _ k1 b4 b6 (fun _=>?_) (fun h=>by rw[h] at hq; cases hq)
      rw[hf,h3]; rfl
     ·have h3:(B.drop (k + 1) == uU)=true:=by simpa using h3
      rw[h3,Bool.true_and] at hf
      rw[dJ (by omega),cz]
      simp only[iE]
      rw[eQ [St (s.take i),St [],N .i64 0,aA,aA] b6 (by simp) rfl rfl rfl,add1 (by omega),ek (by omega) (by omega),cz]
      have htk:(s.drop (i + 1)).take (i + 1 + k - (i + 1))=B.take k:=by rw[hBe,Nat.add_sub_cancel_left]
      rw[htk,eQ [St (s.take i),St (B.take k),N .i64 0,aA,aA] (aB _) (by simp) rfl rfl rfl]
      have k2:af [] M ((M4.put (M.next + 1) (bJ T (s.take i) [] 0)).put (M.next + 1) (bJ T (s.take i) (B.take k) 0)):=(k1.new _ (by omega)).new _ (by omega)
      have c4:((M4.put (M.next + 1) (bJ T (s.take i) [] 0)).put (M.next + 1) (bJ T (s.take i) (B.take k) 0)).heap M.next=some (bJ T [] [] 0):=eP (eP b4 (by omega)) (by omega)
      have c6:((M4.put (M.next + 1) (bJ T (s.take i) [] 0)).put (M.next + 1) (bJ T (s.take i) (B.take k) 0)).heap (M.next + 1)=some (bJ T (s.take i) (B.take k) 0):=aB _
      have n2:((M4.put (M.next + 1) (bJ T (s.take i) [] 0)).put (M.next + 1) (bJ T (s.take i) (B.take k) 0)).next=M.next + 2:=n1
      generalize (M4.put (M.next + 1) (bJ T (s.take i) [] 0)).put (M.next + 1) (bJ T (s.take i) (B.take k) 0)=M5 at *
      rw[aQ c6 (by rfl),aK c6 (i:=0) rfl]
      have t1:(s.take i).length≤1000000:=by rw[List.length_take]; omega
      have t2:(B.take k).length≤1000000:=by rw[List.length_take]; omega
      refine hm (by omega) fun M6 k6=>?_
      have d4:=k6.aC c4 (by omega) (by simp)
      have d6:=k6.aC c6 (by omega) (by simp)
      rw[aQ d6 (by rfl)]
      refine⟨rfl, ?_⟩
      cases hgm:dY (s.take i) with
      | false =>
        simp only[qc,IZ,eU,gq]
        rw[aQ d6 (by rfl)]
        refine⟨rfl, ?_⟩
        simp only[cO]
        rw[dQ d4 (by rfl) (by rfl) (by rfl),aQ (aB _) (by rfl)]
        refine hE _ _ _ _ (fun _=>?_) (fun h=>by rw[h] at hq; cases hq) ((k2.trans k6).new _ (Nat.le_refl _))
        rw[hf]; unfold mg; rw[hgm]; rfl
      | true =>
        simp only[jW,bI]
        rw[aK d6 (i:=1) rfl]
        refine hp (by omega) fun M7 k7=>?_
        have f4:=(k6.trans k7).aC c4 (by omega) (by simp)
        have f6:=(k6.trans k7).aC c6 (by omega) (by simp)
        rw[aQ f6 (by rfl)]
        refine⟨rfl, ?_⟩
        simp only[bT]
        rw[dQ f4 (by rfl) (by rfl) (by rfl),aQ (aB _) (by rfl)]
        cases hgp:fo (B.take k) with
        | false =>
          refine hE _ _ _ _ (fun _=>?_) (fun h=>by rw[h] at hq; cases hq) ((k2.trans (k6.trans k7)).new _ (Nat.le_refl _))
          rw[hf]; unfold mg; rw[hgm,hgp]; rfl
        | true =>
          refine hQ _ _ _ hq ?_ ((k2.trans (k6.trans k7)).new _ (Nat.le_refl _))
          rw[hf]; unfold mg; rw[hgm,hgp]; rfl
    ·have hkB:k=B.length:=by omega
     rw[show decide (((i + 1 + k:Nat) : Int) ≥ (s.length:Int))=true from decide_eq_true (by omega)]
     simp only[bX,gq,bT,bN]
     refine err _ _ _ _ k1 b4 b6 (fun _=>?_) (fun h=>by rw[h] at hq; cases hq)
     rw[hkB,List.take_length] at hC
     by_cases hil:i<s.length
     ·rw[hs hil]; exact IM hA hC
     ·have:=hs0 hil
      rw[this] at hA
      exact Ga hA
 ·
  have hrq:rq=true→dw s=none:=fun h=>by rw[h] at hq; cases hq
  simp only[bS]
  rw[dS,dF]
  have stop:gH s=false→∀ {M2:RM} {n:Int},af [] M M2→M2.heap M.next=some (bJ T [] [] 0)→M2.heap (M.next + 1)=some (bJ T [] [] n)→aL M2 (.ptr (M.next + 1) 0) 5 fun t49=>az M2 (.ptr M.next 0) t49 5 fun oP=>aL oP (.ptr M.next 0) 5 fun res=>Q (.tup [res,Bo false]) oP :=
   fun h M2 n k2 c4 c6=>err M2 [] [] n k2 c4 c6 hrq (fun _=>h)
  by_cases h13:s.length<13
  ·rw[show decide ((s.length:Int)<13)=true from decide_eq_true (by omega)]
   simp only[bX,gq,bT,bN]
   refine stop ?_ k1 b4 b6
   unfold gH wX xR BV
   have:uT s=true:=by
    unfold uT
    cases hpr:pre vS s with
    | false=>rfl
    | true =>
      rw[FT hpr,List.length_drop]
      simp; omega
   rw[this]; rfl
  rw[show decide ((s.length:Int)<13)=false from decide_eq_false (by omega)]
  simp only[bP,cO]
  have s9:=dJ (s:=s) (h:=9) (by omega) .i64
  rw[show((9:Nat) : Int)=9 from rfl] at s9
  rw[s9,cz,lg]
  have hpe:pre vS s=(s.take 9 == vS):=pre_eq (by show 9≤_; omega)
  have e9:(s.take 9 != [72,84,84,80,47,49,46,49,32])=!pre vS s:=by rw[hpe]; rfl
  rw[e9]
  have i12:=bK (s:=s) (i:=12) (by omega) .i64
  rw[show((12:Nat) : Int)=12 from rfl] at i12
  cases hpr:pre vS s with
  | false =>
    simp only[Bool.not_false,bX,gq,bT,bN]
    refine stop ?_ k1 b4 b6
    unfold gH wX xR BV uT
    rw[hpr]; rfl
  | true =>
  have hr9:=FT hpr
  have hb1:uT s=false:=by
   unfold uT
   rw[hpr,hr9,List.length_drop]
   simp; omega
  have h3:((jY s).getD 3 0)=s[12]:=by rw[hr9]; simp[List.getD,show 12<s.length by omega]
  simp only[Bool.not_true,bP,cO,i12,By,dV]
  refine aM (fun h=>?_) fun h=>?_
  ·refine stop ?_ k1 b4 b6
   unfold gH wX xR
   rw[h3,h,Bool.or_true]; rfl
  have VH:(jY s).drop 3=s.drop 12:=by rw[hr9,List.drop_drop]
  have Tx:(jY s).take 3=(s.drop 9).take 3:=by rw[hr9]
  have hb3:xR s=!((s.drop 9).take 3).all dG:=by unfold xR BV; rw[hb1,h3,h,Tx,Bool.or_false,Bool.false_or]
  refine aZ (fun m ys M3=>∃ (i:Nat),m=3 - i∧ys=[N .i64 ((9 + i:Nat) : Int)]∧i≤3∧((s.drop 9).take i).all dG=true∧dN ((s.drop 9).take i)<10 ^ i∧af [] M M3∧M3.heap M.next=some (bJ T [] [] 0)∧M3.heap (M.next + 1)=some (bJ T [] [] (dN ((s.drop 9).take i) : Int))) _
   ⟨0,rfl,rfl,by omega,rfl,Nat.lt_succ_self 0,k1,b4,b6⟩ ?_
  rintro next m ys M3 hnext ⟨i,rfl,rfl,hi,hA,hdl,k3,c4,c6⟩
  simp only[aN]
  have el:ae .lss (N .i64 ((9 + i:Nat) : Int)) (N .i64 12)=ae .lss (N .i64 ((9 + i:Nat) : Int)) (N .i64 ((12:Nat) : Int)):=rfl
  rw[el,iO]
  refine aM (fun hlt=>?_) fun hge=>?_
  ·have hi3:i<3:=by have:=of_decide_eq_true hlt; omega
   have Ey:9 + i<s.length:=by omega
   have hx:(s.drop 9)[i]'(by rw[List.length_drop]; omega)=s[9 + i]:=by simp
   rw[bK Ey,By,dF]
   generalize hxe:s[9 + i]=x at *
   refine mK (p:=decide ((x.toNat:Int) > 57)) (fun _ k hk=>by rw[bK Ey,hxe,By,bG]; exact hk) ?_
   refine aM (fun hb=>?_) fun hb=>?_
   ·have hf:dG x=false:=by rw[Aw,hb]; rfl
    refine stop ?_ k3 c4 c6
    unfold gH wX
    have:((s.drop 9).take 3).all dG=false:=by
     have hle:i<((s.drop 9).take 3).length:=by rw[List.length_take,List.length_drop]; omega
     refine nG hle ?_
     rw[List.getElem_take,hx]; exact hf
    rw[hb3,this]; rfl
   ·have ht:dG x=true:=by rw[Aw,hb]; rfl
    simp only[iE]
    rw[aK c6 (i:=2) rfl,oW,bK Ey,hxe,By,gu,iU,iQ]
    have hge:48≤x.toNat∧x.toNat≤57:=by
     unfold dG at ht
     simp only[Bool.and_eq_true,decide_eq_true_eq] at ht
     omega
    have hp10:10 ^ i≤100:=by
     have:i=0∨i=1∨i=2:=by omega
     rcases this with rfl | rfl | rfl <;> decide
    have htk:(s.drop 9).take (i + 1)=(s.drop 9).take i++[x]:=by
     rw[List.take_succ_eq_append_getElem (by rw[List.length_drop]; omega),hx]
    have hdn:dN ((s.drop 9).take (i + 1))=dN ((s.drop 9).take i) * 10 + (x.toNat - 48):=by rw[htk,II]
    generalize dN ((s.drop 9).take i)=d at *
    have ev:IntKind.i64.wrap (IntKind.i64.wrap (10 * (d:Int)) + IntKind.i64.wrap (IntKind.u8.wrap ((x.toNat:Int) - 48)))=((dN ((s.drop 9).take (i + 1)) : Nat) : Int):=by
     rw[hdn,fq (by omega) (by omega),bn (n:=10 * (d:Int)) (by omega) (by omega),bn (n:=(x.toNat:Int) - 48) (by omega) (by omega),bn (by omega) (by omega)]
     omega
    rw[ev,eQ [St [],St [],N .i64 ((dN ((s.drop 9).take (i + 1)) : Nat) : Int),aA,aA] c6 (by simp) rfl rfl rfl,add1 (by omega),Nat.add_assoc]
    refine hnext _ _ _ (by omega) ⟨i + 1,rfl,rfl,by omega, ?_, ?_,k3.new _ (by omega),eP c4 (by omega),aB _⟩
    ·rw[htk,List.all_append,hA]; simp[ht]
    ·rw[hdn,Nat.pow_succ]; omega
  ·have hi3:i=3:=by have:=of_decide_eq_false hge; omega
   subst hi3
   rw[hA] at hb3
   have hcode:codeOf s=dN ((s.drop 9).take 3):=by unfold codeOf; rw[Tx]
   rw[← hcode] at c6 hdl
   have h32:p32 s[12]=true:=by
    have:s[12].toNat=32:=by
     have:=h
     simp at this
     omega
    unfold p32; rw[this]; rfl
   have hb4:wX s=!(s.drop 13).all p32:=by
    unfold wX
    rw[hb3,VH,List.drop_eq_getElem_cons (show 12<s.length by omega),List.all_cons,h32]; rfl
   have hD:(s.drop 13).length=s.length - 13:=List.length_drop
   refine aZ (fun m ys M4=>∃ (i:Nat),m=s.length - 13 - i∧ys=[N .i64 ((13 + i:Nat) : Int)]∧i≤s.length - 13∧((s.drop 13).take i).all p32=true∧M4=M3) _ ⟨0,rfl,rfl,Nat.zero_le _,rfl,rfl⟩ ?_
   rintro Gy m ys M4 nP ⟨i,rfl,rfl,hi,hA2,rfl⟩
   simp only[aN,dS,iO]
   refine aM (fun hlt=>?_) fun hge=>?_
   ·have Ey:13 + i<s.length:=of_decide_eq_true hlt
    have hi2:i<(s.drop 13).length:=by omega
    have hx:(s.drop 13)[i]=s[13 + i]:=by simp
    rw[bK Ey,By,dF]
    generalize hxe:s[13 + i]=x at *
    refine mK (p:=decide ((x.toNat:Int) > 126)) (fun _ k hk=>by rw[bK Ey,hxe,By,bG]; exact hk) ?_
    refine aM (fun hb=>?_) fun hb=>?_
    ·have hf:p32 x=false:=by rw[Oh,hb]; rfl
     refine stop ?_ k3 c4 c6
     unfold gH
     rw[hb4,nG hi2 (by rw[hx]; exact hf)]; rfl
    ·have ht:p32 x=true:=by rw[Oh,hb]; rfl
     rw[add1 (by omega),Nat.add_assoc]
     exact nP _ _ _ (by omega) ⟨i + 1,rfl,rfl,by omega,j5 hi2 hA2 (by rw[hx]; exact ht),rfl⟩
   ·have hie:i=(s.drop 13).length:=by have:=of_decide_eq_false hge; omega
    rw[hie,List.take_length] at hA2
    have hpr:gH s=(decide ((codeOf s:Int) ≥ 100) && decide ((codeOf s:Int)≤599)):=by unfold gH; rw[hb4,hA2]; rfl
    simp only[iE]
    rw[aQ c6 (by rfl),aK c6 (i:=2) rfl,bL]
    cases hc:decide ((codeOf s:Int) ≥ 100) with
    | false =>
      simp only[qc,IZ,cO,KA]
      rw[dQ c4 (by rfl) (by rfl) (by rfl),aQ (aB _) (by rfl)]
      exact hE _ _ _ _ hrq (fun _=>by rw[hpr,hc]; rfl) (k3.new _ (Nat.le_refl _))
    | true =>
      simp only[jW,bT,MI]
      rw[aK c6 (i:=2) rfl,gy,dQ c4 (by rfl) (by rfl) (by rfl),aK (eP c6 (by omega)) (i:=2) rfl]
      refine⟨rfl, ?_⟩
      rw[aQ (aB _) (by rfl)]
      cases hc2:decide ((codeOf s:Int)≤599) with
      | false=>exact hE _ _ _ _ hrq (fun _=>by rw[hpr,hc,hc2]; rfl) (k3.new _ (Nat.le_refl _))
      | true=>exact hQ2 _ hq (by rw[hpr,hc,hc2]; rfl) (k3.new _ (Nat.le_refl _))
end Go.Ab.Hw
namespace Go.Ab.Hw
open Go Go.Ab Go.Ab.Sm
open Go.Ab.Vl (brk di ek dJ bK gX gT Gs)
def fI (l:List Hd) : Nat × Bool × Nat:=match aH l iq with
 | x :: xs=>match xs.isEmpty && (low x == qD) && (aH l fC).isEmpty with
   | true=>(0,true,0)
   | false=>(0,false,14)
 | []=>match aH l fC with
   | []=>(0,false,0)
   | v :: vs=>match vs.isEmpty && lU v with
     | false=>(0,false,14)
     | true=>match Nat.blt 16384 (dN v) with
       | true=>(0,false,2)
       | false=>(dN v,false,0)
def kT (r:Str) (z:Nat × Bool × Nat) : Except Nat (Str × Str):=match z with
 | (n,ck,0)=>match ck with
   | true=>bR (r.length + 1) r []
   | false=>match Nat.blt r.length n with
     | true=>.error 15
     | false=>.ok (r.take n,r.drop n)
 | (_,_,e)=>.error e
theorem PE (r:Str) (l:List Hd) : nX r l=kT r (fI l):=by
 unfold nX fI
 cases aH l iq with
 | cons x xs =>
   cases xs with
   | cons y ys=>rfl
   | nil =>
     dsimp only
     cases hx:low x == qD with
     | false=>simp[kT]
     | true =>
       cases aH l fC with
       | cons _ _=>simp[kT]
       | nil=>simp[kT]
 | nil =>
   cases aH l fC with
   | nil =>
     have e:kT r (0,false,0)=match Nat.blt r.length 0 with
       | true=>.error 15
       | false=>.ok (r.take 0,r.drop 0):=rfl
     dsimp only
     rw[e,fO (by omega)]; rfl
   | cons v vs =>
     cases vs with
     | cons _ _=>simp[kT]
     | nil =>
       dsimp only
       cases lU v with
       | false=>simp[kT]
       | true =>
         simp only[List.isEmpty_nil,Bool.and_self]
         cases Nat.blt 16384 (dN v) with
         | true=>rfl
         | false=>rfl
theorem JR {l:List Hd} {v:Str} (h:v∈aH l iq) (hv:(low v == qD)=false) : fI l=(0,false,14):=by
 unfold fI
 cases hn:aH l iq with
 | nil=>rw[hn] at h; cases h
 | cons x xs =>
   rw[hn] at h
   cases xs with
   | cons _ _=>rfl
   | nil =>
     have:v=x:=by simpa using h
     subst this
     simp only[hv,Bool.and_false,Bool.false_and]
theorem BF {l:List Hd} {v:Str} (h:v∈aH l fC) (hv:lU v=false) : fI l=(0,false,14):=by
 unfold fI
 cases hc:aH l fC with
 | nil=>rw[hc] at h; cases h
 | cons y ys =>
   rw[hc] at h
   cases aH l iq with
   | cons x xs=>simp
   | nil =>
     cases ys with
     | cons _ _=>rfl
     | nil =>
       have:v=y:=by simpa using h
       subst this
       simp only[hv,Bool.and_false]
theorem DK {l:List Hd} {n:Str} {i:Nat} (hi:i<l.length) (h:isNamed n l[i]=true) : l[i].2∈aH l n:=by
 rw[aH,List.mem_map]
 exact⟨l[i],List.mem_filter.2 ⟨List.getElem_mem hi,h⟩,rfl⟩
theorem RU (h:Hd) : isNamed iq h=(low h.1 == iq):=by unfold isNamed; rw[SX]
theorem Ro (h:Hd) : isNamed fC h=(low h.1 == fC):=by unfold isNamed; rw[Tm]
def IU (c:ak) : Prop:=∀ {M:RM} {v:AV} {l:List Hd} {Q:ai},Sl HD M v l→l.length≤1000000→(∀ h∈l,h.1.length≤2048∧h.2.length≤2048) →
 (∀ M',af [] M M'→Q (.tup [N .i64 ((fI l).1:Int),Bo (fI l).2.1,N .i64 ((fI l).2.2:Int)]) M')→c [v] M Q
def qZ (l:List Str) : Nat:=match l.getLast? with
 | none=>0
 | some v=>dN v
theorem OA (l:List Str) (v:Str) : qZ (l++[v])=dN v:=by unfold qZ; simp
theorem F4 {cl:ak} (hl:uW cl) : IU fun args M Q=>∃ a0,args=[a0]∧qA cl a0 M Q:=by
 intro M v l Q hv hll hlen hQ
 refine⟨_,rfl, ?_⟩
 unfold qA
 have stop:∀ {M' : RM},fI l=(0,false,14)→af [] M M'→Q (.tup [N .i64 0,Bo false,N .i64 14]) M':=fun e k=>by
  have:=hQ _ k
  rw[e] at this
  exact this
 refine aZ (fun m ys M3=>∃ i:Nat,m=l.length - i∧ys=[N .i64 ((aH (l.take i) iq).length:Int),N .i64 ((aH (l.take i) fC).length:Int),N .i64 (qZ (aH (l.take i) fC) : Int),N .i64 (i:Int)]∧i≤l.length∧af [] M M3∧(∀ v∈aH (l.take i) iq,(low v == qD)=true)∧(∀ v∈aH (l.take i) fC,lU v=true)∧(aH (l.take i) iq).length≤i∧(aH (l.take i) fC).length≤i) _
  ⟨0,rfl,rfl,Nat.zero_le _,af.refl _ _,by simp[aH],by simp[aH],by simp[aH],by simp[aH]⟩ ?_
 rintro next m ys M3 hnext ⟨i,rfl,rfl,hi,k3,hT,hC,nT,nC⟩
 simp only[aN,cK]
 have hv3:Sl HD M3 v l:=aJ.keep hv k3 (by simp)
 rw[aJ.len hv3,iO]
 refine aM (fun h=>?_) fun h=>?_
 ·have hlt:i<l.length:=of_decide_eq_true h
  have hle:=hlen l[i] (List.getElem_mem hlt)
  have eT:=wK (n:=iq) hlt
  have eC:=wK (n:=fC) hlt
  rw[RU] at eT
  rw[Ro] at eC
  rw[gX]
  refine gT (fun xs M4=>xs=[N .i64 ((aH (l.take (i + 1)) iq).length:Int),N .i64 ((aH (l.take (i + 1)) fC).length:Int),N .i64 (qZ (aH (l.take (i + 1)) fC) : Int)]∧af [] M M4∧(∀ v∈aH (l.take (i + 1)) iq,(low v == qD)=true)∧(∀ v∈aH (l.take (i + 1)) fC,lU v=true)∧(aH (l.take (i + 1)) iq).length≤i + 1∧(aH (l.take (i + 1)) fC).length≤i + 1) ?_ ?_
  ·rintro xs M4 ⟨rfl,k4,h1,h2,h3,h4⟩
   simp only[aN,cK]
   rw[add1 (by omega)]
   exact hnext _ _ _ (by omega) ⟨i + 1,rfl,rfl,by omega,k4,h1,h2,h3,h4⟩
  ·intro J hJ
   obtain⟨b,off,hb,_,hix,hld⟩:=hv3.at 2 (i:Int) hlt
   rw[hix,gm,dI]
   refine⟨St l[i].1,jg hld (j:=0) (x:=St l[i].1) rfl, ?_⟩
   refine hl (by omega) fun M4 k4=>?_
   have hv4:Sl HD M4 v l:=aJ.keep hv3 k4 (by simp)
   rw[eX]
   refine aM (fun hte=>?_) fun hte=>?_
   ·have I1:(low l[i].1 == iq)=true:=hte
    have hcl' : (low l[i].1 == fC)=false:=by rw[eq_of_beq I1]; decide
    rw[if_pos I1] at eT
    rw[if_neg (by rw[hcl']; decide),List.append_nil] at eC
    rw[add1 (by omega)]
    obtain⟨b,off,hb,_,hix,hld⟩:=hv4.at 2 (i:Int) hlt
    rw[hix,gm,dI]
    refine⟨St l[i].2,jg hld (j:=1) (x:=St l[i].2) rfl, ?_⟩
    refine hl (by omega) fun M5 k5=>?_
    rw[lg]
    refine aM (fun hch=>?_) fun hch=>?_
    ·refine stop (JR (DK hlt (by rw[RU]; exact I1)) ?_) (k3.trans (k4.trans k5))
     have:(!(low l[i].2 == qD))=true:=hch
     simpa using this
    ·have hch:(low l[i].2 == qD)=true:=by
      have:(!(low l[i].2 == qD))=false:=hch
      simpa using this
     refine hJ _ _ ⟨by rw[eT,eC]; simp,k3.trans (k4.trans k5), ?_,by rw[eC]; exact hC,by rw[eT]; simp; omega,by rw[eC]; omega⟩
     intro w hw
     rw[eT] at hw
     rcases List.mem_append.1 hw with hw | hw
     ·exact hT w hw
     ·have:w=l[i].2:=by simpa using hw
      rw[this]; exact hch
   ·have I1:(low l[i].1 == iq)=false:=hte
    rw[if_neg (by rw[I1]; decide),List.append_nil] at eT
    rw[eX]
    refine aM (fun hcl=>?_) fun hcl=>?_
    ·have hcl' : (low l[i].1 == fC)=true:=hcl
     rw[if_pos hcl'] at eC
     have hmem:=DK hlt (n:=fC) (by rw[Ro]; exact hcl')
     rw[add1 (by omega)]
     obtain⟨b,off,hb,_,hix,hld⟩:=hv4.at 2 (i:Int) hlt
     rw[hix,gm,dI]
     refine⟨St l[i].2,jg hld (j:=1) (x:=St l[i].2) rfl, ?_⟩
     generalize hve:l[i].2=s at *
     simp only[bS,dS]
     rw[dF]
     refine mK (p:=decide ((s.length:Int) > 9)) (fun _ k hk=>by rw[bG]; exact hk) ?_
     have hok:lU s=((!(decide ((s.length:Int)<1) || decide ((s.length:Int) > 9))) && s.all dG):=by
      unfold lU fM
      congr 1
      by_cases h1:(s.length:Int)<1 <;> by_cases h2:(s.length:Int) > 9 <;> simp[h1,h2] <;> omega
     refine aM (fun hb=>?_) fun hb=>?_
     ·exact stop (BF hmem (by rw[hok,hb]; rfl)) (k3.trans k4)
     ·rw[hb] at hok
      have h9:s.length≤9:=by
       simp at hb; omega
      refine aZ (fun m ys M5=>∃ j:Nat,m=s.length - j∧ys=[N .i64 (dN (s.take j) : Int),N .i64 (j:Int)]∧j≤s.length∧(s.take j).all dG=true∧M5=M4) _ ⟨0,rfl,rfl,Nat.zero_le _,rfl,rfl⟩ ?_
      rintro Gy m ys M5 nP ⟨j,rfl,rfl,hj,hA,rfl⟩
      simp only[aN,cK,iO]
      refine aM (fun hlt2=>?_) fun hge=>?_
      ·have hlt2:j<s.length:=of_decide_eq_true hlt2
       rw[bK hlt2,By,dF]
       generalize hxe:s[j]=x at *
       refine mK (p:=decide ((x.toNat:Int) > 57)) (fun _ k hk=>by rw[bK hlt2,hxe,By,bG]; exact hk) ?_
       refine aM (fun hb=>?_) fun hb=>?_
       ·have hf:dG x=false:=by rw[Aw,hb]; rfl
        exact stop (BF hmem (by rw[hok,nG hlt2 (by rw[hxe]; exact hf),Bool.and_false])) (k3.trans k4)
       ·have ht:dG x=true:=by rw[Aw,hb]; rfl
        have hge:48≤x.toNat∧x.toNat≤57:=by
         unfold dG at ht
         simp only[Bool.and_eq_true,decide_eq_true_eq] at ht
         omega
        have hdl:=JZ hA (by rw[List.length_take]; omega)
        have htk:s.take (j + 1)=s.take j++[x]:=by rw[List.take_succ_eq_append_getElem hlt2,hxe]
        have hdn:dN (s.take (j + 1))=dN (s.take j) * 10 + (x.toNat - 48):=by rw[htk,II]
        generalize dN (s.take j)=d at *
        rw[oW,bK hlt2,hxe,By,gu,iU,iQ,add1 (by omega)]
        have ev:IntKind.i64.wrap (IntKind.i64.wrap (10 * (d:Int)) + IntKind.i64.wrap (IntKind.u8.wrap ((x.toNat:Int) - 48)))=((dN (s.take (j + 1)) : Nat) : Int):=by
         rw[hdn,fq (by omega) (by omega),bn (n:=10 * (d:Int)) (by omega) (by omega),bn (n:=(x.toNat:Int) - 48) (by omega) (by omega),bn (by omega) (by omega)]
         omega
        rw[ev]
        refine nP _ _ _ (by omega) ⟨j + 1,rfl,rfl,by omega, ?_,rfl⟩
        rw[htk,List.all_append,hA]; simp[ht]
      ·have hje:j=s.length:=by have:=of_decide_eq_false hge; omega
       rw[hje,List.take_length] at hA ⊢
       refine hJ _ _ ⟨by rw[eT,eC,OA]; simp,k3.trans k4,by rw[eT]; exact hT, ?_,by rw[eT]; omega,by rw[eC]; simp; omega⟩
       intro w hw
       rw[eC] at hw
       rcases List.mem_append.1 hw with hw | hw
       ·exact hC w hw
       ·have:w=s:=by simpa using hw
        rw[this,hok,hA]; rfl
    ·have hcl' : (low l[i].1 == fC)=false:=hcl
     rw[if_neg (by rw[hcl']; decide),List.append_nil] at eC
     exact hJ _ _ ⟨by rw[eT,eC],k3.trans k4,by rw[eT]; exact hT,by rw[eC]; exact hC,by rw[eT]; omega,by rw[eC]; omega⟩
 ·have:i=l.length:=by have:=of_decide_eq_false h; omega
  subst this
  rw[List.take_length] at hT hC nT nC ⊢
  have hQ3:=hQ M3 k3
  simp only[bS]
  rw[bG]
  refine mK (p:=decide (((aH l fC).length:Int) > 1)) (fun _ k hk=>by rw[bG]; exact hk) ?_
  have fin:∀ {X:Bool} {p:Prop},(X=(decide (((aH l iq).length:Int) > 0) && decide (((aH l fC).length:Int) > 0))→((decide (((aH l iq).length:Int) > 1) || decide (((aH l fC).length:Int) > 1))=false)→p)→((decide (((aH l iq).length:Int) > 1) || decide (((aH l fC).length:Int) > 1))=false)→X=(decide (((aH l iq).length:Int) > 0) && decide (((aH l fC).length:Int) > 0))→p:=fun h a b=>h b a
  clear fin
  generalize hAe:(decide (((aH l iq).length:Int) > 1) || decide (((aH l fC).length:Int) > 1))=A
  suffices hS:aj (Bo (A || (decide (((aH l iq).length:Int) > 0) && decide (((aH l fC).length:Int) > 0)))) (Q (AV.tup [N IntKind.i64 0,Bo false,N IntKind.i64 14]) M3)
      (ae BinOp.gtr (N IntKind.i64 ↑(qZ (aH l fC))) (N IntKind.i64 16384) fun t90 =>
       aj t90 (Q (AV.tup [N IntKind.i64 0,Bo false,N IntKind.i64 2]) M3)
        (ae BinOp.eql (N IntKind.i64 ↑(aH l iq).length) (N IntKind.i64 1) fun t93 =>
         Q (AV.tup [N IntKind.i64 ↑(qZ (aH l fC)),t93,N IntKind.i64 0]) M3)) by
   cases A with
   | true =>
     simp only[bX,gq,bT]
     exact hS
   | false =>
     simp only[bP,cO]
     rw[bG]
     refine gp (p:=decide (((aH l fC).length:Int) > 0)) (fun _ k hk=>by rw[bG]; exact hk) ?_
     exact hS
  subst hAe
  unfold fI at hQ3
  generalize hnT:aH l iq=tl at *
  generalize hnC:aH l fC=cl' at *
  clear hnext hnT hnC
  rcases tl with _ | ⟨x,_ | ⟨y,tl⟩⟩
  ·rcases cl' with _ | ⟨x,_ | ⟨y,cl'⟩⟩
   ·refine aM (fun h=>by simp at h) fun _=>?_
    simp only[qZ,List.getLast?_nil,List.length_nil]
    rw[bG,show decide (((0:Nat) : Int) > 16384)=false from rfl,aX,bq]
    exact hQ3
   ·refine aM (fun h=>by simp at h) fun _=>?_
    have hx:=hC x (by simp)
    have el:qZ [x]=dN x:=rfl
    rw[el,bG]
    simp only[List.isEmpty_nil,hx,Bool.and_self] at hQ3
    refine aM (fun h=>?_) fun h=>?_
    ·have h:16384<dN x:=by have:=of_decide_eq_true h; omega
     rw[mI h] at hQ3
     exact hQ3
    ·have h:¬ 16384<dN x:=by have:=of_decide_eq_false h; omega
     rw[fO h] at hQ3
     rw[bq]
     exact hQ3
   ·refine aM (fun _=>hQ3) fun h=>?_
    simp at h; omega
  ·have hx:=hT x (by simp)
   rcases cl' with _ | ⟨z,cl'⟩
   ·refine aM (fun h=>by simp at h) fun _=>?_
    simp only[qZ,List.getLast?_nil]
    rw[bG,show decide (((0:Nat) : Int) > 16384)=false from rfl,aX,bq]
    simp only[List.isEmpty_nil,hx,Bool.and_self] at hQ3
    exact hQ3
   ·simp only[List.isEmpty_nil,List.isEmpty_cons,hx,Bool.and_false] at hQ3
    refine aM (fun _=>hQ3) fun h=>?_
    simp at h
  ·refine aM (fun _=>hQ3) fun h=>?_
   simp at h; omega
theorem zB {b:Str} {k:Nat} (h:mX b=some k) : ∃ q,crlf b=some (b.take k,q)∧k + 2≤b.length∧q=b.drop (k + 2):=by
 unfold mX at h
 cases hc:crlf b with
 | none=>rw[hc] at h; cases h
 | some p =>
   obtain⟨a,q⟩:=p
   rw[hc] at h
   have hk:a.length=k:=Option.some.inj h
   obtain⟨e,hl⟩:=mR hc
   refine⟨q, ?_,by omega, ?_⟩
   ·have:b.take k=a:=by rw[e,List.take_left' hk]
    rw[this]
   ·rw[e,List.drop_append,hk,List.drop_of_length_le (by omega),show k + 2 - k=2 by omega]; rfl
theorem FP {b:Str} (h:mX b=none) : crlf b=none:=by
 unfold mX at h
 cases hc:crlf b with
 | none=>rfl
 | some p=>rw[hc] at h; cases h
def Ed (T:Nat) (c:ak) : Prop:=∀ {M:RM} {v:AV} {b:Str} {Q:ai},Bs M v b→b.length≤1000000000 →
 (∀ out r at2 ov M',bR (b.length + 1) b []=.ok (out,r)→at2≤b.length→b.drop at2=r→out.length≤16384→af [] M M'→Ow BY M' M.next T ov out→Q (.tup [ov,N .i64 (at2:Int),N .i64 0]) M') →
 (∀ (e:Nat) M',bR (b.length + 1) b []=.error e→(e=14∨e=15∨e=2)→af [] M M'→Q (.tup [aA,N .i64 0,N .i64 (e:Int)]) M')→c [v] M Q
theorem LB {s:Str} (h:ic s=true) : s.length≤8∧(low s).all jI=true:=by
 unfold ic fM at h
 simp only[Bool.and_eq_true,decide_eq_true_eq] at h
 exact⟨by omega,h.2⟩
theorem EW {T:Nat} {ce ch:ak} (he:KP ce) (hh:MC ch) : Ed T fun args M Q=>∃ a0,args=[a0]∧oL T ce ch a0 M Q:=by
 intro M v b Q hv hl hQ hE
 refine⟨_,rfl, ?_⟩
 unfold oL
 refine Gs ?_
 simp only[aV]
 generalize hr0:bR (b.length + 1) b []=target at *
 have k0:af [] M (M.push (.row [] false T 0)):=(af.refl _ _).push _
 refine aZ (fun m ys M3=>∃ (at' : Nat) (ov:AV) (out:Str),ys=[ov,N .i64 (at' : Int)]∧at'≤b.length∧m=b.length - at'∧out.length≤16384∧Ow BY M3 M.next T ov out∧af [] M M3∧bR (m + 1) (b.drop at') out=target) _
  ⟨0,_,[],rfl,Nat.zero_le _,rfl,by simp,Ow.lit BY M,k0,by rw[List.drop_zero]; exact hr0⟩ ?_
 rintro next m ys M3 hnext ⟨at',ov,out,rfl,h1,rfl,hol,hO,k3,heq⟩
 simp only[aN,cK,bS]
 have hv3:=hv.keep k3 (by simp)
 refine hv3.sub (gz _ _ _) (vJ _) h1 (Nat.le_refl _) fun v4 hv4 _=>?_
 have hd4:(b.drop at').take (b.length - at')=b.drop at':=List.take_of_length_le (by simp)
 rw[hd4] at hv4
 have hdl:(b.drop at').length=b.length - at':=List.length_drop
 refine he hv4 (by omega) ?_
 cases hen:mX (b.drop at') with
 | none =>
   have hcr:=FP hen
   rw[dF,show decide (Cj none<0)=true from rfl,bN,hv3.len,sW h1 (by omega),bG]
   have hs:kR (b.drop at')=match Nat.blt 10 (b.length - at') with | true=>.error 14 | false=>.error 15:=by unfold kR; rw[hcr,hdl]; try rfl
   refine aM (fun h=>?_) fun h=>?_
   ·have h:10<b.length - at':=by have:=of_decide_eq_true h; omega
    refine hE 14 M3 ?_ (by omega) k3
    rw[← heq,bR,hs,mI h]
   ·have h:¬ 10<b.length - at':=by have:=of_decide_eq_false h; omega
    refine hE 15 M3 ?_ (by omega) k3
    rw[← heq,bR,hs,fO h]
 | some k =>
   obtain⟨q,hcr,hk2,hq⟩:=zB hen
   rw[hdl] at hk2
   rw[List.drop_drop] at hq
   rw[show Cj (some k)=(k:Int) from rfl,dF,show decide ((k:Int)<0)=false from decide_eq_false (by omega),aX]
   rw[addN (by omega)]
   refine hv3.sub (gz _ _ _) (gz _ _ _) (by omega) (by omega) fun v5 hv5 _=>?_
   rw[show at' + k - at'=k by omega] at hv5
   rw[hv5.str]
   have hs:kR (b.drop at')=match ic ((b.drop at').take k) with | true=>.ok (ik ((b.drop at').take k),q) | false=>.error 14:=by unfold kR; rw[hcr]; try rfl
   refine hh (by rw[List.length_take]; omega) (fun hok=>?_) (fun n hok=>?_)
   rotate_left
   ·simp only[bz,bu,bO,Bool.not_false,bN]
    refine hE 14 M3 ?_ (by omega) k3
    rw[← heq,bR,hs,hok]
   simp only[bz,bu,bO,Bool.not_true,aX]
   obtain⟨h8,Mv⟩:=LB hok
   have hnl:=pK Mv h8
   have hp8:=Q9 h8
   rw[hok] at hs
   dsimp only at hs
   generalize ik ((b.drop at').take k)=n at *
   have hnb:n<4294967296:=by omega
   rw[hO.jc.len,show(N .i64 16384)=N .i64 ((16384:Nat) : Int) from rfl,sW hol (by omega),BJ]
   have hql:q.length=b.length - (at' + (k + 2)):=by rw[hq,List.length_drop]
   refine aM (fun h=>?_) fun h=>?_
   ·have h:16384 - out.length<n:=of_decide_eq_true h
    refine hE 2 M3 ?_ (by omega) k3
    rw[← heq,bR,hs]
    simp only[mI h]
   have hf1:¬ 16384 - out.length<n:=of_decide_eq_false h
   rw[addN (by omega),show(N .i64 2)=N .i64 ((2:Nat) : Int) from rfl,addN (by omega),hv3.len,sW (by omega) (by omega),addN (by omega),iO]
   have e2:at' + k + 2=at' + (k + 2):=by omega
   rw[e2]
   generalize V4:at' + (k + 2)=at2 at *
   refine aM (fun h=>?_) fun h=>?_
   ·have h:b.length - at2<n + 2:=of_decide_eq_true h
    refine hE 15 M3 ?_ (by omega) k3
    rw[← heq,bR,hs]
    simp only[fO hf1,hql,mI h]
   have hf2:¬ b.length - at2<n + 2:=of_decide_eq_false h
   rw[addN (by omega)]
   refine hv3.sub (gz _ _ _) (gz _ _ _) (by omega) (by omega) fun v6 hv6 _=>?_
   have htk:(b.drop at2).take (at2 + n - at2)=q.take n:=by rw[hq,Nat.add_sub_cancel_left]
   rw[htk] at hv6
   have htl:(q.take n).length=n:=by rw[List.length_take]; omega
   refine nE (E:=BY) hO k3.next (by decide) hv6.sl (by rw[htl]; omega) (by rw[htl]; omega) fun v7 M7 o7 k7 _ _=>?_
   have k37:af [] M M7:=af.own k3 k7 (fun x hx=>(hO.blk x hx).1)
   have hv7:Bs M7 v b:=hv.keep k37 (by simp)
   have hi1:at2 + n<b.length:=by omega
   have hi2:at2 + n + 1<b.length:=by omega
   rw[addN (by omega),hv7.read hi1,By,dV]
   refine mK (p:=!(b[at2 + n + 1] == 10)) (fun _ k hk=>?_) ?_
   ·rw[add1 (by omega),hv7.read hi2,By,dV,show((b[at2 + n + 1].toNat:Int) != 10)=!(b[at2 + n + 1] == 10) from congrArg (!·) (sw _ 10 (by decide))]
    exact hk
   rw[show((b[at2 + n].toNat:Int) != 13)=!(b[at2 + n] == 13) from congrArg (!·) (sw _ 13 (by decide))]
   have RL:((q.drop n).take 2 == [13,10])=((b[at2 + n] == 13) && (b[at2 + n + 1] == 10)):=by
    have:q.drop n=b[at2 + n] :: b[at2 + n + 1] :: b.drop (at2 + n + 2):=by
     rw[hq,List.drop_drop,List.drop_eq_getElem_cons hi1,List.drop_eq_getElem_cons hi2]
    rw[this]
    generalize b[at2 + n]=x
    generalize b[at2 + n + 1]=y
    generalize b.drop (at2 + n + 2)=t
    simp
   refine aM (fun h=>?_) fun h=>?_
   ·have hf3:((q.drop n).take 2 == [13,10])=false:=by
     rw[RL]
     revert h
     cases b[at2 + n] == 13 <;> cases b[at2 + n + 1] == 10 <;> simp
    refine hE 14 M7 ?_ (by omega) k37
    rw[← heq,bR,hs]
    simp only[fO hf1,hql,fO hf2,hf3]
   have hf3:((q.drop n).take 2 == [13,10])=true:=by
    rw[RL]
    revert h
    cases b[at2 + n] == 13 <;> cases b[at2 + n + 1] == 10 <;> simp
   rw[addN (by omega),show(N .i64 0)=N .i64 ((0:Nat) : Int) from rfl,Pt]
   refine aM (fun h=>?_) fun h=>?_
   ·have h0:n=0:=of_decide_eq_true h
    subst h0
    rw[List.take_zero,List.append_nil] at o7
    refine hQ out (q.drop 2) (at2 + 0 + 2) v7 M7 ?_ (by omega) ?_ hol k37 o7
    ·rw[← heq,bR,hs]
     simp only[fO hf1,hql,fO hf2,hf3]
     try rfl
    ·rw[hq,List.drop_drop,Nat.add_zero]
   ·have hn0:n≠0:=of_decide_eq_false h
    refine hnext _ _ _ (show b.length - (at2 + n + 2)<b.length - at' by omega) ⟨at2 + n + 2,v7,out++q.take n,rfl,by omega,rfl,by rw[List.length_append,htl]; omega,o7,k37, ?_⟩
    have hd:b.drop (at2 + n + 2)=q.drop (n + 2):=by rw[hq,List.drop_drop,Nat.add_assoc]
    rw[← heq,hd]
    conv=>rhs; rw[bR,hs]
    simp only[fO hf1,hql,fO hf2,hf3,ML hn0]
    exact rV _ _ _ _ (by rw[List.length_drop]; omega) (by rw[List.length_drop]; omega)
end Go.Ab.Hw
