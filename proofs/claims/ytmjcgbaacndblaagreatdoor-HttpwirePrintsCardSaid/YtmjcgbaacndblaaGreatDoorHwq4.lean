/- Part 4 of the ground of the proofs of this seat (texts H2 to HPure3). By an AI agent. -/
import Derived.Test.YtmjcgbaacndblaaGreatDoorHwq3
import Derived.Lib.SlTrimSet
import Derived.Lib.IndexMore
import Derived.Lib.SplitLaws
import Derived.Laws.AppendOwn
set_option maxRecDepth 10000
set_option linter.unusedVariables false
set_option linter.unusedSimpArgs false
namespace Go.Ab.Hw
open Go Go.Ab Go.Ab.Sm
open Go.Ab.Vl (brk lZ rR iD dK dR eO CR)
theorem iY {M:RM} {b n:Nat} {l cs:List AV} {p:Bool} {e:Nat} {K:RM→Prop} (h:M.heap b=some (.row l p e 0)) (hn:cs.length=n) (hl:l.length=n) (h1:cs.all oneCell=true) :
  aK M (.ptr b 0) (.agg cs) n K=K (M.put b (.row cs p e 0)):=MH (x:=.agg cs) h hn hl h1
def fo (x:UInt8) : Bool:=decide ((x.toNat:Int) ≥ 48) && decide ((x.toNat:Int)≤57)
def jO (x:UInt8) : Bool:=decide ((x.toNat:Int) ≥ 65) && decide ((x.toNat:Int)≤90)
def pz (x:UInt8) : Bool:=decide ((x.toNat:Int) ≥ 33) && decide ((x.toNat:Int)≤126)
def p32 (x:UInt8) : Bool:=decide ((x.toNat:Int) ≥ 32) && decide ((x.toNat:Int)≤126)
def mH (x:UInt8) : Bool:=(decide ((x.toNat:Int) ≥ 32) && decide ((x.toNat:Int)≤126)) || ((x.toNat:Int) == 9)
def qg (x:UInt8) : Bool:=(decide ((x.toNat:Int) ≥ 97) && decide ((x.toNat:Int)≤122)) || fo x || ((x.toNat:Int) == 45)
def jZ (x:UInt8) : Bool:=fo x || (decide ((x.toNat:Int) ≥ 97) && decide ((x.toNat:Int)≤102))
def nN (p:UInt8→Bool) (c:ak) : Prop:=∀ {M:RM} {x:UInt8} {Q:ah},Q (Bo (p x)) M→c [By x] M Q
theorem Ll:nN fo fun args M Q=>∃ a0,args=[a0]∧nG a0 M Q:=by
 intro M x Q hQ
 refine⟨_,rfl, ?_⟩
 unfold nG
 simp only[bX,dh]
 exact kD (fun _ k hk=>by simpa only[go_sem] using hk) hQ
theorem La:nN jO fun args M Q=>∃ a0,args=[a0]∧nz a0 M Q:=by
 intro M x Q hQ
 refine⟨_,rfl, ?_⟩
 unfold nz
 simp only[bX,dh]
 exact kD (fun _ k hk=>by simpa only[go_sem] using hk) hQ
theorem Io:nN pz fun args M Q=>∃ a0,args=[a0]∧lH a0 M Q:=by
 intro M x Q hQ
 refine⟨_,rfl, ?_⟩
 unfold lH
 simp only[bX,dh]
 exact kD (fun _ k hk=>by simpa only[go_sem] using hk) hQ
theorem Py:nN p32 fun args M Q=>∃ a0,args=[a0]∧ic a0 M Q:=by
 intro M x Q hQ
 refine⟨_,rfl, ?_⟩
 unfold ic
 simp only[bX,dh]
 exact kD (fun _ k hk=>by simpa only[go_sem] using hk) hQ
theorem Pf:nN mH fun args M Q=>∃ a0,args=[a0]∧jG a0 M Q:=by
 intro M x Q hQ
 refine⟨_,rfl, ?_⟩
 unfold jG
 simp only[bX,dh]
 refine kD (fun _ k hk=>by simpa only[go_sem] using hk) ?_
 exact sN (fun _ k hk=>by simpa only[go_sem] using hk) hQ
theorem LA {cd:ak} (hd:nN fo cd) : nN qg fun args M Q=>∃ a0,args=[a0]∧jP cd a0 M Q:=by
 intro M x Q hQ
 refine⟨_,rfl, ?_⟩
 unfold jP
 simp only[bX,dh]
 refine kD (fun _ k hk=>by simpa only[go_sem] using hk) ?_
 refine sN (p:=fo x) (fun _ k hk=>hd hk) ?_
 exact sN (fun _ k hk=>by simpa only[go_sem] using hk) hQ
theorem OD {cd:ak} (hd:nN fo cd) : nN jZ fun args M Q=>∃ a0,args=[a0]∧mG cd a0 M Q:=by
 intro M x Q hQ
 refine⟨_,rfl, ?_⟩
 unfold mG
 refine hd ?_
 unfold jZ at hQ
 cases h:fo x <;> rw[h] at hQ
 ·by_cases h1:(x.toNat:Int) ≥ 97
  ·simpa [go_sem,h1] using hQ
  ·simpa [go_sem,h1] using hQ
 ·simpa [go_sem] using hQ
def mF (p:UInt8→Bool) (f:AV) (c:ak) : Prop:=∀ {M:RM} {s:Str} {Q:ah},s.length<4611686018427387904→(∀ M',ae [] M M'→Q (Bo (s.all p)) M')→c [St s,f] M Q
theorem nJ {T8 g:Nat} {p:UInt8→Bool} {cv:FuncId→ak} (hp:nN p (cv g)) : mF p (.fn (.func g) [] []) fun args M Q=>∃ a0 a1,args=[a0,a1]∧pW T8 cv a0 a1 M Q:=by
 intro M s Q hl hQ
 refine⟨_,_,rfl, ?_⟩
 unfold pW
 simp only[aU,gD,lQ]
 have hk1:ae [] M (M.push (.row (BY.row s) true T8 0)):=(ae.refl _ _).push _
 have hr1:Rw BY (M.push (.row (BY.row s) true T8 0)) M.next true T8 s:=Rw.new M s
 generalize M.push (.row (BY.row s) true T8 0)=M1 at *
 have e:∀ i,i<s.length→s.all p=((s.take i).all p && s[i]!.toNat.ble 255 && (s.drop i).all p):=fun i hi=>by
  have:s[i]!.toNat.ble 255=true:=by
   have:=Bg s[i]!
   exact Nat.ble_eq_true_of_le (by omega)
  rw[this,Bool.and_true,← List.all_append,List.take_append_drop]
 refine di (fun m ys M3=>∃ i:Nat,m=s.length - i∧ys=[N .i64 i]∧i≤s.length∧(s.take i).all p=true∧M3=M1) _ ⟨0,rfl,rfl,Nat.zero_le _,rfl,rfl⟩ ?_
 rintro next m ys M3 hnext ⟨i,rfl,rfl,hi,hA,rfl⟩
 simp only[aV,ny]
 refine bH (fun h=>?_) fun h=>?_
 ·have hlt:i<s.length:=by simpa using h
  have hc:=hr1.aj hlt
  rw[sG]
  refine⟨by omega,by omega, ?_⟩
  rw[dD]
  refine⟨By s[i],by simpa using hc, ?_⟩
  rw[Cr]
  simp only[List.nil_append,List.append_nil]
  refine hp ?_
  simp only[bn]
  have hd:s.drop i=s[i] :: s.drop (i + 1):=List.drop_eq_getElem_cons hlt
  refine bH (fun h=>?_) fun h=>?_
  ·have hf:p s[i]=false:=by simpa using h
   have:s.all p=false:=by
    rw[← List.take_append_drop i s,List.all_append,hd,List.all_cons,hf]; simp
   rw[← this]; exact hQ _ hk1
  ·have ht:p s[i]=true:=by simpa using h
   rw[add1 (by omega)]
   refine hnext _ _ _ (by omega) ⟨i + 1,rfl,rfl,by omega, ?_,rfl⟩
   rw[List.take_succ_eq_append_getElem hlt,List.all_append,hA]; simp[ht]
 ·have:i=s.length:=by simp at h; omega
  subst this
  rw[List.take_length] at hA
  rw[← hA]; exact hQ _ hk1
def fD (p:Str→Bool) (c:ak) : Prop:=∀ {M:RM} {s:Str} {Q:ah},s.length<4611686018427387904→(∀ M',ae [] M M'→Q (Bo (p s)) M')→c [St s] M Q
def bR (s:Str) : Bool:=fO s 1 40 && (low s).all qg
theorem yQ {g:Nat} {cw cs ca:ak} (hw:rV cw) (hs:vK cs) (ha:mF qg (.fn (.func g) [] []) ca) : fD bR fun args M Q=>∃ a0,args=[a0]∧kR cw cs ca g a0 M Q:=by
 intro M s Q hl hQ
 refine⟨_,rfl, ?_⟩
 unfold kR
 refine hw ?_
 simp only[bX]
 refine xS (P:=ae [] M) (p:=(low s).all qg) (ae.refl _ _) (fun _ k hk=>?_) hQ
 refine hs (by omega) fun M1 k1=>?_
 exact ha (by rw[low,List.length_map]; exact hl) fun M2 k2=>hk M2 (k1.trans k2)
def trimB (s:Str) : Str:=Lib.trimS s [32,9]
def GJ (B:Base) (c:ak) : Prop:=∀ {M:RM} {s:Str} {Q:ah},M.base=B→s.length<4611686018427387904→(∀ M',ae [] M M'→Q (St (trimB s)) M')→c [St s,St [32,9]] M Q
def Ed (B:Base) (p:Str→Bool) (c:ak) : Prop:=∀ {M:RM} {s:Str} {Q:ah},M.base=B→s.length<4611686018427387904→(∀ M',ae [] M M'→Q (Bo (p s)) M')→c [St s] M Q
def aY (s:Str) : Bool:=(s == trimB s) && s.all mH
theorem wR {B:Base} {g:Nat} {ct ca:ak} (ht:GJ B ct) (ha:mF mH (.fn (.func g) [] []) ca) : Ed B aY fun args M Q=>∃ a0,args=[a0]∧kC ct ca g a0 M Q:=by
 intro M s Q hB hl hQ
 refine⟨_,rfl, ?_⟩
 unfold kC
 refine ht hB hl fun M1 k1=>?_
 simp only[bX,fu]
 refine xS (P:=ae [] M) (p:=s.all mH) k1 (fun _ k hk=>?_) hQ
 exact ha hl fun M2 k2=>hk M2 (k1.trans k2)
def cO (s:Str) : Bool:=fO s 1 8 && s.all jO
theorem Em {g:Nat} {cw ca:ak} (hw:rV cw) (ha:mF jO (.fn (.func g) [] []) ca) : fD cO fun args M Q=>∃ a0,args=[a0]∧jT cw ca g a0 M Q:=by
 intro M s Q hl hQ
 refine⟨_,rfl, ?_⟩
 unfold jT
 refine hw ?_
 simp only[bX]
 exact xS (P:=ae [] M) (p:=s.all jO) (ae.refl _ _) (fun _ k hk=>ha hl hk) hQ
def dO (s:Str) : Bool:=pre [47] s && decide ((s.length:Int)≤201) && s.all pz
theorem Gr {g:Nat} {cp ca:ak} (hp:CL cp) (ha:mF pz (.fn (.func g) [] []) ca) : fD dO fun args M Q=>∃ a0,args=[a0]∧kP cp ca g a0 M Q:=by
 intro M s Q hl hQ
 refine⟨_,rfl, ?_⟩
 unfold kP
 refine hp ?_
 simp only[bX]
 refine kD (p:=decide ((s.length:Int)≤201)) (fun _ k hk=>by simpa only[go_sem] using hk) ?_
 exact xS (P:=ae [] M) (p:=s.all pz) (ae.refl _ _) (fun _ k hk=>ha hl hk) hQ
abbrev Hd:=Str × Str
def HD:Enc Hd:=⟨2,fun h=>[St h.1,St h.2],fun _=>rfl,fun _=>rfl⟩
def fw (s:Str) : Option Hd:=match brk 58 s with
 | none=>none
 | some (a,b)=>match bR a && aY (trimB b) with
   | true=>some (a,trimB b)
   | false=>none
def EM (B:Base) (c:ak) : Prop:=∀ {M:RM} {s:Str} {Q:ah},M.base=B→s.length≤1000000 →
 (∀ h M',fw s=some h→ae [] M M'→Q (.tup [.agg [St h.1,St h.2],Bo true]) M')→(∀ a b M',fw s=none→ae [] M M'→Q (.tup [.agg [St a,St b],Bo false]) M')→c [St s] M Q
theorem F6 (s:Str) : (trimB s).length≤s.length:=by
 have h1:∀ (p:UInt8→Bool) (l:Str),(l.dropWhile p).length≤l.length:=fun p l=>List.IsSuffix.length_le (List.dropWhile_suffix p)
 unfold trimB Lib.trimS Lib.trimLeftS Lib.trimRightS
 refine Nat.le_trans (h1 _ _) ?_
 rw[List.length_reverse]
 refine Nat.le_trans (h1 _ _) ?_
 rw[List.length_reverse]
 exact Nat.le_refl _
theorem KS {x:UInt8} {s a b:Str} (h:brk x s=some (a,b)) : a.length + 1 + b.length=s.length:=by
 rcases Vl.wJ x s with⟨h1,_⟩ | ⟨a',b',h1,_,h3,_⟩
 ·rw[h] at h1; cases h1
 ·rw[h] at h1; cases h1
  rw[h3]; simp; omega
theorem JZ {B:Base} {T:Nat} {cc ct cn cg:ak} (hc:lZ 58 cc) (ht:GJ B ct) (hn:fD bR cn) (hg:Ed B aY cg) : EM B fun args M Q=>∃ a0,args=[a0]∧mJ T cc ct cn cg a0 M Q:=by
 intro M s Q hB hl hQ hQ2
 refine⟨_,rfl, ?_⟩
 unfold mJ
 simp only[aU]
 have k0:ae [] M (M.push (.row [St [],St []] false T 0)):=(ae.refl _ _).push _
 have n0:(M.push (.row [St [],St []] false T 0)).heap M.next=some (.row [St [],St []] false T 0):=by simp[RM.push]
 have l0:M.next<(M.push (.row [St [],St []] false T 0)).next:=by simp[RM.push]
 generalize M.push (.row [St [],St []] false T 0)=M0 at *
 refine hc (by omega) ?_
 have main:∀ (a b:Str) (ok:Bool),a.length≤s.length→b.length≤s.length →
   (ok=true→brk 58 s=some (a,b))→(ok=false→brk 58 s=none) →
   ct [St b,St [32,9]] M0 (fun t16 M_1=>fM [(St []),(St [])] [(0,1,St a),(1,1,t16)] fun t17=>bf (.row [(St []),(St [])] false T 0) (fun b=>.ptr b 0) M_1 fun t7 M_2=>aK M_2 t7 t17 2 fun M_3=>bI M_3 t7 2 fun t18=>mV (Bo ok) true (fun k=>aJ t7 0 fun t21=>k t21 M_3 none) (fun k=>k .undef M_3 none) fun Vg M_5 b=>mV (Bo ok) true (fun k_6=>aj M_5 Vg fun t22=>k_6 t22 M_5 none) (fun k=>k .undef M_5 none) fun VR M_8 b_9=>aa (Bo ok) true (fun XD=>cn [VR] M_8 fun t23 Ql=>XD t23 Ql) (fun k=>k .undef M_8) fun Ut AL=>bI AL t7 2 fun Tx=>(Tx=t18∧ay (Bo ok) Ut (Bo false) fun t24=>mV t24 true (fun Qs=>aJ t7 1 fun t26=>Qs t26 AL none) (fun k=>k .undef AL none) fun Su EA b_17=>mV t24 true (fun XM=>aj EA Su fun t27=>XM t27 EA none) (fun k=>k .undef EA none) fun UG Ce b_21=>aa t24 true (fun Xy=>cg [UG] Ce fun t28 EB=>Xy t28 EB) (fun k=>k .undef Ce) fun SC Tm=>bI Tm t7 2 fun Sv=>(Sv=t18∧ay t24 SC (Bo false) fun t29=>aK Tm (.ptr M.next 0) t18 2 fun vM=>bI vM (.ptr M.next 0) 2 fun res=>Q (.tup [res,t29]) vM))):=by
  intro a b ok ha hb e1 e2
  have htb:=F6 b
  refine ht (k0.base.trans hB) (by omega) fun M1 k1=>?_
  have n1:=k1.aL n0 l0 (by simp)
  have l1:M.next<M1.next:=Nat.lt_of_lt_of_le l0 k1.next
  rw[gF]
  refine⟨[St a,St (trimB b)],zN rfl rfl rfl rfl, ?_⟩
  simp only[aU]
  have n2:(M1.push (.row [St [],St []] false T 0)).heap M1.next=some (.row [St [],St []] false T 0):=by simp[RM.push]
  rw[iY n2 (by rfl) (by rfl) (by rfl)]
  have k3:ae [] M1 ((M1.push (.row [St [],St []] false T 0)).put M1.next (.row [St a,St (trimB b)] false T 0)):=((ae.refl _ _).push _).new _ (Nat.le_refl _)
  have n3:((M1.push (.row [St [],St []] false T 0)).put M1.next (.row [St a,St (trimB b)] false T 0)).heap M1.next=some (.row [St a,St (trimB b)] false T 0):=aP _
  have l3:M1.next<((M1.push (.row [St [],St []] false T 0)).put M1.next (.row [St a,St (trimB b)] false T 0)).next:=by simp[RM.push,RM.put]
  generalize (M1.push (.row [St [],St []] false T 0)).put M1.next (.row [St a,St (trimB b)] false T 0)=M3 at *
  rw[bN n3 (by rfl)]
  have kM:ae [] M M3:=k0.trans (k1.trans k3)
  have fin:∀ (M5:RM) (r:Bool),ae [] M3 M5→((fw s=some (a,trimB b)∧r=true)∨(fw s=none∧r=false)) →
    aK M5 (.ptr M.next 0) (.agg [St a,St (trimB b)]) 2 fun vM=>bI vM (.ptr M.next 0) 2 fun res=>Q (.tup [res,Bo r]) vM:=by
   intro M5 r k5 hr
   have n5:=k5.aL (k3.aL n1 l1 (by simp)) (Nat.lt_of_lt_of_le l1 k3.next) (by simp)
   rw[iY n5 (by rfl) (by rfl) (by rfl)]
   rw[bN (aP _) (by rfl)]
   have kk:ae [] M (M5.put M.next (.row [St a,St (trimB b)] false T 0)):=(kM.trans k5).new _ (Nat.le_refl _)
   rcases hr with⟨h1,rfl⟩ | ⟨h1,rfl⟩
   ·exact hQ _ _ h1 kk
   ·exact hQ2 _ _ _ h1 kk
  cases ok with
  | false =>
    have e:fw s=none:=by unfold fw; rw[e2 rfl]
    have hf:=fin M3 false (ae.refl _ _) (.inr ⟨e,rfl⟩)
    simp only[Ay,eP]
    rw[bN n3 (by rfl)]
    refine⟨rfl, ?_⟩
    simp only[bZ,Ay,eP]
    rw[bN n3 (by rfl)]
    refine⟨rfl, ?_⟩
    try simp only[bZ]
    exact hf
  | true =>
    simp only[F9,gK]
    rw[az n3 (by rfl:([St a,St (trimB b)] : List AV)[0]?=some (St a))]
    simp only[bM]
    refine hn (by omega) fun M4 k4=>?_
    try dsimp only
    have n4:=k4.aL n3 l3 (by simp)
    have l4:M1.next<M4.next:=Nat.lt_of_lt_of_le l3 k4.next
    rw[bN n4 (by rfl)]
    refine⟨rfl, ?_⟩
    simp only[bU]
    cases hgn:bR a with
    | false =>
      have e:fw s=none:=by unfold fw; rw[e1 rfl]; simp[hgn]
      simp only[Ay,eP]
      rw[bN n4 (by rfl)]
      refine⟨rfl, ?_⟩
      simp only[bZ]
      exact fin M4 false k4 (.inr ⟨e,rfl⟩)
    | true =>
      simp only[F9]
      rw[az n4 (by rfl:([St a,St (trimB b)] : List AV)[1]?=some (St (trimB b)))]
      simp only[bM]
      refine hg ((k0.trans (k1.trans (k3.trans k4))).base.trans hB) (by omega) fun M5 k5=>?_
      try dsimp only
      have n5:=k5.aL n4 l4 (by simp)
      rw[bN n5 (by rfl)]
      refine⟨rfl, ?_⟩
      simp only[bU]
      refine fin M5 _ (k4.trans k5) ?_
      unfold fw
      rw[e1 rfl]
      simp only[hgn,Bool.true_and]
      cases aY (trimB b) <;> simp
 unfold rR
 cases hb:brk 58 s with
 | none =>
   simp only[bB,bz,fF]
   exact main s [] false (Nat.le_refl _) (by simp) (fun h=>by cases h) (fun _=>hb)
 | some p =>
   obtain⟨a,b⟩:=p
   have:=KS hb
   simp only[bB,bz,fF]
   exact main a b true (by omega) (by omega) (fun _=>hb) (fun h=>by cases h)
def crlf:Str→Option (Str × Str)
 | []=>none
 | [_]=>none
 | x :: y :: t=>match x == 13 && y == 10 with
   | true=>some ([],t)
   | false=>match crlf (y :: t) with
     | none=>none
     | some p=>some (x :: p.1,p.2)
theorem xK:∀ s:Str,(crlf s=none∧Lib.index s [13,10]=-1)∨∃ a b,crlf s=some (a,b)∧Lib.index s [13,10]=(a.length:Int)∧s=a++13 :: 10 :: b
 | []=>.inl ⟨rfl,by decide⟩
 | [x]=>.inl ⟨rfl,by
   have h:([13,10] : Str).isPrefixOf [x]=false:=by simp[List.isPrefixOf]
   simp[Lib.index,h]⟩
 | x :: y :: t=>by
   unfold crlf
   cases h:x == 13 && y == 10
   ·have hp:([13,10] : Str).isPrefixOf (x :: y :: t)=false:=by
     simp only[List.isPrefixOf,Bool.and_true]
     rw[show((13:UInt8) == x)=(x == 13) from Bool.beq_comm ..,show((10:UInt8) == y)=(y == 10) from Bool.beq_comm ..]
     exact h
    rcases xK (y :: t) with⟨h1,h2⟩ | ⟨a,b,h1,h2,h3⟩
    ·refine .inl ⟨by simp only[h1], ?_⟩
     rw[Lib.index,hp]
     simp[h2]
    ·refine .inr ⟨x :: a,b,by simp only[h1], ?_,by rw[h3]; rfl⟩
     rw[Lib.index,hp]
     simp only[h2]
     have:((a.length:Int) == -1)=false:=by simp
     simp[this]
   ·simp only[Bool.and_eq_true,beq_iff_eq] at h
    obtain⟨rfl,rfl⟩:=h
    exact .inr ⟨[],t,rfl,by simp[Lib.index,List.isPrefixOf],rfl⟩
def Eb (B:Base) (c:ak) : Prop:=∀ {M:RM} {v w:AV} {s:Str} {Q:ah},M.base=B→Bs M v s→Bs M w [13,10]→s.length≤1000000000→Q (N .i64 (Lib.index s [13,10])) M→c [v,w] M Q
theorem Ib {T:Nat} {M:RM} {K:ah} (hK:∀ v M',Bs M' v [13,10]→ae [] M M'→K v M') :
  dW T 2 [(N .u8 0)] [(0,1,(N .u8 13)),(1,1,(N .u8 10))] fun r f=>bf r f M fun t14 M=>qN t14 M fun t15 M_0=>K t15 M_0:=by
 refine⟨[N .u8 13,N .u8 10],rfl, ?_⟩
 simp only[aU]
 refine⟨M.next,0,2,2,[N .u8 13,N .u8 10],T,rfl,by simp[RM.push], ?_⟩
 refine hK _ _ ⟨?_,Nat.le_refl _⟩ (((ae.refl _ _).push _).new _ (Nat.le_refl _))
 refine aG.slc _ _ _ _ _ (by simp[RM.push,RM.put]) ?_
 rw[RM.iM (aP _) (by decide)]
 rfl
def fA (b:Str) (at' : Nat) : Except Nat (Str × Nat):=match crlf ((b.take 2048).drop at') with
 | some p=>.ok (p.1,at' + p.1.length + 2)
 | none=>match Nat.blt b.length 2048 with
   | true=>.error 15
   | false=>.error 2
def LK (B:Base) (c:ak) : Prop:=∀ {M:RM} {v:AV} {b:Str} {at' : Nat} {Q:ah},M.base=B→Bs M v b→at'≤b.length→at'≤2048→b.length≤1000000000 →
 (∀ s n M',fA b at'=.ok (s,n)→n≤b.length→n≤2048→s.length≤2048→ae [] M M'→Q (.tup [St s,N .i64 (n:Int),N .i64 0]) M')→(∀ (e:Nat) M',fA b at'=.error e→(e=15∨e=2)→ae [] M M'→Q (.tup [St [],N .i64 0,N .i64 (e:Int)]) M')→c [v,N .i64 (at' : Int)] M Q
theorem Oh {B:Base} {T:Nat} {ci:ak} (hi:Eb B ci) : LK B fun args M Q=>∃ a0 a1,args=[a0,a1]∧oG T ci a0 a1 M Q:=by
 intro M v b at' Q hB hv h1 h2 hl hQ hE
 refine⟨_,_,rfl, ?_⟩
 unfold oG
 rw[hv.len,NL]
 have hm:(if false=true then(if (2048:Int) > (b.length:Int) then(2048:Int) else(b.length:Int)) else if (2048:Int)<(b.length:Int) then 2048 else(b.length:Int))=((min b.length 2048:Nat) : Int):=by
  simp only[Bool.false_eq_true,if_false]
  split <;> omega
 rw[hm]
 refine hv.sub (kw _ _ _) (kw _ _ _) (by omega) (by omega) fun v' hv' hsub=>?_
 have hw:(b.drop at').take (min b.length 2048 - at')=(b.take 2048).drop at':=by
  rw[List.drop_take]
  apply List.take_eq_take_iff.2
  rw[List.length_drop]; omega
 rw[hw] at hv'
 refine Ib fun w M1 hw1 k1=>?_
 have hwl:((b.take 2048).drop at').length=min 2048 b.length - at':=by simp
 refine hi (k1.base.trans hB) (hv'.keep k1 (by simp)) hw1 (by rw[hwl]; omega) ?_
 have hv1:=hv.keep k1 (by simp)
 rcases xK ((b.take 2048).drop at') with⟨e1,e2⟩ | ⟨a,r,e1,e2,e3⟩
 ·rw[e2,dh,show decide ((-1:Int) ≥ 0)=false from rfl,bq,hv1.len,eU]
  by_cases hs:b.length<2048
  ·rw[show decide ((b.length:Int)<2048)=true by simp; omega,bW]
   exact hE 15 _ (by unfold fA; rw[e1]; rw[show Nat.blt b.length 2048=true by rw[Nat.blt_eq]; exact hs]) (.inl rfl) k1
  ·rw[show decide ((b.length:Int)<2048)=false by simp; omega,bq]
   have:Nat.blt b.length 2048=false:=by
    cases h:Nat.blt b.length 2048
    ·rfl
    ·rw[Nat.blt_eq] at h; exact absurd h hs
   exact hE 2 _ (by unfold fA; rw[e1]; simp only[this]) (.inr rfl) k1
 ·have hal:a.length + 2 + r.length=min 2048 b.length - at':=by
   rw[← hwl,e3]; simp; omega
  rw[e2,dh,show decide ((a.length:Int) ≥ 0)=true by simp,bW,addN (by omega)]
  refine hv1.sub (kw _ _ _) (kw _ _ _) (by omega) (by omega) fun v2 hv2 _=>?_
  have htk:(b.drop at').take (at' + a.length - at')=a:=by
   have:(b.drop at').take a.length=((b.take 2048).drop at').take a.length:=by
    rw[List.drop_take,List.take_take]; congr 1; omega
   rw[Nat.add_sub_cancel_left,this,e3]; simp
  rw[htk] at hv2
  rw[hv2.str,addN (by omega),show(N .i64 2)=(N .i64 ((2:Nat) : Int)) from rfl,addN (by omega)]
  exact hQ _ _ _ (by unfold fA; rw[e1]) (by omega) (by omega) (by omega) k1
def hloop (b:Str) : Nat→Nat→List Hd→Except Nat (List Hd × Nat)
 | f,at',l=>match fA b at' with
   | .error e=>.error e
   | .ok (s,n)=>match s with
     | []=>.ok (l,n)
     | _ :: _=>match f with
       | 0=>.error 2
       | f + 1=>match fw s with
         | none=>.error 14
         | some h=>hloop b f n (l++[h])
theorem fq (b:Str) (f at' : Nat) (l:List Hd) : hloop b f at' l=(match fA b at' with
  | .error e=>.error e
  | .ok (s,n)=>match s with
    | []=>.ok (l,n)
    | _ :: _=>match f with
      | 0=>.error 2
      | f + 1=>match fw s with
        | none=>.error 14
        | some h=>hloop b f n (l++[h])):=by rw[hloop.eq_def]
def headD (p:Str→Bool) (b:Str) : Except Nat (Str × List Hd × Nat):=match fA b 0 with
 | .error e=>.error e
 | .ok (s,n)=>match p s with
   | false=>.error 14
   | true=>match hloop b 32 n [] with
     | .error e=>.error e
     | .ok (l,at')=>.ok (s,l,at')
def Dy (B:Base) (cv:FuncId→ak) (a1:AV) (p:Str→Bool) (br:Nat) (X0:RB) (X:Str→RB) : Prop:=∀ {M:RM} {s:Str} {K:ah},M.base=B→br<M.next→M.heap br=some X0→s.length≤2048 →
 (p s=false→∀ M',ae [br] M M'→K (Bo false) M')→(p s=true→∀ M',ae [br] M M'→M'.heap br=some (X s)→K (Bo true) M')→Ba cv a1 [St s] M K
def GU (B:Base) (a1:AV) (p:Str→Bool) (br:Nat) (X0:RB) (X:Str→RB) (T:Nat) (c:ak) : Prop:=∀ {M:RM} {v:AV} {b:Str} {Q:ah},M.base=B→Bs M v b→b.length≤1000000000→br<M.next→br ∉ aH v→M.heap br=some X0 →
 (∀ (e:Nat) M',headD p b=.error e→(e=15∨e=2∨e=14)→ae [br] M M'→Q (.tup [aA,N .i64 0,N .i64 (e:Int)]) M') →
 (∀ s l at' hv M',headD p b=.ok (s,l,at')→at'≤b.length→s.length≤2048→l.length≤32→ae [br] M M'→M'.heap br=some (X s)→Ow HD M' M.next T hv l→Q (.tup [hv,N .i64 (at' : Int),N .i64 0]) M')→c [v,a1] M Q
theorem OM {B:Base} {a1:AV} {p:Str→Bool} {br:Nat} {X0:RB} {X:Str→RB} {T:Nat} {cl ch:ak} {cv:FuncId→ak} (hL:LK B cl) (hH:EM B ch) (hF:Dy B cv a1 p br X0 X) :
  GU B a1 p br X0 X T fun args M Q=>∃ a0 a1,args=[a0,a1]∧ou cl cv ch T a0 a1 M Q:=by
 intro M v b Q hB hv hl hbr hbv hX0 hE hQ
 refine⟨_,_,rfl, ?_⟩
 unfold ou
 refine hL (at':=0) hB hv (Nat.zero_le _) (Nat.zero_le _) hl (fun s n M1 e1 n1 n2 hs k1=>?_) (fun e M1 e1 he k1=>?_)
 rotate_left
 ·simp only[bB,bz,fF,gN]
  rw[show(((e:Nat) : Int) != 0)=true by rcases he with rfl | rfl <;> rfl,bW]
  exact hE e M1 (by unfold headD; rw[e1]) (by omega) (k1.mono (by simp))
 simp only[bB,bz,fF,Ck,bq]
 have hX1:=k1.aL hX0 hbr (by simp)
 refine hF (k1.base.trans hB) (Nat.lt_of_lt_of_le hbr k1.next) hX1 hs (fun hp M2 k2=>?_) (fun hp M2 k2 hX2=>?_)
 ·simp only[bn,Bool.not_false,bW]
  exact hE 14 M2 (by unfold headD; rw[e1]; simp only[hp]) (by omega) ((k1.mono (by simp)).trans k2)
 simp only[bn,Bool.not_true,bq]
 have k12:ae [br] M M2:=(k1.mono (by simp)).trans k2
 have target:∀ r,hloop b 32 n []=r→headD p b=(match r with | .error e=>.error e | .ok (l,at')=>.ok (s,l,at')):=by
  rintro r rfl
  unfold headD; rw[e1]; simp only[hp]
 have hbM:∀ x,M.next≤x→x≠br:=fun x hx e=>by omega
 refine di (fun m ys M3=>∃ (at' : Nat) (hv:AV) (l:List Hd),ys=[hv,N .i64 (at' : Int)]∧l.length + m=32∧at'≤b.length∧at'≤2048∧Ow HD M3 M.next T hv l∧ae [br] M M3∧M3.heap br=some (X s)∧hloop b m at' l=hloop b 32 n []) _
  ⟨n,aA,[],rfl,rfl,n1,n2,.nil,k12,hX2,rfl⟩ ?_
 rintro next m ys M3 hnext ⟨at',hv',l,rfl,hlen,ha1,ha2,hO,k3,hX3,heq⟩
 simp only[aV,dE]
 have hv3:=hv.keep k3 (fun x hx hb=>by simp at hb; subst hb; exact hbv hx)
 refine hL (k3.base.trans hB) hv3 ha1 ha2 hl (fun t n' M4 e4 n41 n42 ht k4=>?_) (fun e M4 e4 he k4=>?_)
 rotate_left
 ·simp only[bB,bz,fF,gN]
  rw[show(((e:Nat) : Int) != 0)=true by rcases he with rfl | rfl <;> rfl,bW]
  refine hE e M4 (target (.error e) ?_) (by omega) (k3.trans (k4.mono (by simp)))
  rw[← heq,fq,e4]
 simp only[bB,bz,fF,Ck,bq,fu]
 have hO4:Ow HD M4 M.next T hv' l:=hO.keep k4 (by simp)
 have k34:ae [br] M M4:=k3.trans (k4.mono (by simp))
 have hX4:=k4.aL hX3 (Nat.lt_of_lt_of_le hbr k3.next) (by simp)
 cases t with
 | nil =>
   rw[show(([] : List UInt8) == [])=true from rfl,bW]
   refine hQ s l n' hv' M4 (target (.ok (l,n')) ?_) n41 hs (by omega) k34 hX4 hO4
   rw[← heq,fq,e4]
 | cons t0 ts =>
   rw[show((t0 :: ts:List UInt8) == [])=false from rfl,bq,hO4.kZ.len,bE]
   cases m with
   | zero =>
     rw[show((l.length:Int) == 32)=true by simp; omega,bW]
     refine hE 2 M4 (target (.error 2) ?_) (by omega) k34
     rw[← heq,fq,e4]
   | succ m =>
     rw[show((l.length:Int) == 32)=false by simp; omega,bq]
     have tail:∀ (a c:Str) (ok:Bool) (M5:RM),ae [] M4 M5→((ok=true∧fw (t0 :: ts)=some (a,c))∨(ok=false∧fw (t0 :: ts)=none)) →
       (aF (.tup [.agg [St a,St c],Bo ok]) 0 fun t46=>aF (.tup [.agg [St a,St c],Bo ok]) 1 fun t47 =>
        bf (.row [(St []),(St [])] false T 0) (fun b=>.ptr b 0) M5 fun t8 M_4=>aK M_4 t8 t46 2 fun M_5=>ek t47 fun t49=>ax t49 ( Q (.tup [(.sc (.slice none 0 0)),(N .i64 0),(N .i64 14)]) M_5) ( bI M_5 t8 2 fun t51=>dW T 1 [(St []),(St [])] [(0,2,t51)] fun r f=>bf r f M_5 fun t52 M_6=>appW T 2 32 [(St []),(St [])] false hv' t52 M_6 fun t53 M_7=>next [t53,N .i64 (n' : Int)] M_7)):=by
      intro a c ok M5 k5 hr
      simp only[bB,bz,aU]
      have n5:(M5.push (.row [St [],St []] false T 0)).heap M5.next=some (.row [St [],St []] false T 0):=by simp[RM.push]
      rw[iY n5 (by rfl) (by rfl) (by rfl)]
      have k6:ae [] M5 ((M5.push (.row [St [],St []] false T 0)).put M5.next (.row [St a,St c] false T 0)):=((ae.refl _ _).push _).new _ (Nat.le_refl _)
      have n6:((M5.push (.row [St [],St []] false T 0)).put M5.next (.row [St a,St c] false T 0)).heap M5.next=some (.row [St a,St c] false T 0):=aP _
      generalize (M5.push (.row [St [],St []] false T 0)).put M5.next (.row [St a,St c] false T 0)=M6 at *
      have k46:ae [] M4 M6:=k5.trans k6
      rcases hr with⟨rfl,hh⟩ | ⟨rfl,hh⟩
      ·simp only[bn,Bool.not_true,bq]
       rw[bN n6 (by rfl),yM (by rfl) (by rfl) (by rfl)]
       simp only[aU]
       refine wN (E:=HD) (a:=(a,c)) (hO4.keep k46 (by simp)) (Nat.le_trans (Nat.le_trans k34.next k46.next) (Nat.le_refl _)) (by decide) (by omega) (by omega) fun v7 M7 o7 k7 _ _=>?_
       have hb7:∀ x∈aH hv',x≠br:=fun x hx=>hbM x (hO4.blk x hx).1
       refine hnext m _ _ (by omega) ⟨n',v7,l++[(a,c)],rfl,by simp; omega,n41,n42,o7, ?_, ?_, ?_⟩
       ·have:=(k34.trans (k46.mono (by simp)))
        refine⟨k7.base.trans this.base,Nat.le_trans this.next k7.next,fun x hx hb=>?_⟩
        have hlt:=Nat.lt_of_lt_of_le hx this.next
        rw[k7.heap x hlt (fun h=>by have:=(hO4.blk x h).1; omega),this.heap x hx hb]
       ·have h6:=k46.aL hX4 (Nat.lt_of_lt_of_le hbr k34.next) (by simp)
        exact k7.aL h6 (Nat.lt_of_lt_of_le hbr (Nat.le_trans k34.next k46.next)) (fun h=>hb7 _ h rfl)
       ·rw[← heq,fq b (m + 1),e4]
        simp only[hh]
      ·simp only[bn,Bool.not_false,bW]
       refine hE 14 M6 (target (.error 14) ?_) (by omega) (k34.trans (k46.mono (by simp)))
       rw[← heq,fq,e4]
       simp only[hh]
     refine hH (k34.base.trans hB) (by omega) (fun h M5 hh k5=>?_) (fun a c M5 hh k5=>?_)
     ·exact tail h.1 h.2 true M5 k5 (.inl ⟨rfl,hh⟩)
     ·exact tail a c false M5 k5 (.inr ⟨rfl,hh⟩)
def isNamed (n:Str) (h:Hd) : Bool:=low h.1 == low n
def bu (l:List Hd) (n:Str) : List Str:=(l.filter (isNamed n)).map (·.2)
theorem Mi {l:List Hd} {n:Str} {i:Nat} (hi:i<l.length) : bu (l.take (i + 1)) n=bu (l.take i) n++(if isNamed n l[i] then[l[i].2] else[]):=by
 unfold bu
 rw[List.take_succ_eq_append_getElem hi,List.filter_append,List.map_append]
 congr 1
 cases h:isNamed n l[i] <;> simp[h]
def Da (T:Nat) (c:ak) : Prop:=∀ {M:RM} {v:AV} {l:List Hd} {n:Str} {Q:ah},Sl HD M v l→l.length≤1000000→(∀ h∈l,h.1.length<4611686018427387904)→n.length<4611686018427387904 →
 (∀ v' M',Ow nY M' M.next T v' (bu l n)→ae [] M M'→Q v' M')→c [v,St n] M Q
theorem Lx {TH T:Nat} {cs:ak} (hs:vK cs) : Da T fun args M Q=>∃ a0 a1,args=[a0,a1]∧nH TH cs T a0 a1 M Q:=by
 intro M v l n Q hv hl hnl hn hQ
 refine⟨_,_,rfl, ?_⟩
 unfold nH
 rw[aG.len hv]
 refine di (fun m ys M3=>∃ (i:Nat) (o:AV),m=l.length - i∧ys=[o,N .i64 (i:Int)]∧i≤l.length∧Ow nY M3 M.next T o (bu (l.take i) n)∧ae [] M M3) _ ⟨0,aA,rfl,rfl,Nat.zero_le _,.nil,ae.refl _ _⟩ ?_
 rintro next m ys M3 hnext ⟨i,o,rfl,rfl,hi,hO,k3⟩
 simp only[aV,dE,ny]
 refine bH (fun h=>?_) fun h=>?_
 ·have hlt:i<l.length:=by simpa using h
  have hv3:Sl HD M3 v l:=aG.keep hv k3 (by simp)
  obtain⟨b,off,hb,_,hix,hld⟩:=hv3.at 2 (i:Int) hlt
  rw[pG,hix,uC]
  refine⟨_,hld, ?_⟩
  simp only[aU]
  have n4:(M3.push (.row [St [],St []] false TH 0)).heap M3.next=some (.row [St [],St []] false TH 0):=by simp[RM.push]
  rw[iY n4 (by rfl) (by rfl) (by rfl)]
  have k4:ae [] M3 ((M3.push (.row [St [],St []] false TH 0)).put M3.next (.row (HD.cells l[i]) false TH 0)):=((ae.refl _ _).push _).new _ (Nat.le_refl _)
  have n5:((M3.push (.row [St [],St []] false TH 0)).put M3.next (.row (HD.cells l[i]) false TH 0)).heap M3.next=some (.row (HD.cells l[i]) false TH 0):=aP _
  have l5:M3.next<((M3.push (.row [St [],St []] false TH 0)).put M3.next (.row (HD.cells l[i]) false TH 0)).next:=by simp[RM.push,RM.put]
  generalize (M3.push (.row [St [],St []] false TH 0)).put M3.next (.row (HD.cells l[i]) false TH 0)=M4 at *
  rw[gK,az n5 (by rfl:(HD.cells l[i])[0]?=some (St l[i].1))]
  refine hs (by have:=hnl l[i] (List.getElem_mem hlt); omega) fun M5 k5=>?_
  refine hs (by omega) fun M6 k6=>?_
  have k46:=k4.trans (k5.trans k6)
  have n6:=(k5.trans k6).aL n5 l5 (by simp)
  simp only[fu,add1 (show i<4611686018427387904 by omega)]
  have nt:=Mi (n:=n) hlt
  refine bH (fun h=>?_) fun h=>?_
  ·have hin:isNamed n l[i]=true:=h
   rw[hin,if_pos rfl] at nt
   rw[gK,az n6 (by rfl:(HD.cells l[i])[1]?=some (St l[i].2)),yM (by rfl) (by rfl) (by rfl)]
   simp only[aU]
   have hO6:Ow nY M6 M.next T o (bu (l.take i) n):=hO.keep k46 (by simp)
   have hlen:(bu (l.take i) n).length≤1000000:=by
    unfold bu
    rw[List.length_map]
    refine Nat.le_trans (List.length_filter_le _ _) ?_
    simp; omega
   refine wN (E:=nY) (a:=l[i].2) hO6 (Nat.le_trans k3.next k46.next) (by decide) (by omega) (by omega) fun v7 M7 o7 k7 _ _=>?_
   refine hnext _ _ _ (by omega) ⟨i + 1,v7,rfl,rfl,by omega,by rw[nt]; exact o7, ?_⟩
   have kk:=k3.trans k46
   refine⟨k7.base.trans kk.base,Nat.le_trans kk.next k7.next,fun x hx hb=>?_⟩
   rw[k7.heap x (Nat.lt_of_lt_of_le hx kk.next) (fun h=>by have:=(hO6.blk x h).1; omega),kk.heap x hx hb]
  ·have hin:isNamed n l[i]=false:=h
   rw[hin,if_neg (by decide),List.append_nil] at nt
   exact hnext _ _ _ (by omega) ⟨i + 1,o,rfl,rfl,by omega,by rw[nt]; exact hO.keep k46 (by simp),k3.trans k46⟩
 ·have:i=l.length:=by simp at h; omega
  subst this
  rw[List.take_length] at hO
  exact hQ o M3 hO k3
def lM:List Str→AV
 | []=>.tup [St [],Bo false]
 | s :: _=>.tup [St s,Bo true]
def L6 (c:ak) : Prop:=∀ {M:RM} {v:AV} {l:List Hd} {n:Str} {Q:ah},Sl HD M v l→l.length≤1000000→(∀ h∈l,h.1.length<4611686018427387904)→n.length<4611686018427387904 →
 (∀ M',ae [] M M'→Q (lM (bu l n)) M')→c [v,St n] M Q
theorem LC {T:Nat} {cn:ak} (hn:Da T cn) : L6 fun args M Q=>∃ a0 a1,args=[a0,a1]∧nM cn a0 a1 M Q:=by
 intro M v l n Q hv hl h1 h2 hQ
 refine⟨_,_,rfl, ?_⟩
 unfold nM
 refine hn hv hl h1 h2 fun v' M1 o k1=>?_
 have hs:Sl nY M1 v' (bu l n):=Own.kZ o
 rw[hs.len,cZ]
 have hQ:=hQ M1 k1
 generalize bu l n=xs at *
 cases xs with
 | nil =>
   rw[show decide ((([] : List Str).length:Int) > 0)=false from rfl,bq]
   exact hQ
 | cons x xs =>
   rw[show decide (((x :: xs).length:Int) > 0)=true by simp,bW]
   obtain⟨b,o',_,_,hix,hld⟩:=hs.at 1 0 (i:=0) (by simp)
   rw[hix,dD]
   exact⟨_,dX.1 hld,hQ⟩
theorem Qf {T:Nat} {cf:ak} (hf:L6 cf) {M:RM} {x y v:AV} {tl:List AV} {l:List Hd} {n:Str} {Q:ah} (hv:Sl HD M v l) (hl:l.length≤1000000) (h1:∀ h∈l,h.1.length<4611686018427387904) (h2:n.length<4611686018427387904)
  (hc:(x :: y :: v :: tl).all oneCell=true) (hQ:∀ M',ae [] M M'→Q (lM (bu l n)) M') : jv T cf (.agg (x :: y :: v :: tl)) (St n) M Q:=by
 unfold jv
 rw[iU hc (by simp)]
 simp only[aU]
 have k1:ae [] M (M.push (.row (x :: y :: v :: tl) false T 0)):=(ae.refl _ _).push _
 have n1:(M.push (.row (x :: y :: v :: tl) false T 0)).heap M.next=some (.row (x :: y :: v :: tl) false T 0):=by simp[RM.push]
 rw[gK,az n1 (by rfl:(x :: y :: v :: tl)[2]?=some v)]
 refine hf (aG.keep hv k1 (by simp)) hl h1 h2 fun M2 k2=>?_
 have:=hQ M2 (k1.trans k2)
 generalize bu l n=xs at *
 cases xs <;> simpa only[lM,bB,bz] using this
theorem NA {T:Nat} {cf:ak} (hf:L6 cf) {M:RM} {x v:AV} {tl:List AV} {l:List Hd} {n:Str} {Q:ah} (hv:Sl HD M v l) (hl:l.length≤1000000) (h1:∀ h∈l,h.1.length<4611686018427387904) (h2:n.length<4611686018427387904)
  (hc:(x :: v :: tl).all oneCell=true) (hQ:∀ M',ae [] M M'→Q (lM (bu l n)) M') : jb T cf (.agg (x :: v :: tl)) (St n) M Q:=by
 unfold jb
 rw[iU hc (by simp)]
 simp only[aU]
 have k1:ae [] M (M.push (.row (x :: v :: tl) false T 0)):=(ae.refl _ _).push _
 have n1:(M.push (.row (x :: v :: tl) false T 0)).heap M.next=some (.row (x :: v :: tl) false T 0):=by simp[RM.push]
 rw[gK,az n1 (by rfl:(x :: v :: tl)[1]?=some v)]
 refine hf (aG.keep hv k1 (by simp)) hl h1 h2 fun M2 k2=>?_
 have:=hQ M2 (k1.trans k2)
 generalize bu l n=xs at *
 cases xs <;> simpa only[lM,bB,bz] using this
def Ld (B:Base) (c:ak) : Prop:=∀ {M:RM} {v w:AV} {s:Str} {Q:ah},M.base=B→Bs M v s→Bs M w [13,10]→s.length≤1000000000 →
 (∀ a r v1 v2,crlf s=some (a,r)→Bs M v1 a→Q (.tup [v1,v2,Bo true]) M)→(crlf s=none→Q (.tup [v,aA,Bo false]) M)→c [v,w] M Q
theorem ni {s a r:Str} (h:crlf s=some (a,r)) : s=a++13 :: 10 :: r∧a.length + 2 + r.length=s.length:=by
 rcases xK s with⟨h1,_⟩ | ⟨a',r',h1,_,h3⟩
 ·rw[h] at h1; cases h1
 ·rw[h] at h1; cases h1
  refine⟨h3, ?_⟩
  rw[h3]; simp; omega
theorem Ni {B:Base} {ci:ak} (hi:Eb B ci) : Ld B fun args M Q=>∃ a0 a1,args=[a0,a1]∧vH ci a0 a1 M Q:=by
 intro M v w s Q hB hv hw hl hQ hN
 refine⟨_,_,rfl, ?_⟩
 unfold vH
 refine hi hB hv hw hl ?_
 rcases xK s with⟨e1,e2⟩ | ⟨a,r,e1,e2,e3⟩
 ·rw[e2,dh,show decide ((-1:Int) ≥ 0)=false from rfl,bq]
  exact hN e1
 ·have hal:=(ni e1).2
  rw[e2,dh,show decide ((a.length:Int) ≥ 0)=true by simp,bW]
  refine hv.sub (Aw 0) (kw _ _ _) (Nat.zero_le _) (by omega) fun v1 hv1 _=>?_
  rw[hw.len,addN (show a.length + ([13,10] : Str).length<4611686018427387904 by simp; omega)]
  refine hv.sub (kw _ _ _) (Aw _) (by simp; omega) (Nat.le_refl _) fun v2 hv2 _=>?_
  refine hQ a r v1 v2 e1 ?_
  have:(s.drop 0).take (a.length - 0)=a:=by rw[e3]; simp
  rw[this] at hv1; exact hv1
def kS (x:UInt8) : Nat:=if x.toNat≤57 then x.toNat - 48 else if x.toNat≤90 then x.toNat - 55 else x.toNat - 87
def jD (s:Str) : Nat:=s.foldl (fun n x=>n * 16 + kS x) 0
def gy (s:Str) : Nat:=s.foldl (fun n x=>n * 10 + (x.toNat - 48)) 0
def Fp (c:ak) : Prop:=∀ {M:RM} {s:Str} {Q:ah},1≤s.length→s.length≤8→(low s).all jZ=true→(∀ M',ae [] M M'→Q (.tup [N .u64 (jD s:Int),.sc .nilIface]) M')→c [St s,N .i64 16,N .i64 64] M Q
def Lp (c:ak) : Prop:=∀ {M:RM} {s:Str} {Q:ah},1≤s.length→s.length≤9→s.all fo=true→(∀ M',ae [] M M'→Q (.tup [N .i64 (gy s:Int),.sc .nilIface]) M')→c [St s] M Q
theorem KZ {x:UInt8} (h:jZ (bJ x)=true) : kS x<16:=by
 unfold jZ fo at h
 unfold kS
 simp only[Bool.or_eq_true,Bool.and_eq_true,decide_eq_true_eq] at h
 have hx:=Bg x
 have hl:(bJ x).toNat=x.toNat∨((bJ x).toNat=x.toNat + 32∧65≤x.toNat∧x.toNat≤90):=by
  unfold bJ
  split
  ·right
   refine⟨?_,by omega,by omega⟩
   rw[UInt8.toNat_add]
   show(x.toNat + 32) % 256=_
   omega
  ·exact .inl rfl
 split
 ·omega
 ·split <;> omega
theorem IB:∀ (s:Str) (n:Nat),(low s).all jZ=true→s.foldl (fun n x=>n * 16 + kS x) n<(n + 1) * 16 ^ s.length
 | [],n,_=>by simp
 | x :: s,n,h=>by
   simp only[low,List.map_cons,List.all_cons,Bool.and_eq_true] at h
   have hd:=KZ h.1
   have:=IB s (n * 16 + kS x) h.2
   rw[List.foldl_cons]
   refine Nat.lt_of_lt_of_le this ?_
   rw[List.length_cons,Nat.pow_succ,Nat.mul_comm (16 ^ s.length) 16,← Nat.mul_assoc]
   exact Nat.mul_le_mul_right _ (by omega)
theorem KP {s:Str} (h:(low s).all jZ=true) (hl:s.length≤8) : jD s<4294967296:=by
 have:=IB s 0 h
 unfold jD
 refine Nat.lt_of_lt_of_le this ?_
 rw[Nat.zero_add,Nat.one_mul]
 exact Nat.le_trans (Nat.pow_le_pow_right (by decide) hl) (by decide)
def jo (s:Str) : Bool:=fO s 1 8 && (low s).all jZ
def iZ (r:Str) : Except Nat (Nat × Str):=match crlf r with
 | none=>match Nat.blt 10 r.length with
   | true=>.error 14
   | false=>.error 15
 | some p=>match jo p.1 with
   | true=>.ok (jD p.1,p.2)
   | false=>.error 14
def MI (B:Base) (c:ak) : Prop:=∀ {M:RM} {v:AV} {b:Str} {at' : Nat} {Q:ah},M.base=B→Bs M v b→at'≤b.length→b.length≤1000000000 →
 (∀ n r at2 M',iZ (b.drop at')=.ok (n,r)→at2≤b.length→at' + 2<at2→b.drop at2=r→n<4294967296→ae [] M M'→Q (.tup [N .i64 (n:Int),N .i64 (at2:Int),N .i64 0]) M') →
 (∀ (e:Nat) M',iZ (b.drop at')=.error e→(e=14∨e=15)→ae [] M M'→Q (.tup [N .i64 0,N .i64 0,N .i64 (e:Int)]) M')→c [v,N .i64 (at' : Int)] M Q
theorem OI {B:Base} {T g:Nat} {cc cw cs ca cp:ak} (hc:Ld B cc) (hw:rV cw) (hs:vK cs) (ha:mF jZ (.fn (.func g) [] []) ca) (hp:Fp cp) :
  MI B fun args M Q=>∃ a0 a1,args=[a0,a1]∧oI T cc cw cs ca g cp a0 a1 M Q:=by
 intro M v b at' Q hB hv h1 hl hQ hE
 refine⟨_,_,rfl, ?_⟩
 unfold oI
 refine hv.sub (kw _ _ _) (Aw _) h1 (Nat.le_refl _) fun v1 hv1 _=>?_
 have hd:(b.drop at').take (b.length - at')=b.drop at':=List.take_of_length_le (by simp)
 rw[hd] at hv1
 refine Ib fun w M1 hw1 k1=>?_
 have hv2:=hv1.keep k1 (by simp)
 have hdl:(b.drop at').length=b.length - at':=by simp
 refine hc (k1.base.trans hB) hv2 hw1 (by rw[hdl]; omega) (fun a r u1 u2 hcr hu1=>?_) (fun hcr=>?_)
 ·have hlen:=(ni hcr).2
  simp only[bB,bz,fF,bn,Bool.not_true,bX,eP,bZ,bq]
  rw[hu1.str]
  refine hw ?_
  simp only[bn]
  -- the two tests
  have tail:∀ M2,ae [] M M2→Bs M2 u1 a→((ax (Bo (!jo a)) (Q (.tup [(N .i64 0),(N .i64 0),(N .i64 14)]) M2) (
    bQ M2 u1 fun t44=>cp [t44,(N .i64 16),(N .i64 64)] M2 fun t45 vM=>aF t45 0 fun t46=>aF t45 1 fun t47=>jc .i64 t46 fun t49=>aT u1 fun t52=>af .add (N .i64 (at' : Int)) t52 fun t53=>af .add t53 (N .i64 2) fun t54=>Q (.tup [t49,t54,(N .i64 0)]) vM))):=by
   intro M2 k2 hu2
   refine bH (fun h=>?_) fun h=>?_
   ·have hk:jo a=false:=by simpa using h
    exact hE 14 M2 (by unfold iZ; rw[hcr]; simp only[hk]) (.inl rfl) k2
   ·have hk:jo a=true:=by simpa using h
    have hk':=hk
    unfold jo fO at hk'
    simp only[Bool.and_eq_true,decide_eq_true_eq] at hk'
    rw[hu2.str]
    refine hp (by omega) (by omega) hk'.2 fun M3 k3=>?_
    have hlt:=KP hk'.2 (by omega)
    simp only[bB,bz,mQ]
    rw[gU (by omega) (by omega),hu2.len,addN (by omega),show(N .i64 2)=(N .i64 ((2:Nat) : Int)) from rfl,addN (by omega)]
    refine hQ (jD a) r (at' + a.length + 2) M3 (by unfold iZ; rw[hcr]; simp only[hk]) (by omega) (by omega) ?_ hlt (k2.trans k3)
    have e3:=(ni hcr).1
    rw[show at' + a.length + 2=at' + (a.length + 2) by omega,← List.drop_drop,e3,← List.drop_drop]
    simp
  cases hwi:fO a 1 8 with
  | false =>
    simp only[Bool.not_false,bS,bU]
    have:=tail M1 k1 hu1
    unfold jo at this
    rw[hwi] at this
    simpa only[Bool.false_and,Bool.not_false] using this
  | true =>
    simp only[Bool.not_true,bg,bZ]
    rw[hu1.str]
    refine hs (by omega) fun M2 k2=>?_
    refine ha (by rw[low,List.length_map]; omega) fun M3 k3=>?_
    have k23:=k2.trans k3
    have:=tail M3 (k1.trans k23) (hu1.keep k23 (by simp))
    unfold jo at this
    rw[hwi] at this
    simpa only[bn,Bool.true_and,bZ] using this
 ·simp only[bB,bz,fF,bn,Bool.not_false,bX,bM,bU]
  rw[hv2.len,cZ,hdl]
  by_cases h10:10<b.length - at'
  ·rw[show decide (((b.length - at' : Nat) : Int) > 10)=true by simp; omega,bW]
   exact hE 14 M1 (by unfold iZ; rw[hcr]; simp only[hdl]; rw[show Nat.blt 10 (b.length - at')=true by rw[Nat.blt_eq]; exact h10]) (.inl rfl) k1
  ·rw[show decide (((b.length - at' : Nat) : Int) > 10)=false by simp; omega,bq,bW]
   refine hE 15 M1 ?_ (.inr rfl) k1
   unfold iZ; rw[hcr]; simp only[hdl]
   have:Nat.blt 10 (b.length - at')=false:=by
    cases h:Nat.blt 10 (b.length - at')
    ·rfl
    ·rw[Nat.blt_eq] at h; exact absurd h h10
   rw[this]
end Go.Ab.Hw
namespace Go.Ab.Hw
open Go Go.Ab Go.Ab.Sm
theorem ae.own {bs:List Nat} {M M1 M2:RM} {v:AV} (k1:ae bs M M1) (k2:ae (aH v) M1 M2) (hv:∀ b∈aH v,M.next≤b) : ae bs M M2 :=
 ⟨k2.base.trans k1.base,Nat.le_trans k1.next k2.next,fun x hx hb=>by
  rw[k2.heap x (Nat.lt_of_lt_of_le hx k1.next) (fun h=>by have:=hv x h; omega),k1.heap x hx hb]⟩
def bG:Nat→Str→Str→Except Nat (Str × Str)
 | 0,_,_=>.error 99
 | f + 1,r,out=>match iZ r with
   | .error e=>.error e
   | .ok (n,r1)=>match Nat.blt (16384 - out.length) n with
     | true=>.error 2
     | false=>match Nat.blt r1.length (n + 2) with
       | true=>.error 15
       | false=>match (r1.drop n).take 2 == [13,10] with
         | false=>.error 14
         | true=>match Nat.beq n 0 with
           | true=>.ok (out,r1.drop 2)
           | false=>bG f (r1.drop (n + 2)) (out++r1.take n)
theorem qM {a b:Nat} (h:a<b) : Nat.blt a b=true:=by rw[Nat.blt_eq]; exact h
theorem iy {a b:Nat} (h:¬ a<b) : Nat.blt a b=false:=by
 cases e:Nat.blt a b
 ·rfl
 ·rw[Nat.blt_eq] at e; exact absurd e h
theorem SY {n:Nat} (h:n≠0) : Nat.beq n 0=false:=by cases n <;> first | exact absurd rfl h | rfl
theorem FC {r r1:Str} {n:Nat} (h:iZ r=.ok (n,r1)) : r1.length + 2<r.length:=by
 unfold iZ at h
 split at h
 ·split at h <;> cases h
 ·rename_i p hp
  obtain⟨a,q⟩:=p
  have:=(ni hp).2
  split at h
  ·rename_i hk
   cases h
   unfold jo fO at hk
   simp only[Bool.and_eq_true,decide_eq_true_eq] at hk
   show q.length + 2<r.length
   omega
  ·cases h
theorem zO:∀ (f g:Nat) (r out:Str),r.length<f→r.length<g→bG f r out=bG g r out
 | 0,_,_,_,h,_=>absurd h (by omega)
 | _,0,_,_,_,h=>absurd h (by omega)
 | f + 1,g + 1,r,out,h1,h2=>by
   rw[bG,bG]
   cases hs:iZ r with
   | error e=>rfl
   | ok p =>
     obtain⟨n,r1⟩:=p
     have:=FC hs
     dsimp only
     repeat' split
     all_goals first | rfl | skip
     exact zO f g _ _ (by simp; omega) (by simp; omega)
def Cn (B:Base) (T:Nat) (c:ak) : Prop:=∀ {M:RM} {v:AV} {b:Str} {at' : Nat} {Q:ah},M.base=B→Bs M v b→at'≤b.length→b.length≤1000000000 →
 (∀ out r at2 ov M',bG (b.length - at' + 1) (b.drop at') []=.ok (out,r)→at2≤b.length→at'≤at2→b.drop at2=r→out.length≤16384→ae [] M M'→Ow BY M' M.next T ov out→Q (.tup [ov,N .i64 (at2:Int),N .i64 0]) M') →
 (∀ (e:Nat) M',bG (b.length - at' + 1) (b.drop at') []=.error e→(e=14∨e=15∨e=2)→ae [] M M'→Q (.tup [aA,N .i64 0,N .i64 (e:Int)]) M')→c [v,N .i64 (at' : Int)] M Q
theorem Jd {B:Base} {T:Nat} {cs:ak} (hs:MI B cs) : Cn B T fun args M Q=>∃ a0 a1,args=[a0,a1]∧lW cs T a0 a1 M Q:=by
 intro M v b at0 Q hB hv h0 hl hQ hE
 refine⟨_,_,rfl, ?_⟩
 unfold lW
 generalize hr0:bG (b.length - at0 + 1) (b.drop at0) []=target at *
 refine di (fun m ys M3=>∃ (at' : Nat) (ov:AV) (out:Str),ys=[N .i64 (at' : Int),ov]∧at'≤b.length∧at0≤at'∧m=b.length - at'∧out.length≤16384∧Ow BY M3 M.next T ov out∧ae [] M M3∧bG (m + 1) (b.drop at') out=target) _
  ⟨at0,aA,[],rfl,h0,Nat.le_refl _,rfl,by simp,.nil,ae.refl _ _,hr0⟩ ?_
 rintro next m ys M3 hnext ⟨at',ov,out,rfl,h1,h2,rfl,hol,hO,k3,heq⟩
 simp only[aV,dE]
 have hv3:=hv.keep k3 (by simp)
 refine hs (k3.base.trans hB) hv3 h1 hl (fun n r at2 M4 e4 a1 a2 hr hn k4=>?_) (fun e M4 e4 he k4=>?_)
 rotate_left
 ·simp only[bB,bz,fF,gN]
  rw[show(((e:Nat) : Int) != 0)=true by rcases he with rfl | rfl <;> rfl,bW]
  refine hE e M4 ?_ (by omega) (k3.trans k4)
  rw[← heq,bG,e4]
 simp only[bB,bz,fF,Ck,bq]
 have hO4:Ow BY M4 M.next T ov out:=hO.keep k4 (by simp)
 have k34:=k3.trans k4
 have hv4:=hv3.keep k4 (by simp)
 rw[hO4.kZ.len,show(N .i64 16384)=N .i64 ((16384:Nat) : Int) from rfl,IW hol (by omega),II]
 have hrl:r.length=b.length - at2:=by rw[← hr]; simp
 refine bH (fun h=>?_) fun h=>?_
 ·have h:16384 - out.length<n:=by simpa using h
  refine hE 2 M4 ?_ (by omega) k34
  rw[← heq,bG,e4]
  simp only[qM h]
 have hf1:¬ 16384 - out.length<n:=by simpa using h
 rw[show(N .i64 2)=N .i64 ((2:Nat) : Int) from rfl,addN (by omega),hv4.len,IW a1 (by omega),II]
 refine bH (fun h=>?_) fun h=>?_
 ·have h:b.length - at2<n + 2:=by simpa using h
  refine hE 15 M4 ?_ (by omega) k34
  rw[← heq,bG,e4]
  simp only[iy hf1,hrl,qM h]
 have hf2:¬ b.length - at2<n + 2:=by simpa using h
 simp only[addN (show at2 + n<4611686018427387904 by omega),addN (show at2 + n + 2<4611686018427387904 by omega)]
 refine hv4.sub (kw _ _ _) (kw _ _ _) (by omega) (by omega) fun v5 hv5 _=>?_
 have hdr:(b.drop (at2 + n)).take (at2 + n + 2 - (at2 + n))=(r.drop n).take 2:=by
  rw[← hr,List.drop_drop,show at2 + n + 2 - (at2 + n)=2 by omega]
 rw[hdr] at hv5
 rw[hv5.str,sw]
 cases he2:(r.drop n).take 2 == [13,10] with
 | false =>
   rw[show((r.drop n).take 2 != [13,10])=true by unfold bne; rw[he2]; rfl,bW]
   refine hE 14 M4 ?_ (by omega) k34
   rw[← heq,bG,e4]
   simp only[iy hf1,hrl,iy hf2,he2]
 | true =>
   rw[show((r.drop n).take 2 != [13,10])=false by unfold bne; rw[he2]; rfl,bq]
   rw[show(N .i64 0)=N .i64 ((0:Nat) : Int) from rfl,XP]
   refine bH (fun h=>?_) fun h=>?_
   ·have h0:n=0:=by simpa using h
    subst h0
    refine hQ out (r.drop 2) (at2 + 0 + 2) ov M4 ?_ (by omega) (by omega) ?_ hol k34 hO4
    ·rw[← heq,bG,e4]
     simp only[iy hf1,hrl,iy hf2,he2]
     try rfl
    ·rw[← hr,List.drop_drop,Nat.add_zero]
   ·have hn0:n≠0:=by simpa using h
    refine hv4.sub (kw _ _ _) (kw _ _ _) (by omega) (by omega) fun v6 hv6 hsub6=>?_
    have htk:(b.drop at2).take (at2 + n - at2)=r.take n:=by rw[hr,Nat.add_sub_cancel_left]
    rw[htk] at hv6
    have htl:(r.take n).length=n:=by simp; omega
    refine kL (E:=BY) hO4 k34.next (by decide) hv6.sl (by rw[htl]; omega) (by rw[htl]; omega) fun v7 M7 o7 k7 _ _=>?_
    refine hnext _ _ _ (show b.length - (at2 + n + 2)<b.length - at' by omega) ⟨at2 + n + 2,v7,out++r.take n,rfl,by omega,by omega,rfl,by rw[List.length_append,htl]; omega,o7,ae.own k34 k7 (fun x hx=>(hO4.blk x hx).1), ?_⟩
    have hd:b.drop (at2 + n + 2)=r.drop (n + 2):=by rw[← hr,List.drop_drop,Nat.add_assoc]
    rw[← heq,hd]
    conv=>rhs; rw[bG,e4]
    simp only[iy hf1,hrl,iy hf2,he2,SY hn0]
    exact zO _ _ _ _ (by simp; omega) (by simp; omega)
end Go.Ab.Hw
set_option maxRecDepth 100000
namespace Go.Ab.Dot
open Go Go.Ab
def rZ (p1:Nat) (a0:AV) (M0:RM) (Q:ah) : Prop:=iF false 2 a0 (.sc (.slice none 0 0)) fun h=>ax h ( Q (.sc (.slice none 0 0)) M0) ( dW p1 0 [(N .u8 0)] [] fun g e=>bf g e M0 fun i c=>appW p1 1 1 [(N .u8 0)] false i a0 c fun j d=>Q j d)
end Go.Ab.Dot
set_option maxRecDepth 10000
namespace Go.Ab.Hw
open Go Go.Ab Go.Ab.Sm
def Ih (T:Nat) (c:ak) : Prop:=∀ {M:RM} {v:AV} {s:Str} {Q:ah},Sl BY M v s→s.length≤1000000000→(∀ v' M',Ow BY M' M.next T v' s→ae [] M M'→Q v' M')→c [v] M Q
theorem K8 {T:Nat} : Ih T fun args M Q=>∃ a0,args=[a0]∧Go.Ab.Dot.rZ T a0 M Q:=by
 intro M v s Q hv hl hQ
 refine⟨_,rfl, ?_⟩
 unfold Go.Ab.Dot.rZ
 rcases aG.xI hv false with⟨rfl,he⟩ | ⟨hne,he⟩
 ·rw[he,show(!false)=true from rfl,bW]
  have:s=[]:=by
   unfold Sl at hv
   cases s with
   | nil=>rfl
   | cons x s=>generalize hcs:BY.row (x :: s)=cs at *; generalize hn:(x :: s).length=n at *; cases hv; cases hcs
  subst this
  exact hQ aA M .nil (ae.refl _ _)
 ·rw[he,bq,G8]
  simp only[aU]
  have k1:ae [] M (M.push (.row [] false T 0)):=(ae.refl _ _).push _
  refine kL (E:=BY) (Ow.lit BY M) (by simp[RM.push]) (by decide) (aG.keep hv k1 (by simp)) (by simp; omega) (by simp; omega) fun v7 M7 o7 k7 _ _=>?_
  refine hQ v7 M7 (by simpa using o7) ?_
  refine ae.own k1 k7 (fun b hb=>?_)
  simp[aH] at hb; omega
abbrev mR:Str:=[116,114,97,110,115,102,101,114,45,101,110,99,111,100,105,110,103]
abbrev mq:Str:=[99,111,110,116,101,110,116,45,108,101,110,103,116,104]
abbrev qi:Str:=[99,104,117,110,107,101,100]
def qY (v:Str) : Bool:=fO v 1 9 && v.all fo
def jI (r:Str) (l:List Hd) : Except Nat (Str × Str):=match bu l mR with
 | x :: xs=>match xs with
   | _ :: _=>.error 14
   | []=>match low x == qi with
     | false=>.error 14
     | true=>match bu l mq with
       | _ :: _=>.error 14
       | []=>bG (r.length + 1) r []
 | []=>match bu l mq with
   | []=>.ok ([],r)
   | v :: vs=>match vs with
     | _ :: _=>.error 14
     | []=>match qY v with
       | false=>.error 14
       | true=>match Nat.blt 16384 (gy v) with
         | true=>.error 2
         | false=>match Nat.blt r.length (gy v) with
           | true=>.error 15
           | false=>.ok (r.take (gy v),r.drop (gy v))
def GZ (B:Base) (T:Nat) (c:ak) : Prop:=∀ {M:RM} {v hv:AV} {b:Str} {l:List Hd} {at' : Nat} {Q:ah},M.base=B→Bs M v b→at'≤b.length→b.length≤1000000000→Sl HD M hv l→l.length≤1000000→(∀ h∈l,h.1.length<4611686018427387904∧h.2.length<4611686018427387904) →
 (∀ out r at2 ov M',jI (b.drop at') l=.ok (out,r)→at2≤b.length→at'≤at2→b.drop at2=r→out.length≤16384→ae [] M M'→Ow BY M' M.next T ov out→Q (.tup [ov,N .i64 (at2:Int),N .i64 0]) M') →
 (∀ (e:Nat) M',jI (b.drop at') l=.error e→(e=14∨e=15∨e=2)→ae [] M M'→Q (.tup [aA,N .i64 0,N .i64 (e:Int)]) M')→c [v,N .i64 (at' : Int),hv] M Q
theorem Oi {l:List Hd} {n s:Str} (h:s∈bu l n) : ∃ x∈l,x.2=s:=by
 unfold bu at h
 rw[List.mem_map] at h
 obtain⟨x,hx,e⟩:=h
 exact⟨x,(List.mem_filter.1 hx).1,e⟩
theorem JF:∀ (s:Str) (n:Nat),s.all fo=true→s.foldl (fun n x=>n * 10 + (x.toNat - 48)) n<(n + 1) * 10 ^ s.length
 | [],n,_=>by simp
 | x :: s,n,h=>by
   simp only[List.all_cons,Bool.and_eq_true] at h
   have hd:x.toNat - 48<10:=by
    have:=h.1
    unfold fo at this
    simp only[Bool.and_eq_true,decide_eq_true_eq] at this
    omega
   have:=JF s (n * 10 + (x.toNat - 48)) h.2
   rw[List.foldl_cons]
   refine Nat.lt_of_lt_of_le this ?_
   rw[List.length_cons,Nat.pow_succ,Nat.mul_comm (10 ^ s.length) 10,← Nat.mul_assoc]
   exact Nat.mul_le_mul_right _ (by omega)
theorem RL {s:Str} (h:s.all fo=true) (hl:s.length≤9) : gy s<1000000000:=by
 have:=JF s 0 h
 unfold gy
 refine Nat.lt_of_lt_of_le this ?_
 rw[Nat.zero_add,Nat.one_mul]
 exact Nat.le_trans (Nat.pow_le_pow_right (by decide) hl) (by decide)
theorem NG {B:Base} {T TS g:Nat} {cn cs cc cw ca ci cl:ak} (hn:Da TS cn) (hs:vK cs) (hc:Cn B T cc) (hw:rV cw) (ha:mF fo (.fn (.func g) [] []) ca) (hi:Lp ci) (hcl:Ih T cl) :
  GZ B T fun args M Q=>∃ a0 a1 a2,args=[a0,a1,a2]∧om cn cs cc cw ca g ci cl a0 a1 a2 M Q:=by
 intro M v hv b l at' Q hB hb h1 hl hh hll hnl hQ hE
 refine⟨_,_,_,rfl, ?_⟩
 unfold om
 have hval:∀ {n s},s∈bu l n→s.length<4611686018427387904:=fun hm=>by
  obtain⟨x,hx,rfl⟩:=Oi hm
  exact(hnl x hx).2
 have hrl:(b.drop at').length=b.length - at':=by simp
 refine hn hh hll (fun h hx=>(hnl h hx).1) (by decide) fun v1 M1 o1 k1=>?_
 refine hn (aG.keep hh k1 (by simp)) hll (fun h hx=>(hnl h hx).1) (by decide) fun v2 M2 o2 k2=>?_
 have k12:=k1.trans k2
 have s1:Sl nY M2 v1 (bu l mR):=aG.keep (Own.kZ o1) k2 (by simp)
 have s2:Sl nY M2 v2 (bu l mq):=Own.kZ o2
 have Vo := @hval mR
 have VL := @hval mq
 unfold jI at hQ hE
 rw[hrl] at hQ hE
 change Sl nY M2 v1 (bu l mR) at s1
 generalize bu l mR=xs at *
 generalize bu l mq=ys at *
 rw[s1.len,cZ]
 cases xs with
 | cons x xs =>
   rw[show decide (((x :: xs).length:Int) > 0)=true by simp,bW,s1.len,cZ]
   simp only[bX]
   cases xs with
   | cons x2 xs =>
     rw[show decide (((x :: x2 :: xs).length:Int) > 1)=true by simp; omega]
     simp only[bS,bU,bW]
     exact hE 14 M2 rfl (.inl rfl) k12
   | nil =>
     rw[show decide ((([x] : List Str).length:Int) > 1)=false from rfl]
     simp only[bg,bZ]
     obtain⟨b0,o0,_,_,hix,hld⟩:=s1.at 1 0 (i:=0) (by simp)
     rw[hix,dD]
     refine⟨_,dX.1 hld, ?_⟩
     refine hs (by have:=Vo (List.mem_singleton.2 rfl); simpa using (by omega:x.length<9223372036854775807)) fun M3 k3=>?_
     simp only[List.getElem_cons_zero,sw]
     cases hlow:low x == qi with
     | false =>
       rw[show(low x != qi)=true by unfold bne; rw[hlow]; rfl]
       simp only[bS,bU,bW]
       exact hE 14 M3 (by simp only[hlow]) (.inl rfl) (k12.trans k3)
     | true =>
       rw[show(low x != qi)=false by unfold bne; rw[hlow]; rfl]
       simp only[bg,bZ]
       have s23:Sl nY M3 v2 ys:=aG.keep s2 k3 (by simp)
       rw[s23.len,cZ]
       cases ys with
       | cons y ys =>
         rw[show decide (((y :: ys).length:Int) > 0)=true by simp,bW]
         exact hE 14 M3 (by simp only[hlow]) (.inl rfl) (k12.trans k3)
       | nil =>
         rw[show decide ((([] : List Str).length:Int) > 0)=false from rfl,bq]
         have k13:=k12.trans k3
         refine hc (k13.base.trans hB) (hb.keep k13 (by simp)) h1 hl (fun out r at2 ov M4 e4 a1 a2 hr ho k4 o4=>?_) (fun e M4 e4 he k4=>?_)
         ·simp only[bB,bz,fF]
          exact hQ out r at2 ov M4 (by simp only[hlow]; exact e4) a1 a2 hr ho (k13.trans k4) (Own.mono o4 k13.next)
         ·simp only[bB,bz,fF]
          exact hE e M4 (by simp only[hlow]; exact e4) he (k13.trans k4)
 | nil =>
   rw[show decide ((([] : List Str).length:Int) > 0)=false from rfl,bq,s2.len,bE]
   cases ys with
   | nil =>
     rw[show((([] : List Str).length:Int) == 0)=true from rfl,bW]
     exact hQ [] (b.drop at') at' aA M2 rfl h1 (Nat.le_refl _) rfl (by simp) k12 .nil
   | cons y ys =>
     rw[show(((y :: ys).length:Int) == 0)=false by simp; omega,bq,s2.len,cZ]
     simp only[bX]
     cases ys with
     | cons y2 ys =>
       rw[show decide (((y :: y2 :: ys).length:Int) > 1)=true by simp; omega]
       simp only[bS,bU,bW]
       exact hE 14 M2 rfl (.inl rfl) k12
     | nil =>
       rw[show decide ((([y] : List Str).length:Int) > 1)=false from rfl]
       simp only[bg,bZ]
       obtain⟨b0,o0,hb0,hb0v,hix,hld⟩:=s2.at 1 0 (i:=0) (by simp)
       have hc0:=dX.1 hld
       have hyl:y.length<4611686018427387904:=VL (List.mem_singleton.2 rfl)
       rw[hix,dD]
       refine⟨_,hc0, ?_⟩
       refine hw ?_
       simp only[List.getElem_cons_zero,bn]
       have tail:∀ M3,ae [] M2 M3→ax (Bo (!qY y)) (Q (.tup [(.sc (.slice none 0 0)),(N .i64 0),(N .i64 14)]) M3) (
         cK v2 (N .i64 0) 1 fun t67=>aj M3 t67 fun t68=>ci [t68] M3 fun t69 Qb=>aF t69 0 fun t70=>aF t69 1 fun t71=>af .gtr t70 (N .i64 16384) fun t74=>ax t74 ( Q (.tup [(.sc (.slice none 0 0)),(N .i64 0),(N .i64 2)]) Qb) ( aT v fun t78=>af .sub t78 (N .i64 (at' : Int)) fun t80=>af .gtr t70 t80 fun t81=>ax t81 ( Q (.tup [(.sc (.slice none 0 0)),(N .i64 0),(N .i64 15)]) Qb) ( af .add (N .i64 (at' : Int)) t70 fun t86=>bL (dz 1 v (some (N .i64 (at' : Int))) (some t86) none) fun t87=>cl [t87] Qb fun t88 XI=>af .add (N .i64 (at' : Int)) t70 fun t91=>Q (.tup [t88,t91,(N .i64 0)]) XI))):=by
        intro M3 k3
        cases hok:qY y with
        | false =>
          simp only[Bool.not_false,bW]
          exact hE 14 M3 (by simp only[hok]) (.inl rfl) (k12.trans k3)
        | true =>
          have hok':=hok
          unfold qY fO at hok'
          simp only[Bool.and_eq_true,decide_eq_true_eq] at hok'
          simp only[Bool.not_true,bq]
          have s23:Sl nY M3 v2 [y]:=aG.keep s2 k3 (by simp)
          obtain⟨b3,o3,hb3,_,WQ,Ye⟩:=s23.at 1 0 (i:=0) (by simp)
          rw[WQ,dD]
          refine⟨_,dX.1 Ye, ?_⟩
          simp only[List.getElem_cons_zero]
          refine hi (by omega) (by omega) hok'.2 fun M4 k4=>?_
          have hlt:=RL hok'.2 (by omega)
          have k14:=k12.trans (k3.trans k4)
          have hb4:=hb.keep k14 (by simp)
          simp only[bB,bz]
          rw[show(N .i64 16384)=N .i64 ((16384:Nat) : Int) from rfl,II]
          refine bH (fun h=>?_) fun h=>?_
          ·have h:16384<gy y:=by simpa using h
           exact hE 2 M4 (by simp only[hok,qM h]) (by omega) k14
          have hf1:¬ 16384<gy y:=by simpa using h
          rw[hb4.len,IW h1 (by omega),II]
          refine bH (fun h=>?_) fun h=>?_
          ·have h:b.length - at'<gy y:=by simpa using h
           exact hE 15 M4 (by simp only[hok,iy hf1,qM h]) (by omega) k14
          have hf2:¬ b.length - at'<gy y:=by simpa using h
          simp only[addN (show at' + gy y<4611686018427387904 by omega)]
          refine hb4.sub (kw _ _ _) (kw _ _ _) (by omega) (by omega) fun v5 hv5 _=>?_
          rw[Nat.add_sub_cancel_left] at hv5
          refine hcl hv5.sl (by simp; omega) fun v6 M6 o6 k6=>?_
          exact hQ ((b.drop at').take (gy y)) ((b.drop at').drop (gy y)) (at' + gy y) v6 M6 (by simp only[hok,iy hf1,iy hf2]) (by omega) (by omega) (by rw[List.drop_drop]) (by simp; omega) (k14.trans k6) (Own.mono o6 k14.next)
       cases hwi:fO y 1 9 with
       | false =>
         simp only[Bool.not_false,bS,bU]
         have:=tail M2 (ae.refl _ _)
         unfold qY at this
         rw[hwi] at this
         simpa only[Bool.false_and,Bool.not_false] using this
       | true =>
         simp only[Bool.not_true,bg,bZ]
         rw[hix,dD]
         refine⟨_,hc0, ?_⟩
         simp only[List.getElem_cons_zero]
         refine ha hyl fun M3 k3=>?_
         have:=tail M3 k3
         unfold qY at this
         rw[hwi] at this
         simpa only[bn,Bool.true_and,bZ] using this
end Go.Ab.Hw
namespace Go.Ab.Hw
open Go Go.Ab Go.Ab.Sm
open Go.Ab.Vl (brk lZ rR iD dK dR eO CR eH)
def Lf (c:UInt8) : List Str→List Str
 | []=>[[c]]
 | w :: ws=>(c :: w) :: ws
def words (x:UInt8) : Str→List Str
 | []=>[[]]
 | c :: t=>match c == x with
   | true=>[] :: words x t
   | false=>Lf c (words x t)
theorem Qt (x:UInt8) (s:Str) : words x s≠[]:=by
 cases s with
 | nil=>simp[words]
 | cons c t =>
   unfold words
   split
   ·simp
   ·cases words x t <;> simp[Lf]
theorem qp (x:UInt8) : ∀ s:Str,words x s=(match brk x s with | none=>[s] | some p=>p.1 :: words x p.2)
 | []=>rfl
 | c :: t=>by
   rw[words,brk]
   cases h:c == x
   ·have hc:¬ c=x:=by simpa using h
    rw[if_neg hc]
    dsimp only
    rw[qp x t]
    cases brk x t with
    | none=>rfl
    | some p=>rfl
   ·have hc:c=x:=by simpa using h
    rw[if_pos hc]
theorem uF {x:UInt8} : ∀ {s a b:Str},brk x s=some (a,b)→s.count x=b.count x + 1
 | [],_,_,h=>by simp[brk] at h
 | c :: t,a,b,h=>by
   rw[brk] at h
   split at h
   ·rename_i e; subst e; cases h; simp
   ·rename_i e
    cases hb:brk x t with
    | none=>rw[hb] at h; simp at h
    | some p =>
      rw[hb] at h
      simp only[Option.map_some,Option.some.injEq,Prod.mk.injEq] at h
      obtain⟨_,rfl⟩:=h
      rw[List.count_cons_of_ne e]
      exact uF (a:=p.1) (b:=p.2) hb
theorem EY {x:UInt8} {s:Str} (h:brk x s=none) : s.count x=0:=by
 rcases Vl.wJ x s with⟨_,_,h3⟩ | ⟨a,b,h1,_⟩
 ·exact List.count_eq_zero.2 h3
 ·rw[h] at h1; cases h1
theorem AB (x:UInt8) : ∀ (k:Nat) (s:Str),s.count x=k→Lib.splitK [x] 0 k s=words x s
 | 0,s,h=>by
   rw[qp]
   cases hb:brk x s with
   | none=>rfl
   | some p=>have:=uF (a:=p.1) (b:=p.2) hb; omega
 | k + 1,s,h=>by
   rw[qp,Lib.splitK,Lib.index_one]
   rcases Vl.wJ x s with⟨h1,h2,_⟩ | ⟨a,b,h1,h2,h3,_⟩
   ·have:=EY h1; omega
   ·have hn:((a.length:Int) == -1)=false:=by simp
    have hc:=uF h1
    rw[h1,h2,hn]
    simp only[Int.toNat_natCast,Nat.add_zero,List.length_cons,List.length_nil]
    rw[← AB x k b (by omega)]
    have e1:s.take a.length=a:=by rw[h3]; simp
    have e2:s.drop (a.length + (0 + 1))=b:=by rw[h3,← List.drop_drop]; simp
    rw[e1,e2]
    rfl
theorem uO {x:UInt8} : ∀ {s w:Str},w∈words x s→w.length≤s.length
 | [],w,h=>by simp[words] at h; subst h; simp
 | c :: t,w,h=>by
   rw[words] at h
   split at h
   ·rcases List.mem_cons.1 h with rfl | h
    ·simp
    ·have:=uO h; simp; omega
   ·cases hw:words x t with
    | nil=>exact absurd hw (Qt x t)
    | cons v vs =>
      rw[hw] at h
      simp only[Lf] at h
      rcases List.mem_cons.1 h with rfl | h
      ·have:=uO (x:=x) (s:=t) (w:=v) (by rw[hw]; simp); simp; omega
      ·have:=uO (x:=x) (s:=t) (w:=w) (by rw[hw]; simp[h]); simp; omega
def JB (B:Base) (T:Nat) (c:ak) : Prop:=∀ {M:RM} {s:Str} {Q:ah},M.base=B→s.length≤1000000→(∀ v M',Ow nY M' M.next T v (words 32 s)→ae [] M M'→Q v M')→c [St s,St [32]] M Q
abbrev Jq:Str:=[72,84,84,80,47,49,46,49]
def rT (m p v:Str) : Bool:=cO m && dO p && (v == Jq)
def iV (s:Str) : Option (Str × Str):=match words 32 s with
 | [m,p,v]=>match rT m p v with
   | true=>some (m,p)
   | false=>none
 | _=>none
def oo (s:Str) : Bool:=(iV s).isSome
abbrev jN (T:Nat) (m p:Str) : RB:=.row [St m,St p,aA,aA] false T 0
def Ic (T:Nat) (s:Str) : RB:=match iV s with
 | some (m,p)=>jN T m p
 | none=>jN T [] []
theorem Ud (l:List Str) : (∃ a b c,l=[a,b,c])∨l.length≠3:=by
 rcases l with _ | ⟨a,_ | ⟨b,_ | ⟨c,_ | ⟨d,l⟩⟩⟩⟩ <;> simp
theorem Nt {B:Base} {T TS br:Nat} {cs cm cp:ak} (hs:JB B TS cs) (hm:fD cO cm) (hp:fD dO cp) {M:RM} {s:Str} {K:ah} (hB:M.base=B) (hbr:br<M.next) (hX:M.heap br=some (jN T [] []))
  (hl:s.length≤2048) (h0:oo s=false→∀ M',ae [br] M M'→K (Bo false) M') (h1:oo s=true→∀ M',ae [br] M M'→M'.heap br=some (Ic T s)→K (Bo true) M') : iR cs cm cp (St s) (.ptr br 0) M K:=by
 unfold iR
 refine hs hB (by omega) fun v M1 o1 k1=>?_
 have s1:Sl nY M1 v (words 32 s):=Own.kZ o1
 have hwl:∀ w∈words 32 s,w.length≤2048:=fun w hw=>Nat.le_trans (uO hw) hl
 have kb:∀ {M'},ae [] M M'→ae [br] M M':=fun k=>k.mono (by simp)
 rw[s1.len]
 simp only[gN,bX]
 rcases Ud (words 32 s) with⟨a,b,c,hw⟩ | hne
 ·have hq:iV s=if rT a b c then some (a,b) else none:=by
   unfold iV; rw[hw]; dsimp only; cases rT a b c <;> rfl
  rw[hw] at s1 hwl ⊢
  rw[show((([a,b,c] : List Str).length:Int) != 3)=false from rfl]
  simp only[bg,bZ]
  have at_:∀ {M2:RM} (k:ae [] M1 M2) {K' : AV→Prop},(∀ x:AV,(cK v (N .i64 0) 1 fun t=>aj M2 t fun u=>K' u)=K' (St a))∧(∀ x:AV,(cK v (N .i64 1) 1 fun t=>aj M2 t fun u=>K' u)=K' (St b))∧(∀ x:AV,(cK v (N .i64 2) 1 fun t=>aj M2 t fun u=>K' u)=K' (St c)):=by
   intro M2 k K'
   have s2:Sl nY M2 v [a,b,c]:=aG.keep s1 k (by simp)
   obtain⟨b0,o0,_,_,hix,hld⟩:=s2.at 1 0 (i:=0) (by simp)
   obtain⟨b1,o1',_,_,Pg,LV⟩:=s2.at 1 1 (i:=1) (by simp)
   obtain⟨b2,o2,_,_,Xn,X4⟩:=s2.at 1 2 (i:=2) (by simp)
   refine⟨fun _=>?_,fun _=>?_,fun _=>?_⟩
   ·rw[hix,dD,dX.1 hld]; exact ER _ _
   ·rw[Pg,dD,dX.1 LV]; exact ER _ _
   ·rw[Xn,dD,dX.1 X4]; exact ER _ _
  have tail:∀ M2,ae [] M1 M2→(ax (Bo (!rT a b c)) (K (Bo false) M2) (
    cK v (N .i64 0) 1 fun t31=>aj M2 t31 fun t32=>cK v (N .i64 1) 1 fun t34=>aj M2 t34 fun t35=>aJ (.ptr br 0) 0 fun t36=>aK M2 t36 t32 1 fun Uq=>aj Uq t34 fun TY=>(TY=t35∧aJ (.ptr br 0) 1 fun t37=>aK Uq t37 t35 1 fun W9=>K (Bo true) W9))):=by
   intro M2 k2
   have k02:ae [] M M2:=k1.trans k2
   refine bH (fun h=>?_) fun h=>?_
   ·have hk:rT a b c=false:=by simpa using h
    exact h0 (by unfold oo; rw[hq,hk]; rfl) M2 (kb k02)
   ·have hk:rT a b c=true:=by simpa using h
    have X2:=k02.aL hX hbr (by simp)
    have s2:Sl nY M2 v [a,b,c]:=aG.keep s1 k2 (by simp)
    rw[((at_ k2).1 aA)]
    obtain⟨b1,o1',hb1,X8,Pg,LV⟩:=s2.at 1 1 (i:=1) (by simp)
    have hvn:=(o1.blk b1 X8).1
    rw[Pg,dD]
    refine⟨_,dX.1 LV, ?_⟩
    simp only[List.getElem_cons_succ,List.getElem_cons_zero]
    rw[gK,gZ [St a,St [],aA,aA] X2 (by simp) rfl rfl rfl,dD]
    have k3:ae [br] M2 (M2.put br (.row [St a,St [],aA,aA] false T 0)):=(ae.refl _ _).put _ (.inr (by simp))
    have hne:b1≠br:=fun e=>by omega
    refine⟨St b, ?_,rfl, ?_⟩
    ·have hcell:M2.cell b1 o1'=some (St b):=dX.1 LV
     rw[← hcell]
     unfold RM.cell
     rw[RM.sQ,RM.sQ,k3.heap b1 hb1 (by simpa using hne)]
     rfl
    rw[gK,gZ [St a,St b,aA,aA] (aP _) (by simp) rfl rfl rfl]
    refine h1 (by unfold oo; rw[hq,hk]; rfl) _ ((kb k02).trans (k3.trans ((ae.refl _ _).put _ (.inr (by simp))))) ?_
    rw[aP]
    unfold Ic; rw[hq,hk]; rfl
  have ha:=hwl a (by simp)
  have hb:=hwl b (by simp)
  rw[((at_ (ae.refl _ _)).1 aA)]
  refine hm (by omega) fun M2 k2=>?_
  simp only[bn]
  unfold rT at tail
  cases hgm:cO a with
  | false =>
    simp only[Bool.not_false,bS,bU]
    have:=tail M2 k2
    simpa only[hgm,Bool.false_and,Bool.not_false] using this
  | true =>
    simp only[Bool.not_true,bg,bZ]
    rw[((at_ k2).2.1 aA)]
    refine hp (by omega) fun M3 k3=>?_
    have k13:=k2.trans k3
    simp only[bn]
    cases hgp:dO b with
    | false =>
      simp only[Bool.not_false,bS,bU]
      have:=tail M3 k13
      simpa only[hgm,hgp,Bool.false_and,Bool.and_false,Bool.not_false] using this
    | true =>
      simp only[Bool.not_true,bg,bZ]
      rw[((at_ k13).2.2 aA),sw]
      have:=tail M3 k13
      simpa only[hgm,hgp,Bool.true_and,bne] using this
 ·have hq:iV s=none:=by
   unfold iV
   split
   ·rename_i m p v hw; rw[hw] at hne; exact absurd rfl hne
   ·rfl
  rw[show(((words 32 s).length:Int) != 3)=true by
   simp only[bne_iff_ne,ne_eq]
   omega]
  simp only[bS,bU,bW]
  exact h0 (by unfold oo; rw[hq]; rfl) M1 (kb k1)
abbrev Hz:Str:=[72,84,84,80,47,49,46,49,32]
def pX (s:Str) : Str:=if pre Hz s then s.drop 9 else s
def IA (s:Str) : Bool:=!pre Hz s || decide (((pX s).length:Int)<4)
def Mh (s:Str) : Bool:=IA s || !((pX s).take 3).all fo
def Nb (s:Str) : Bool:=Mh s || ((((pX s).getD 3 0).toNat:Int) != 32)
def P9 (s:Str) : Bool:=Nb s || !((pX s).drop 3).all p32
def codeOf (s:Str) : Nat:=gy ((pX s).take 3)
def qU (s:Str) : Bool:=!P9 s && (decide ((codeOf s:Int) ≥ 100) && decide ((codeOf s:Int)≤599))
abbrev iK (T:Nat) (n:Int) : RB:=.row [N .i64 n,aA,aA] false T 0
def GY (T:Nat) (s:Str) : RB:=iK T (codeOf s)
theorem LB {T br g1 g2:Nat} {cc ca ci:ak} (hc:rU cc) (ha1:mF fo (.fn (.func g1) [] []) ca) (ha2:mF p32 (.fn (.func g2) [] []) ca) (hi:Lp ci) {M:RM} {s:Str} {K:ah} (hbr:br<M.next)
  (hX:M.heap br=some (iK T 0)) (hl:s.length≤2048) (h0:qU s=false→∀ M',ae [br] M M'→K (Bo false) M') (h1:qU s=true→∀ M',ae [br] M M'→M'.heap br=some (GY T s)→K (Bo true) M') :
  iL cc ca g1 g2 ci (St s) (.ptr br 0) M K:=by
 unfold iL
 refine hc ?_
 have kb:∀ {M'},ae [] M M'→ae [br] M M':=fun k=>k.mono (by simp)
 have hrl:(pX s).length≤s.length:=by unfold pX; split <;> simp
 have e9:Ap Hz s=.tup [St (pX s),Bo (pre Hz s)]:=by
  unfold Ap pX; cases pre Hz s <;> rfl
 rw[e9]
 simp only[bB,bz,bn,bX]
 generalize hr:pX s=r at *
 have hb1:IA s=(!pre Hz s || decide ((r.length:Int)<4)):=by unfold IA; rw[hr]
 have hb2:Mh s=(IA s || !(r.take 3).all fo):=by unfold Mh; rw[hr]
 have hb3:Nb s=(Mh s || (((r.getD 3 0).toNat:Int) != 32)):=by unfold Nb; rw[hr]
 have hb4:P9 s=(Nb s || !(r.drop 3).all p32):=by unfold P9; rw[hr]
 have Le:IA s=false→4≤r.length:=fun h=>by
  rw[hb1] at h
  simp only[Bool.or_eq_false_iff,decide_eq_false_iff_not] at h
  omega
 refine vP (P:=ae [] M) (p:=decide ((r.length:Int)<4)) (ae.refl _ _) (fun _ k hk=>?_) fun M1 k1=>?_
 ·simpa only[go_sem] using hk M (ae.refl _ _)
 rw[← hb1]
 refine vP (P:=ae [] M) (p:=!(r.take 3).all fo) k1 (fun hf k hk=>?_) fun M2 k2=>?_
 ·have:=Le hf
  rw[show(N .i64 3)=N .i64 ((3:Nat) : Int) from rfl,eO (by omega)]
  simp only[dM]
  refine ha1 (by simp; omega) fun M2 k2=>?_
  simp only[bn]
  exact hk M2 (k1.trans k2)
 rw[← hb2]
 refine vP (P:=ae [] M) (p:=(((r.getD 3 0).toNat:Int) != 32)) k2 (fun hf k hk=>?_) fun M3 k3=>?_
 ·have:=Le (by rw[hb2,Bool.or_eq_false_iff] at hf; exact hf.1)
  rw[show(N .i64 3)=N .i64 ((3:Nat) : Int) from rfl,eH (by omega),gN]
  have:r.getD 3 0=r[3]:=by simp[List.getD_eq_getElem?_getD,List.getElem?_eq_getElem (show 3<r.length by omega)]
  rw[this] at hk
  exact hk _ k2
 rw[← hb3]
 refine vP (P:=ae [] M) (p:=!(r.drop 3).all p32) k3 (fun hf k hk=>?_) fun M4 k4=>?_
 ·have:=Le (by
   rw[hb3,Bool.or_eq_false_iff] at hf
   have:=hf.1
   rw[hb2,Bool.or_eq_false_iff] at this; exact this.1)
  rw[show(N .i64 3)=N .i64 ((3:Nat) : Int) from rfl,dK (by omega)]
  simp only[dM]
  refine ha2 (by simp; omega) fun M2 k2=>?_
  simp only[bn]
  exact hk M2 (k3.trans k2)
 rw[← hb4]
 refine bH (fun h=>?_) fun h=>?_
 ·exact h0 (by unfold qU; rw[h]; rfl) M4 (kb k4)
 ·have h':=h
  rw[hb4,Bool.or_eq_false_iff] at h'
  have h'':=h'.1
  rw[hb3,Bool.or_eq_false_iff] at h''
  have h3:=h''.1
  rw[hb2,Bool.or_eq_false_iff] at h3
  have hd:(r.take 3).all fo=true:=by simpa using h3.2
  have l4:=Le h3.1
  rw[show(N .i64 3)=N .i64 ((3:Nat) : Int) from rfl,eO (by omega)]
  simp only[dM]
  refine hi (by simp; omega) (by simp; omega) hd fun M5 k5=>?_
  have X5:=(k4.trans k5).aL hX hbr (by simp)
  have hcode:codeOf s=gy (r.take 3):=by unfold codeOf; rw[hr]
  rw[← hcode]
  simp only[bB,bz]
  rw[gK,gZ [N .i64 (codeOf s:Int),aA,aA] X5 (by simp) rfl rfl rfl]
  have k6:ae [br] M (M5.put br (.row [N .i64 (codeOf s:Int),aA,aA] false T 0)):=(kb (k4.trans k5)).put _ (.inr (by simp))
  have X6:(M5.put br (.row [N .i64 (codeOf s:Int),aA,aA] false T 0)).heap br=some (GY T s):=aP _
  generalize M5.put br (.row [N .i64 (codeOf s:Int),aA,aA] false T 0)=M6 at *
  have ld:∀ {K' : AV→Prop},aj M6 (.ptr br 0) K'=K' (N .i64 (codeOf s:Int)):=fun {K'} => az X6 rfl
  rw[gK,ld,dh]
  try simp only[bX]
  refine kD (p:=decide ((codeOf s:Int)≤599)) (fun _ k hk=>?_) ?_
  ·rw[gK,ld]
   simpa only[go_sem] using hk
  ·have hp:qU s=(decide ((codeOf s:Int) ≥ 100) && decide ((codeOf s:Int)≤599)):=by unfold qU; rw[h]; rfl
   rw[← hp]
   cases hv:qU s with
   | false=>exact h0 hv _ k6
   | true=>exact h1 hv _ k6 X6
theorem JU {s:Str} {h:Hd} (e:fw s=some h) : h.1.length≤s.length∧h.2.length≤s.length:=by
 unfold fw at e
 split at e
 ·cases e
 ·rename_i a b hb
  have:=KS hb
  have:=F6 b
  split at e
  ·cases e; exact⟨by show a.length≤_; omega,by show(trimB b).length≤_; omega⟩
  ·cases e
theorem OO {b s:Str} {at' n:Nat} (e:fA b at'=.ok (s,n)) : s.length≤2048:=by
 unfold fA at e
 split at e
 ·rename_i p hp
  cases e
  obtain⟨a,r⟩:=p
  have:=(ni hp).2
  simp at this
  show a.length≤2048
  omega
 ·split at e <;> cases e
theorem NW (b:Str) : ∀ (f at' : Nat) (l l' : List Hd) (n:Nat),(∀ h∈l,h.1.length≤2048∧h.2.length≤2048)→hloop b f at' l=.ok (l',n)→∀ h∈l',h.1.length≤2048∧h.2.length≤2048:=by
 intro f
 induction f with
 | zero =>
   intro at' l l' n hl e
   rw[fq] at e
   split at e
   ·cases e
   ·split at e
    ·cases e; exact hl
    ·cases e
 | succ f ih =>
   intro at' l l' n hl e
   rw[fq] at e
   split at e
   ·cases e
   ·rename_i s n' hL
    split at e
    ·cases e; exact hl
    ·dsimp only at e
     split at e
     ·cases e
     ·rename_i h hh
      refine ih _ _ _ _ (fun x hx=>?_) e
      rcases List.mem_append.1 hx with hx | hx
      ·exact hl x hx
      ·have:x=h:=by simpa using hx
       subst this
       have h1:=JU hh
       have h2:=OO hL
       exact⟨by omega,by omega⟩
theorem FD {p:Str→Bool} {b s:Str} {l:List Hd} {n:Nat} (e:headD p b=.ok (s,l,n)) : (∀ h∈l,h.1.length≤2048∧h.2.length≤2048)∧p s=true:=by
 unfold headD at e
 split at e
 ·cases e
 ·split at e
  ·cases e
  ·split at e
   ·cases e
   ·rename_i hh
    cases e
    exact⟨NW b _ _ _ _ _ (by simp) hh,by assumption⟩
def eu (b:Str) : Except Nat ((Str × Str × List Hd × Str) × Str):=match headD oo b with
 | .error e=>.error e
 | .ok (s,l,at')=>match jI (b.drop at') l with
   | .error e=>.error e
   | .ok (out,r)=>match iV s with
     | some (m,p)=>.ok ((m,p,l,out),r)
     | none=>.error 14
def I9 (B:Base) (TH T8:Nat) (c:ak) : Prop:=∀ {M:RM} {v:AV} {b:Str} {Q:ah},M.base=B→Bs M v b→b.length≤1000000000 →
 (∀ m p l out r at2 hv ov M',eu b=.ok ((m,p,l,out),r)→at2≤b.length→b.drop at2=r→out.length≤16384→l.length≤32→(∀ h∈l,h.1.length≤2048∧h.2.length≤2048)→ae [] M M'→Ow HD M' M.next TH hv l→Ow BY M' M.next T8 ov out →
  Q (.tup [.agg [St m,St p,hv,ov],N .i64 (at2:Int),N .i64 0]) M') →
 (∀ (e:Nat) M',eu b=.error e→(e=14∨e=15∨e=2)→ae [] M M'→Q (.tup [.agg [St [],St [],aA,aA],N .i64 0,N .i64 (e:Int)]) M')→c [v] M Q
theorem sJ {br:Nat} {M M0 M1:RM} (k0:ae [] M M0) (h:ae [br] M0 M1) (hb:M.next≤br) : ae [] M M1 :=
 ⟨h.base.trans k0.base,Nat.le_trans k0.next h.next,fun x hx _=>by rw[h.heap x (Nat.lt_of_lt_of_le hx k0.next) (fun e=>by simp at e; omega),k0.heap x hx (by simp)]⟩
theorem Bs.lt {M:RM} {v:AV} {b:Str} (h:Bs M v b) : ∀ x∈aH v,x<M.next:=aG.lt h.sl
theorem Jl {B:Base} {T TH T8 g:Nat} {ch cb:ak} (hH:∀ br,GU B (.fn (.func g) [] [.ptr br 0]) oo br (jN T [] []) (Ic T) TH ch) (hb:GZ B T8 cb) : I9 B TH T8 fun args M Q=>∃ a0,args=[a0]∧jA T g ch cb a0 M Q:=by
 intro M v b Q hB hv hl hQ hE
 refine⟨_,rfl, ?_⟩
 unfold jA
 simp only[aU]
 have k0:ae [] M ((M.push (jN T [] [])).push (jN T [] [])):=((ae.refl _ _).push _).push _
 have a2:((M.push (jN T [] [])).push (jN T [] [])).heap M.next=some (jN T [] []):=by simp[RM.push]
 have a5:((M.push (jN T [] [])).push (jN T [] [])).heap (M.push (jN T [] [])).next=some (jN T [] []):=by simp[RM.push]
 have e5:(M.push (jN T [] [])).next=M.next + 1:=rfl
 have n0:((M.push (jN T [] [])).push (jN T [] [])).next=M.next + 2:=rfl
 rw[e5] at a5 ⊢
 generalize (M.push (jN T [] [])).push (jN T [] [])=M0 at *
 have hv0:=hv.keep k0 (by simp)
 have err:∀ (e:Nat) (M1:RM),ae [M.next + 1] M0 M1→eu b=.error e→(e=14∨e=15∨e=2) →
   fM [(St []),(St []),(.sc (.slice none 0 0)),(.sc (.slice none 0 0))] [] fun t18=>aK M1 (.ptr M.next 0) t18 4 fun M_2=>bI M_2 (.ptr M.next 0) 4 fun res=>Q (.tup [res,(N .i64 0),N .i64 (e:Int)]) M_2:=by
  intro e M1 k1 he1 he
  rw[gF]
  refine⟨_,rfl, ?_⟩
  have n1:=k1.aL a2 (by omega) (by simp)
  rw[iY n1 (by rfl) (by rfl) (by rfl),bN (aP _) (by rfl)]
  exact hE e _ he1 he ((sJ k0 k1 (by omega)).new _ (Nat.le_refl _))
 refine hH (M.next + 1) (k0.base.trans hB) hv0 hl (by omega) (fun hx=>by have:=hv.lt _ hx; omega) a5 (fun e M1 h1 he k1=>?_) (fun s l at' hv' M1 h1 hat hs hll k1 X1 o1=>?_)
 ·simp only[bB,bz,fF,gN]
  rw[show(((e:Nat) : Int) != 0)=true by rcases he with rfl | rfl | rfl <;> rfl,bW]
  exact err e M1 k1 (by unfold eu; rw[h1]) (by omega)
 obtain⟨hlen,hp⟩:=FD h1
 simp only[bB,bz,fF,Ck,bq,iO]
 obtain⟨⟨m,p⟩,hmp⟩ : ∃ q,iV s=some q:=by unfold oo at hp; exact Option.isSome_iff_exists.1 hp
 have X1' : M1.heap (M.next + 1)=some (jN T m p):=by rw[X1]; unfold Ic; rw[hmp]
 have hone:oneCell hv'=true:=Own.one o1
 have hcell:hv'.cells=[hv']:=Own.cells o1
 simp only[Nat.zero_add]
 rw[gZ [St m,St p,hv',aA] X1' (by simp) hcell hone rfl]
 have k2:ae [M.next + 1] M0 (M1.put (M.next + 1) (.row [St m,St p,hv',aA] false T 0)):=k1.put _ (.inr (by simp))
 have X2:(M1.put (M.next + 1) (.row [St m,St p,hv',aA] false T 0)).heap (M.next + 1)=some (.row [St m,St p,hv',aA] false T 0):=aP _
 have o2:Ow HD (M1.put (M.next + 1) (.row [St m,St p,hv',aA] false T 0)) M0.next TH hv' l:=Own.keep o1 ((ae.refl [M.next + 1] M1).put _ (.inr (by simp))) (fun x hx hm=>by
  have:=(Own.blk o1 x hx).1
  simp at hm; omega)
 generalize M1.put (M.next + 1) (.row [St m,St p,hv',aA] false T 0)=M2 at *
 have k02:=sJ k0 k2 (by omega)
 refine hb (k02.base.trans hB) (hv.keep k02 (by simp)) hat hl (Own.kZ o2) (by omega) (fun h hx=>by have:=hlen h hx; omega) (fun out r at2 ov M3 e3 ha2 ha3 hr ho k3 o3=>?_) (fun e M3 e3 he k3=>?_)
 ·simp only[bB,bz,fF,Ck,bq,iO,Nat.zero_add]
  have X3:=k3.aL X2 (Nat.lt_of_lt_of_le (by omega) k2.next) (by simp)
  rw[gZ [St m,St p,hv',ov] X3 (by simp) (Own.cells o3) (Own.one o3) rfl]
  have n3:=(k2.trans (k3.mono (by simp))).aL a2 (by omega) (by simp)
  rw[bN (aP _) (by rfl),iY (uR n3 (by omega)) (by rfl) (by rfl) (by have:=Own.one o3; simp only[List.all_cons,List.all_nil,hone,this]; rfl),bN (aP _) (by rfl)]
  have k4:ae [] M (((M3.put (M.next + 1) (.row [St m,St p,hv',ov] false T 0))).put M.next (.row [St m,St p,hv',ov] false T 0)):=((k02.trans k3).new _ (by omega)).new _ (Nat.le_refl _)
  have k34:ae [M.next,M.next + 1] M3 (((M3.put (M.next + 1) (.row [St m,St p,hv',ov] false T 0))).put M.next (.row [St m,St p,hv',ov] false T 0)):=((ae.refl _ _).put _ (.inr (by simp))).put _ (.inr (by simp))
  refine hQ m p l out r at2 hv' ov _ (by unfold eu; rw[h1]; dsimp only; rw[e3,hmp]) ha2 hr ho hll hlen k4 ?_ ?_
  ·have o2' : Ow HD M3 M0.next TH hv' l:=Own.keep o2 k3 (by simp)
   refine Own.mono (Own.keep o2' k34 (fun x hx hm=>?_)) k0.next
   have:=(Own.blk o2' x hx).1
   simp at hm; omega
  ·refine Own.mono (Own.keep o3 k34 (fun x hx hm=>?_)) k02.next
   have:=(Own.blk o3 x hx).1
   have:=k2.next
   simp at hm; omega
 ·simp only[bB,bz,fF,iO,Nat.zero_add]
  have X3:=k3.aL X2 (Nat.lt_of_lt_of_le (by omega) k2.next) (by simp)
  rw[gZ [St m,St p,hv',aA] X3 (by simp) rfl rfl rfl,gN,show(((e:Nat) : Int) != 0)=true by rcases he with rfl | rfl | rfl <;> rfl,bW]
  exact err e _ ((k2.trans (k3.mono (by simp))).put _ (.inr (by simp))) (by unfold eu; rw[h1]; dsimp only; rw[e3]) (by omega)
def mZ (b:Str) : Except Nat ((Nat × List Hd × Str) × Str):=match headD qU b with
 | .error e=>.error e
 | .ok (s,l,at')=>match jI (b.drop at') l with
   | .error e=>.error e
   | .ok (out,r)=>.ok ((codeOf s,l,out),r)
def FE (B:Base) (TH T8:Nat) (c:ak) : Prop:=∀ {M:RM} {v:AV} {b:Str} {Q:ah},M.base=B→Bs M v b→b.length≤1000000000 →
 (∀ n l out r at2 hv ov M',mZ b=.ok ((n,l,out),r)→at2≤b.length→b.drop at2=r→out.length≤16384→l.length≤32→(∀ h∈l,h.1.length≤2048∧h.2.length≤2048)→ae [] M M'→Ow HD M' M.next TH hv l→Ow BY M' M.next T8 ov out →
  Q (.tup [.agg [N .i64 (n:Int),hv,ov],N .i64 (at2:Int),N .i64 0]) M') →
 (∀ (e:Nat) M',mZ b=.error e→(e=14∨e=15∨e=2)→ae [] M M'→Q (.tup [.agg [N .i64 0,aA,aA],N .i64 0,N .i64 (e:Int)]) M')→c [v] M Q
theorem GH {B:Base} {T TH T8 g:Nat} {ch cb:ak} (hH:∀ br,GU B (.fn (.func g) [] [.ptr br 0]) qU br (iK T 0) (GY T) TH ch) (hb:GZ B T8 cb) : FE B TH T8 fun args M Q=>∃ a0,args=[a0]∧jd T g ch cb a0 M Q:=by
 intro M v b Q hB hv hl hQ hE
 refine⟨_,rfl, ?_⟩
 unfold jd
 simp only[aU]
 have k0:ae [] M ((M.push (iK T 0)).push (iK T 0)):=((ae.refl _ _).push _).push _
 have a2:((M.push (iK T 0)).push (iK T 0)).heap M.next=some (iK T 0):=by simp[RM.push]
 have a5:((M.push (iK T 0)).push (iK T 0)).heap (M.push (iK T 0)).next=some (iK T 0):=by simp[RM.push]
 have e5:(M.push (iK T 0)).next=M.next + 1:=rfl
 have n0:((M.push (iK T 0)).push (iK T 0)).next=M.next + 2:=rfl
 rw[e5] at a5 ⊢
 generalize (M.push (iK T 0)).push (iK T 0)=M0 at *
 have hv0:=hv.keep k0 (by simp)
 have err:∀ (e:Nat) (M1:RM),ae [M.next + 1] M0 M1→mZ b=.error e→(e=14∨e=15∨e=2) →
   fM [(N .i64 0),(.sc (.slice none 0 0)),(.sc (.slice none 0 0))] [] fun t18=>aK M1 (.ptr M.next 0) t18 3 fun M_2=>bI M_2 (.ptr M.next 0) 3 fun res=>Q (.tup [res,(N .i64 0),N .i64 (e:Int)]) M_2:=by
  intro e M1 k1 he1 he
  rw[gF]
  refine⟨_,rfl, ?_⟩
  have n1:=k1.aL a2 (by omega) (by simp)
  rw[iY n1 (by rfl) (by rfl) (by rfl),bN (aP _) (by rfl)]
  exact hE e _ he1 he ((sJ k0 k1 (by omega)).new _ (Nat.le_refl _))
 refine hH (M.next + 1) (k0.base.trans hB) hv0 hl (by omega) (fun hx=>by have:=hv.lt _ hx; omega) a5 (fun e M1 h1 he k1=>?_) (fun s l at' hv' M1 h1 hat hs hll k1 X1 o1=>?_)
 ·simp only[bB,bz,fF,gN]
  rw[show(((e:Nat) : Int) != 0)=true by rcases he with rfl | rfl | rfl <;> rfl,bW]
  exact err e M1 k1 (by unfold mZ; rw[h1]) (by omega)
 obtain⟨hlen,hp⟩:=FD h1
 simp only[bB,bz,fF,Ck,bq,iO]
 have X1' : M1.heap (M.next + 1)=some (iK T (codeOf s)):=X1
 have hone:oneCell hv'=true:=Own.one o1
 have hcell:hv'.cells=[hv']:=Own.cells o1
 simp only[Nat.zero_add]
 rw[gZ [N .i64 (codeOf s:Int),hv',aA] X1' (by simp) hcell hone rfl]
 have k2:ae [M.next + 1] M0 (M1.put (M.next + 1) (.row [N .i64 (codeOf s:Int),hv',aA] false T 0)):=k1.put _ (.inr (by simp))
 have X2:(M1.put (M.next + 1) (.row [N .i64 (codeOf s:Int),hv',aA] false T 0)).heap (M.next + 1)=some (.row [N .i64 (codeOf s:Int),hv',aA] false T 0):=aP _
 have o2:Ow HD (M1.put (M.next + 1) (.row [N .i64 (codeOf s:Int),hv',aA] false T 0)) M0.next TH hv' l:=Own.keep o1 ((ae.refl [M.next + 1] M1).put _ (.inr (by simp))) (fun x hx hm=>by
  have:=(Own.blk o1 x hx).1
  simp at hm; omega)
 generalize M1.put (M.next + 1) (.row [N .i64 (codeOf s:Int),hv',aA] false T 0)=M2 at *
 have k02:=sJ k0 k2 (by omega)
 refine hb (k02.base.trans hB) (hv.keep k02 (by simp)) hat hl (Own.kZ o2) (by omega) (fun h hx=>by have:=hlen h hx; omega) (fun out r at2 ov M3 e3 ha2 ha3 hr ho k3 o3=>?_) (fun e M3 e3 he k3=>?_)
 ·simp only[bB,bz,fF,Ck,bq,iO,Nat.zero_add]
  have X3:=k3.aL X2 (Nat.lt_of_lt_of_le (by omega) k2.next) (by simp)
  rw[gZ [N .i64 (codeOf s:Int),hv',ov] X3 (by simp) (Own.cells o3) (Own.one o3) rfl]
  have n3:=(k2.trans (k3.mono (by simp))).aL a2 (by omega) (by simp)
  rw[bN (aP _) (by rfl),iY (uR n3 (by omega)) (by rfl) (by rfl) (by have:=Own.one o3; simp only[List.all_cons,List.all_nil,hone,this]; rfl),bN (aP _) (by rfl)]
  have k4:ae [] M (((M3.put (M.next + 1) (.row [N .i64 (codeOf s:Int),hv',ov] false T 0))).put M.next (.row [N .i64 (codeOf s:Int),hv',ov] false T 0)):=((k02.trans k3).new _ (by omega)).new _ (Nat.le_refl _)
  have k34:ae [M.next,M.next + 1] M3 (((M3.put (M.next + 1) (.row [N .i64 (codeOf s:Int),hv',ov] false T 0))).put M.next (.row [N .i64 (codeOf s:Int),hv',ov] false T 0)):=((ae.refl _ _).put _ (.inr (by simp))).put _ (.inr (by simp))
  refine hQ (codeOf s) l out r at2 hv' ov _ (by unfold mZ; rw[h1]; dsimp only; rw[e3]) ha2 hr ho hll hlen k4 ?_ ?_
  ·have o2' : Ow HD M3 M0.next TH hv' l:=Own.keep o2 k3 (by simp)
   refine Own.mono (Own.keep o2' k34 (fun x hx hm=>?_)) k0.next
   have:=(Own.blk o2' x hx).1
   simp at hm; omega
  ·refine Own.mono (Own.keep o3 k34 (fun x hx hm=>?_)) k02.next
   have:=(Own.blk o3 x hx).1
   have:=k2.next
   simp at hm; omega
 ·simp only[bB,bz,fF,iO,Nat.zero_add]
  have X3:=k3.aL X2 (Nat.lt_of_lt_of_le (by omega) k2.next) (by simp)
  rw[gZ [N .i64 (codeOf s:Int),hv',aA] X3 (by simp) rfl rfl rfl,gN,show(((e:Nat) : Int) != 0)=true by rcases he with rfl | rfl | rfl <;> rfl,bW]
  exact err e _ ((k2.trans (k3.mono (by simp))).put _ (.inr (by simp))) (by unfold mZ; rw[h1]; dsimp only; rw[e3]) (by omega)
end Go.Ab.Hw
namespace Go.Ab.Hw
open Go Go.Ab Go.Ab.Sm
def kJ (h:Hd) : Bool:=!(!bR h.1 || !aY h.2 || low h.1 == mR || low h.1 == mq)
def dN (h:Hd) : Str:=h.1++[58,32]++h.2++[13,10]
def l9 (first:Str) (l:List Hd) : Str:=first++[13,10]++l.flatMap dN
def jV (first:Str) (l:List Hd) (more:Hd) : Str:=l9 first l++(dN more++[13,10])
def kK (l:List Hd) (s:Str) (sz:Nat) : Bool:=decide (((l.length + 1:Nat) : Int) > 32) || decide ((s.length:Int) > 2048) || decide ((sz:Int) > 16384)
def ed (first:Str) (l:List Hd) (more:Hd) (sz:Nat) (body:Str) : Except Nat Str:=match l.all kJ with
 | false=>.error 1
 | true=>match kK l (jV first l more) sz with
   | true=>.error 2
   | false=>.ok (jV first l more++body)
theorem CS:∀ (l:List Hd) (k:Nat),(∀ h∈l,h.1.length≤k∧h.2.length≤k)→(l.flatMap dN).length≤l.length * (2 * k + 4)
 | [],k,_=>by simp
 | h :: l,k,hk=>by
   have:=CS l k fun x hx=>hk x (.tail _ hx)
   have h0:=hk h (.head _)
   rw[List.flatMap_cons,List.length_append,List.length_cons,Nat.succ_mul]
   have:(dN h).length=h.1.length + h.2.length + 4:=by unfold dN; simp; omega
   omega
def sZ (B:Base) (T:Nat) (c:ak) : Prop:=∀ {M:RM} {v bv:AV} {first body:Str} {l:List Hd} {more:Hd} {sz:Nat} {Q:ah},M.base=B→Sl HD M v l→l.length≤1000→(∀ h∈l,h.1.length≤281474976710656∧h.2.length≤281474976710656) →
 first.length≤1000000→more.1.length≤1000000→more.2.length≤1000000→Sl BY M bv body→body.length≤1000000000 →
 (∀ s v' M',ed first l more sz body=.ok s→s.length≤2048 + body.length→ae [] M M'→Ow BY M' M.next T v' s→Q (.tup [v',N .i64 0]) M')→(∀ (e:Nat) M',ed first l more sz body=.error e→(e=1∨e=2)→ae [] M M'→Q (.tup [aA,N .i64 (e:Int)]) M') →
 c [St first,v,.agg [St more.1,St more.2],N .i64 (sz:Int),bv] M Q
theorem Jf {B:Base} {TH T:Nat} {cn cv cs:ak} (hn:fD bR cn) (hg:Ed B aY cv) (hs:vK cs) :
  sZ B T fun args M Q=>∃ a0 a1 a2 a3 a4,args=[a0,a1,a2,a3,a4]∧lu TH cn cv cs T a0 a1 a2 a3 a4 M Q:=by
 intro M v bv first body l more sz Q hB hv hll hle hf hm1 hm2 hbv hbl hQ hE
 refine⟨_,_,_,_,_,rfl, ?_⟩
 unfold lu
 rw[iU rfl (by simp)]
 simp only[aU]
 have k0:ae [] M (M.push (.row [St more.1,St more.2] false TH 0)):=(ae.refl _ _).push _
 have n0:(M.push (.row [St more.1,St more.2] false TH 0)).heap M.next=some (.row [St more.1,St more.2] false TH 0):=by simp[RM.push]
 have l0:M.next<(M.push (.row [St more.1,St more.2] false TH 0)).next:=by simp[RM.push]
 generalize M.push (.row [St more.1,St more.2] false TH 0)=M0 at *
 rw[aR]
 refine⟨by simp; omega, ?_⟩
 rw[aG.len hv]
 refine di (fun m ys M3=>∃ i:Nat,m=l.length - i∧ys=[St (l9 first (l.take i)),N .i64 (i:Int)]∧i≤l.length∧(l.take i).all kJ=true∧ae [] M0 M3) _
  ⟨0,rfl,by simp[l9],Nat.zero_le _,rfl,ae.refl _ _⟩ ?_
 rintro next m ys M3 hnext ⟨i,rfl,rfl,hi,hA,k3⟩
 simp only[aV,dE,ny]
 have k03:=k0.trans k3
 have hv3:Sl HD M3 v l:=aG.keep hv k03 (by simp)
 have hlen:(l9 first (l.take i)).length≤1000002 + 1000 * (2 * 281474976710656 + 4):=by
  have:=CS (l.take i) 281474976710656 fun h hh=>hle h (List.mem_of_mem_take hh)
  have h2:(l.take i).length≤1000:=by simp; omega
  have h3:=Nat.mul_le_mul_right (2 * 281474976710656 + 4) h2
  unfold l9
  simp only[List.length_append,List.length_cons,List.length_nil]
  omega
 refine bH (fun h=>?_) fun h=>?_
 ·have hlt:i<l.length:=by simpa using h
  obtain⟨b,off,hb,_,hix,hld⟩:=hv3.at 2 (i:Int) hlt
  have hhl:=hle l[i] (List.getElem_mem hlt)
  rw[hix,uC]
  refine⟨_,hld, ?_⟩
  try simp only[aU]
  have n4:(M3.push (.row [St [],St []] false TH 0)).heap M3.next=some (.row [St [],St []] false TH 0):=by simp[RM.push]
  rw[iY n4 (by rfl) (by rfl) (by rfl)]
  have k4:ae [] M3 ((M3.push (.row [St [],St []] false TH 0)).put M3.next (.row (HD.cells l[i]) false TH 0)):=((ae.refl _ _).push _).new _ (Nat.le_refl _)
  have n5:((M3.push (.row [St [],St []] false TH 0)).put M3.next (.row (HD.cells l[i]) false TH 0)).heap M3.next=some (.row (HD.cells l[i]) false TH 0):=aP _
  have l5:M3.next<((M3.push (.row [St [],St []] false TH 0)).put M3.next (.row (HD.cells l[i]) false TH 0)).next:=by simp[RM.push,RM.put]
  generalize (M3.push (.row [St [],St []] false TH 0)).put M3.next (.row (HD.cells l[i]) false TH 0)=M4 at *
  have ld0:∀ {M' : RM} (k:ae [] M4 M') {K' : AV→Prop},aj M' (.ptr M3.next 0) K'=K' (St l[i].1):=fun k=>az (k.aL n5 l5 (by simp)) rfl
  have ld1:∀ {M' : RM} (k:ae [] M4 M') {K' : AV→Prop},aj M' (.ptr M3.next 1) K'=K' (St l[i].2):=fun k=>az (k.aL n5 l5 (by simp)) rfl
  simp only[gK,bX]
  rw[ld0 (ae.refl _ _)]
  have kM4:ae [] M M4:=k03.trans k4
  refine hn (by omega) fun M5 k5=>?_
  simp only[bn]
  refine vP (P:=ae [] M4) (p:=!aY l[i].2) k5 (fun _ k hk=>?_) fun M6 k6=>?_
  ·rw[ld1 k5]
   refine hg ((kM4.trans k5).base.trans hB) (by omega) fun M6 k6=>?_
   simp only[bn]
   exact hk M6 (k5.trans k6)
  refine vP (P:=ae [] M4) (p:=low l[i].1 == mR) k6 (fun _ k hk=>?_) fun M7 k7=>?_
  ·rw[ld0 k6]
   refine hs (by omega) fun M7 k7=>?_
   simp only[fu]
   exact hk M7 (k6.trans k7)
  refine vP (P:=ae [] M4) (p:=low l[i].1 == mq) k7 (fun _ k hk=>?_) fun M8 k8=>?_
  ·rw[ld0 k7]
   refine hs (by omega) fun M8 k8=>?_
   simp only[fu]
   exact hk M8 (k7.trans k8)
  have hok:kJ l[i]=!(!bR l[i].1 || !aY l[i].2 || low l[i].1 == mR || low l[i].1 == mq):=rfl
  have htk:(l.take (i + 1)).all kJ=kJ l[i]:=by
   rw[List.take_succ_eq_append_getElem hlt,List.all_append,hA]; simp
  refine bH (fun h=>?_) fun h=>?_
  ·have hbad:kJ l[i]=false:=by rw[hok,h]; rfl
   refine hE 1 M8 ?_ (.inl rfl) (kM4.trans k8)
   have:l.all kJ=false:=by
    rw[← List.take_append_drop (i + 1) l,List.all_append,htk,hbad]; rfl
   unfold ed; rw[this]
  ·have hgd:kJ l[i]=true:=by rw[hok,h]; rfl
   rw[ld0 k8,aR]
   refine⟨by simp; omega, ?_⟩
   rw[ld1 k8,aR]
   refine⟨by simp; omega, ?_⟩
   rw[aR]
   refine⟨by simp; omega, ?_⟩
   rw[aR]
   refine⟨by simp; omega, ?_⟩
   rw[add1 (by omega)]
   refine hnext _ _ _ (by omega) ⟨i + 1,rfl, ?_,by omega,by rw[htk,hgd],k3.trans (k4.trans k8)⟩
   congr 2
   unfold l9
   rw[List.take_succ_eq_append_getElem hlt,List.flatMap_append]
   simp[dN]
 ·have:i=l.length:=by simp at h; omega
  subst this
  rw[List.take_length] at hA hlen
  have n3:=k3.aL n0 l0 (by simp)
  simp only[List.take_length,gK,bX]
  rw[az n3 rfl,aR]
  refine⟨by simp; omega, ?_⟩
  rw[az n3 (by rfl:([St more.1,St more.2] : List AV)[1]?=some (St more.2)),aR]
  refine⟨by simp; omega, ?_⟩
  rw[aR]
  refine⟨by simp; omega, ?_⟩
  rw[aR]
  refine⟨by simp; omega, ?_⟩
  rw[aR]
  refine⟨by simp; omega, ?_⟩
  have hs:l9 first l++(more.1++[58,32]++more.2++[13,10]++[13,10])=jV first l more:=rfl
  rw[hs,aG.len hv,add1 (by omega),show(N .i64 32)=N .i64 ((32:Nat) : Int) from rfl,cZ]
  refine sN (p:=decide (((jV first l more).length:Int) > 2048)) (fun _ k hk=>by simpa only[go_sem] using hk) ?_
  refine sN (p:=decide ((sz:Int) > 16384)) (fun _ k hk=>by simpa only[go_sem] using hk) ?_
  have ht:(decide (((l.length + 1:Nat) : Int) > ((32:Nat) : Int)) || decide (((jV first l more).length:Int) > 2048) || decide ((sz:Int) > 16384))=kK l (jV first l more) sz:=rfl
  rw[ht]
  refine bH (fun h=>?_) fun h=>?_
  ·exact hE 2 M3 (by unfold ed; rw[hA]; simp only[h]) (.inr rfl) k03
  ·rw[gD]
   simp only[aU]
   have k4:ae [] M3 (M3.push (.row (BY.row (jV first l more)) true T 0)):=(ae.refl _ _).push _
   have hal:(jV first l more).length≤2048:=by
    have h':=h
    unfold kK at h'
    simp only[Bool.or_eq_false_iff,decide_eq_false_iff_not] at h'
    omega
   have o4:Ow BY (M3.push (.row (BY.row (jV first l more)) true T 0)) M3.next T (.slc M3.next 0 (jV first l more).length (.op 1)) (jV first l more) :=
    Own.op _ _ _ (Nat.le_refl _) (by simp[RM.push]) (RM.lh _) (by rw[Enc.gz])
   refine kL (E:=BY) o4 k4.next (by decide) (aG.keep (aG.keep hbv k03 (by simp)) k4 (by simp)) (by omega) (by omega) fun v7 M7 o7 k7 _ _=>?_
   refine hQ _ v7 M7 (by unfold ed; rw[hA]; simp only[h]) (by simp; omega) ?_ (Own.mono o7 k03.next)
   refine ae.own (k03.trans k4) k7 (fun x hx=>?_)
   have:=k03.next
   simp[aH] at hx; omega
def iP (base:Nat) : Nat→Nat→Str
 | 0,_=>[]
 | f + 1,n=>match Nat.blt n base with
   | true=>[if n<10 then UInt8.ofNat (48 + n) else UInt8.ofNat (87 + n)]
   | false=>iP base f (n / base)++[if n % base<10 then UInt8.ofNat (48 + n % base) else UInt8.ofNat (87 + n % base)]
def eZ (n:Nat) : Str:=iP 10 20 n
def eT (n:Nat) : Str:=iP 16 20 n
def MF (B:Base) (c:ak) : Prop:=∀ {M:RM} {n:Nat} {Q:ah},M.base=B→n<1000000000000→(∀ M',ae [] M M'→Q (St (eZ n)) M')→c [N .i64 (n:Int)] M Q
def EW (B:Base) (c:ak) : Prop:=∀ {M:RM} {n:Nat} {Q:ah},M.base=B→n<4294967296→(∀ M',ae [] M M'→Q (St (eT n)) M')→c [N .i64 (n:Int),N .i64 16] M Q
theorem kH:∀ (base f n:Nat),(iP base f n).length≤f
 | _,0,_=>by simp[iP]
 | base,f + 1,n=>by
   rw[iP]
   split
   ·simp
   ·have:=kH base f (n / base); simp; omega
abbrev jY:Str:=[67,111,110,116,101,110,116,45,76,101,110,103,116,104]
abbrev xO:Str:=[84,114,97,110,115,102,101,114,45,69,110,99,111,100,105,110,103]
def xZ (B:Base) (c:ak) : Prop:=∀ {M:RM} {n:Nat} {Q:ah},M.base=B→n<1000000000000→(∀ M',ae [] M M'→Q (.agg [St jY,St (eZ n)]) M')→c [N .i64 (n:Int)] M Q
theorem IR {B:Base} {T:Nat} {ci:ak} (hi:MF B ci) : xZ B fun args M Q=>∃ a0,args=[a0]∧lF T ci a0 M Q:=by
 intro M n Q hB hn hQ
 refine⟨_,rfl, ?_⟩
 unfold lF
 simp only[aU]
 have k0:ae [] M (M.push (.row [St [],St []] false T 0)):=(ae.refl _ _).push _
 have n0:(M.push (.row [St [],St []] false T 0)).heap M.next=some (.row [St [],St []] false T 0):=by simp[RM.push]
 have l0:M.next<(M.push (.row [St [],St []] false T 0)).next:=by simp[RM.push]
 generalize M.push (.row [St [],St []] false T 0)=M0 at *
 refine hi (k0.base.trans hB) hn fun M1 k1=>?_
 rw[gF]
 refine⟨_,zN rfl rfl rfl rfl, ?_⟩
 rw[iY (k1.aL n0 l0 (by simp)) (by rfl) (by rfl) (by rfl),bN (aP _) (by rfl)]
 exact hQ _ ((k0.trans k1).new _ (Nat.le_refl _))
def jw (m p:Str) : Bool:=cO m && dO p
def xM (c:ak) : Prop:=∀ {M:RM} {m p:Str} {x y:AV} {Q:ah},oneCell x=true→oneCell y=true→m.length<4611686018427387904→p.length<4611686018427387904→(∀ M',ae [] M M'→Q (Bo (jw m p)) M')→c [.agg [St m,St p,x,y]] M Q
theorem Il {T:Nat} {cm cp:ak} (hm:fD cO cm) (hp:fD dO cp) : xM fun args M Q=>∃ a0,args=[a0]∧jC T cm cp a0 M Q:=by
 intro M m p x y Q hx hy h1 h2 hQ
 refine⟨_,rfl, ?_⟩
 unfold jC
 rw[iU (by simp only[List.all_cons,List.all_nil,hx,hy]; rfl) (by simp)]
 simp only[aU,bX]
 have k0:ae [] M (M.push (.row [St m,St p,x,y] false T 0)):=(ae.refl _ _).push _
 have n0:(M.push (.row [St m,St p,x,y] false T 0)).heap M.next=some (.row [St m,St p,x,y] false T 0):=by simp[RM.push]
 have l0:M.next<(M.push (.row [St m,St p,x,y] false T 0)).next:=by simp[RM.push]
 generalize M.push (.row [St m,St p,x,y] false T 0)=M0 at *
 rw[gK,az n0 rfl]
 refine hm h1 fun M1 k1=>?_
 refine xS (P:=ae [] M) (p:=dO p) (k0.trans k1) (fun _ k hk=>?_) hQ
 rw[gK,az (k1.aL n0 l0 (by simp)) rfl]
 exact hp h2 fun M2 k2=>hk M2 (k0.trans (k1.trans k2))
def iq (m p:Str) : Str:=m++[32]++p++[32]++Jq
def dZ (m p:Str) (l:List Hd) (body:Str) : Except Nat Str:=match jw m p with
 | false=>.error 1
 | true=>ed (iq m p) l (jY,eZ body.length) body.length body
theorem CE {m p:Str} (h:jw m p=true) : m.length≤8∧p.length≤201:=by
 unfold jw cO dO fO at h
 simp only[Bool.and_eq_true,decide_eq_true_eq] at h
 omega
def FR (B:Base) (T:Nat) (c:ak) : Prop:=∀ {M:RM} {hv bv:AV} {m p body:Str} {l:List Hd} {Q:ah},M.base=B→Sl HD M hv l→l.length≤1000→(∀ h∈l,h.1.length≤281474976710656∧h.2.length≤281474976710656) →
 m.length≤281474976710656→p.length≤281474976710656→Sl BY M bv body→body.length≤1000000000 →
 (∀ s v' M',dZ m p l body=.ok s→s.length≤2048 + body.length→ae [] M M'→Ow BY M' M.next T v' s→Q (.tup [v',N .i64 0]) M')→(∀ (e:Nat) M',dZ m p l body=.error e→(e=1∨e=2)→ae [] M M'→Q (.tup [aA,N .i64 (e:Int)]) M') →
 c [.agg [St m,St p,hv,bv]] M Q
theorem GG {B:Base} {T T8:Nat} {cg cc cp:ak} (hg:xM cg) (hc:xZ B cc) (hp:sZ B T8 cp) : FR B T8 fun args M Q=>∃ a0,args=[a0]∧je T cg cc cp a0 M Q:=by
 intro M hv bv m p body l Q hB hh hll hle hm hpl hb hbl hQ hE
 refine⟨_,rfl, ?_⟩
 unfold je
 have ohv:=aG.one hh
 have obv:=aG.one hb
 rw[iU (by simp only[List.all_cons,List.all_nil,ohv,obv]; rfl) (by simp)]
 simp only[aU]
 have k0:ae [] M (M.push (.row [St m,St p,hv,bv] false T 0)):=(ae.refl _ _).push _
 have n0:(M.push (.row [St m,St p,hv,bv] false T 0)).heap M.next=some (.row [St m,St p,hv,bv] false T 0):=by simp[RM.push]
 have l0:M.next<(M.push (.row [St m,St p,hv,bv] false T 0)).next:=by simp[RM.push]
 generalize M.push (.row [St m,St p,hv,bv] false T 0)=M0 at *
 rw[bN n0 (by rfl)]
 refine hg ohv obv (by omega) (by omega) fun M1 k1=>?_
 have n1:=k1.aL n0 l0 (by simp)
 have l1:=Nat.lt_of_lt_of_le l0 k1.next
 have k01:=k0.trans k1
 simp only[bn]
 refine bH (fun h=>?_) fun h=>?_
 ·have hk:jw m p=false:=by simpa using h
  exact hE 1 M1 (by unfold dZ; rw[hk]) (.inl rfl) k01
 have hk:jw m p=true:=by simpa using h
 obtain⟨q1,q2⟩:=CE hk
 have e:dZ m p l body=ed (iq m p) l (jY,eZ body.length) body.length body:=by unfold dZ; rw[hk]
 rw[e] at hQ hE
 have ld0:∀ {M' : RM} (k:ae [] M1 M') {K' : AV→Prop},aj M' (.ptr M.next 0) K'=K' (St m):=fun k=>az (k.aL n1 l1 (by simp)) rfl
 have ld1:∀ {M' : RM} (k:ae [] M1 M') {K' : AV→Prop},aj M' (.ptr M.next 1) K'=K' (St p):=fun k=>az (k.aL n1 l1 (by simp)) rfl
 have ld2:∀ {M' : RM} (k:ae [] M1 M') {K' : AV→Prop},aj M' (.ptr M.next 2) K'=K' hv:=fun k=>az (k.aL n1 l1 (by simp)) rfl
 have ld3:∀ {M' : RM} (k:ae [] M1 M') {K' : AV→Prop},aj M' (.ptr M.next 3) K'=K' bv:=fun k=>az (k.aL n1 l1 (by simp)) rfl
 simp only[gK,ld0 (ae.refl _ M1),ld1 (ae.refl _ M1),ld2 (ae.refl _ M1),ld3 (ae.refl _ M1)]
 rw[aR]
 refine⟨by simp; omega, ?_⟩
 rw[aR]
 refine⟨by simp; omega, ?_⟩
 rw[aR]
 refine⟨by simp; omega, ?_⟩
 rw[aR]
 refine⟨by simp; omega, ?_⟩
 rw[aG.len hb,aG.len hb]
 refine hc (n:=body.length) (k01.base.trans hB) (by omega) fun M2 k2=>?_
 have k02:=k01.trans k2
 rw[ld0 k2]; refine⟨rfl, ?_⟩
 rw[ld1 k2]; refine⟨rfl, ?_⟩
 rw[ld2 k2]; refine⟨rfl, ?_⟩
 rw[ld3 k2]; refine⟨rfl, ?_⟩
 rw[ld3 k2]; refine⟨rfl, ?_⟩
 have hil:(eZ body.length).length≤20:=kH _ _ _
 refine hp (more:=(jY,eZ body.length)) (k02.base.trans hB) (aG.keep hh k02 (by simp)) hll hle (by simp; omega) (by simp) (by simpa using (by omega:(eZ body.length).length≤1000000)) (aG.keep hb k02 (by simp)) hbl (fun s v' M3 e3 hl3 k3 o3=>?_) (fun e' M3 e3 he k3=>?_)
 ·simp only[bB,bz]
  exact hQ s v' M3 e3 hl3 (k02.trans k3) (Own.mono o3 k02.next)
 ·simp only[bB,bz]
  exact hE e' M3 e3 he (k02.trans k3)
def nR (n:Int) : Bool:=decide (n<100) || decide (n > 599)
def sW (n:Int) : Str:=if (n.tdiv 100 == 2)=true then[79,75] else[78,111]
def oJ (n:Int) : Str:=Hz++eZ n.toNat++[32]++sW n
def eQ (n:Int) (l:List Hd) (body:Str) : Except Nat Str:=match nR n with
 | true=>.error 1
 | false=>ed (oJ n) l (jY,eZ body.length) body.length body
def DR (B:Base) (T:Nat) (c:ak) : Prop:=∀ {M:RM} {hv bv:AV} {n:Int} {body:Str} {l:List Hd} {Q:ah},M.base=B→Sl HD M hv l→l.length≤1000→(∀ h∈l,h.1.length≤281474976710656∧h.2.length≤281474976710656) →
 Sl BY M bv body→body.length≤1000000000 →
 (∀ s v' M',eQ n l body=.ok s→s.length≤2048 + body.length→ae [] M M'→Ow BY M' M.next T v' s→Q (.tup [v',N .i64 0]) M')→(∀ (e:Nat) M',eQ n l body=.error e→(e=1∨e=2)→ae [] M M'→Q (.tup [aA,N .i64 (e:Int)]) M') →
 c [.agg [N .i64 n,hv,bv]] M Q
theorem Ff {B:Base} {T T8:Nat} {ci cc cp:ak} (hi:MF B ci) (hc:xZ B cc) (hp:sZ B T8 cp) : DR B T8 fun args M Q=>∃ a0,args=[a0]∧iX T ci cc cp a0 M Q:=by
 intro M hv bv n body l Q hB hh hll hle hb hbl hQ hE
 refine⟨_,rfl, ?_⟩
 unfold iX
 have ohv:=aG.one hh
 have obv:=aG.one hb
 rw[iU (by simp only[List.all_cons,List.all_nil,ohv,obv]; rfl) (by simp)]
 simp only[aU]
 have k0:ae [] M (M.push (.row [N .i64 n,hv,bv] false T 0)):=(ae.refl _ _).push _
 have n0:(M.push (.row [N .i64 n,hv,bv] false T 0)).heap M.next=some (.row [N .i64 n,hv,bv] false T 0):=by simp[RM.push]
 have l0:M.next<(M.push (.row [N .i64 n,hv,bv] false T 0)).next:=by simp[RM.push]
 generalize M.push (.row [N .i64 n,hv,bv] false T 0)=M1 at *
 have ld0:∀ {M' : RM} (k:ae [] M1 M') {K' : AV→Prop},aj M' (.ptr M.next 0) K'=K' (N .i64 n):=fun k=>az (k.aL n0 l0 (by simp)) rfl
 have ld1:∀ {M' : RM} (k:ae [] M1 M') {K' : AV→Prop},aj M' (.ptr M.next 1) K'=K' hv:=fun k=>az (k.aL n0 l0 (by simp)) rfl
 have ld2:∀ {M' : RM} (k:ae [] M1 M') {K' : AV→Prop},aj M' (.ptr M.next 2) K'=K' bv:=fun k=>az (k.aL n0 l0 (by simp)) rfl
 simp only[gK,bX,ld0 (ae.refl _ M1),ld1 (ae.refl _ M1),ld2 (ae.refl _ M1),eU]
 refine sN (p:=decide (n > 599)) (fun _ k hk=>?_) ?_
 ·simpa only[cZ,ld0 (ae.refl _ M1)] using hk
 have hbc:(decide (n<100) || decide (n > 599))=nR n:=rfl
 rw[hbc]
 refine bH (fun h=>?_) fun h=>?_
 ·exact hE 1 M1 (by unfold eQ; rw[h]) (.inl rfl) k0
 have h':=h
 unfold nR at h'
 simp only[Bool.or_eq_false_iff,decide_eq_false_iff_not] at h'
 have e:eQ n l body=ed (oJ n) l (jY,eZ body.length) body.length body:=by unfold eQ; rw[h]
 rw[e] at hQ hE
 rw[pG,ld0 (ae.refl _ M1),Hq]
 refine⟨by decide, ?_⟩
 have hdv:1≤n.tdiv 100∧n.tdiv 100≤5:=by
  rw[Int.tdiv_eq_ediv_of_nonneg (by omega)]; omega
 rw[gU (by omega) (by omega),bE]
 have tail:∀ w:Str,w=sW n→((aj M1 (.ptr M.next 0) fun t18=>aj M1 (.ptr M.next 1) fun t25=>aj M1 (.ptr M.next 2) fun t27=>aT t27 fun t28=>aj M1 (.ptr M.next 2) fun t31=>aT t31 fun t32=>aj M1 (.ptr M.next 2) fun t34=>ci [t18] M1 fun t19 M_9=>aj M_9 (.ptr M.next 1) fun Sq=>(Sq=t25∧aj M_9 (.ptr M.next 2) fun Ua=>(Ua=t27∧aj M_9 (.ptr M.next 2) fun UB=>(UB=t31∧aj M_9 (.ptr M.next 2) fun Ue=>(Ue=t34∧aQ .add (St [72,84,84,80,47,49,46,49,32]) t19 fun t20=>aQ .add t20 (St [32]) fun t21=>aQ .add t21 (St w) fun t23=>cc [t28] M_9 fun t29 Cf=>aj Cf (.ptr M.next 1) fun SL=>(SL=t25∧aj Cf (.ptr M.next 2) fun TC=>(TC=t31∧aj Cf (.ptr M.next 2) fun Tq=>(Tq=t34∧cp [t23,t25,t29,t32,t34] Cf fun t35 Ql=>aF t35 0 fun t36=>aF t35 1 fun t37=>Q (.tup [t36,t37]) Ql)))))))) : Prop):=by
  intro w hw
  rw[ld0 (ae.refl _ M1),ld1 (ae.refl _ M1),ld2 (ae.refl _ M1),aG.len hb,ld2 (ae.refl _ M1),aG.len hb,ld2 (ae.refl _ M1)]
  obtain⟨m,rfl⟩ : ∃ m:Nat,n=(m:Int):=⟨n.toNat,by omega⟩
  refine hi (k0.base.trans hB) (by omega) fun M2 k2=>?_
  rw[ld1 k2]; refine⟨rfl, ?_⟩
  rw[ld2 k2]; refine⟨rfl, ?_⟩
  rw[ld2 k2]; refine⟨rfl, ?_⟩
  rw[ld2 k2]; refine⟨rfl, ?_⟩
  have hl1:(eZ m).length≤20:=kH _ _ _
  have hl2:(eZ body.length).length≤20:=kH _ _ _
  have hwl:w.length≤2:=by rw[hw]; unfold sW; split <;> simp
  rw[aR]
  refine⟨by simp; omega, ?_⟩
  rw[aR]
  refine⟨by simp; omega, ?_⟩
  rw[aR]
  refine⟨by simp; omega, ?_⟩
  have k02:=k0.trans k2
  refine hc (n:=body.length) (k02.base.trans hB) (by omega) fun M3 k3=>?_
  have k23:=k2.trans k3
  rw[ld1 k23]; refine⟨rfl, ?_⟩
  rw[ld2 k23]; refine⟨rfl, ?_⟩
  rw[ld2 k23]; refine⟨rfl, ?_⟩
  have k03:=k0.trans k23
  have QS:[72,84,84,80,47,49,46,49,32]++eZ m++[32]++w=oJ (m:Int):=by rw[hw]; rfl
  rw[QS]
  have Xl:(oJ (m:Int)).length≤1000000:=by rw[← QS]; simp; omega
  refine hp (more:=(jY,eZ body.length)) (k03.base.trans hB) (aG.keep hh k03 (by simp)) hll hle Xl (by simp) (by simpa using (by omega:(eZ body.length).length≤1000000)) (aG.keep hb k03 (by simp)) hbl (fun s v' M4 e4 hl4 k4 o4=>?_) (fun e' M4 e4 he k4=>?_)
  ·simp only[bB,bz]
   exact hQ s v' M4 e4 hl4 (k03.trans k4) (Own.mono o4 k03.next)
  ·simp only[bB,bz]
   exact hE e' M4 e4 he (k03.trans k4)
 refine bH (fun h=>?_) fun h=>?_
 ·exact tail [79,75] (by unfold sW; rw[if_pos h])
 ·exact tail [78,111] (by unfold sW; rw[if_neg (by rw[h]; decide)])
abbrev ZB:List AV:=[N .u8 0]
theorem yK (n:Nat) : (dQ ZB n).length=n∧(dQ ZB n).all oneCell=true:=by
 induction n with
 | zero=>simp[dQ]
 | succ n ih=>rw[dQ,List.length_append,List.all_append,ih.1,ih.2]; simp[oneCell]; omega
theorem JK:∀ (a b:Nat),dQ ZB (a + b)=dQ ZB a++dQ ZB b
 | 0,b=>by simp[dQ]
 | a + 1,b=>by rw[show a + 1 + b=(a + b) + 1 by omega,dQ,dQ,JK a b]; simp
theorem lS (s:Str) : (BY.row s).length=s.length:=by rw[Enc.gz]; simp[BY]
theorem Vh {M:RM} {b T k:Nat} {ps ys:Str} {u:AV} {zs:List AV} {K:ah} (hb:M.heap b=some (.row (BY.row ps++dQ ZB k) true T 0)) (hu:Sl BY M u ys) (hk:ys.length≤k) (hl:ps.length + ys.length≤1000000000)
  (hK:∀ M',M'.heap b=some (.row (BY.row (ps++ys)++dQ ZB (k - ys.length)) true T 0)→ae [b] M M'→M'.next=M.next→K (.slc b 0 (ps++ys).length (.op 1)) M') :
  appW T 1 1 zs false (.slc b 0 ps.length (.op 1)) u M K:=by
 have hn:=aG.nW hu zs
 refine⟨ys.length,BY.row ys,hn,by omega,by omega, ?_⟩
 by_cases h0:ys.length=0
 ·have:ys=[]:=List.length_eq_zero_iff.1 h0
  subst this
  refine⟨.slc b 0 ps.length (.op 1),M,by simp[tQ], ?_⟩
  have:=hK M (by simpa using hb) (ae.refl _ _) rfl
  simpa using this
 ·have hfit:0 + (ps.length + ys.length) * 1≤(BY.row ps++dQ ZB k).length:=by
   rw[List.length_append,lS,(yK k).1]; omega
  refine⟨.slc b 0 (ps.length + ys.length) (.op 1),M.put b (.row (BY.row (ps++ys)++dQ ZB (k - ys.length)) true T 0), ?_, ?_⟩
  ·simp only[tQ,if_neg h0,hb]
   rw[if_pos (by simp),if_pos hfit,RM.A7 hb,sH (by rw[lS,List.length_append,lS,(yK k).1]; omega) (by omega) (BY.rW ys)]
   simp only[Option.map_some]
   congr 4
   rw[Enc.oM]
   have e1:(BY.row ps++dQ ZB k).take (0 + ps.length * 1)=BY.row ps:=by rw[List.take_left' (by rw[lS]; omega)]
   have e2:(BY.row ps++dQ ZB k).drop (0 + ps.length * 1 + (BY.row ys).length)=dQ ZB (k - ys.length):=by
    rw[show dQ ZB k=dQ ZB ys.length++dQ ZB (k - ys.length) by rw[← JK]; congr 1; omega,← List.append_assoc,List.drop_left' (by rw[List.length_append,lS,(yK _).1,lS]; omega)]
   rw[e1,e2]
  ·have:=hK _ (aP _) ((ae.refl _ _).put _ (.inr (by simp))) rfl
   rw[List.length_append] at this
   exact this
theorem Q9 {M:RM} {base T n:Nat} {v:AV} {cs:List AV} (h:Own M base T 1 v cs n) (hn:0<n) : ∃ b,v=.slc b 0 n (.op 1)∧base≤b∧b<M.next∧M.heap b=some (.row cs true T 0):=by
 cases h with
 | nil=>omega
 | ex0 b o _ _ _=>omega
 | op b n cs h1 h2 h3 h4=>exact⟨b,rfl,h1,h2,h3⟩
def Hu (T:Nat) (c:ak) : Prop:=∀ {M:RM} {n:Nat} {Q:ah},n≤1000000000→0<n →
 (∀ b M',M.next≤b→b<M'.next→M'.heap b=some (.row (dQ ZB n) true T 0)→ae [] M M'→Q (.slc b 0 0 (.op 1)) M')→c [aA,N .i64 (n:Int)] M Q
theorem Ma {TS T:Nat} : Hu T fun args M Q=>∃ a0 a1,args=[a0,a1]∧vW TS T a0 a1 M Q:=by
 intro M n Q hn hz h1
 refine⟨_,_,rfl, ?_⟩
 unfold vW
 rw[pG,eU,show decide ((n:Int)<0)=false by simp,bq]
 dsimp only
 rw[pG]
 have hcap:∀ K:AV→Prop,xG aA K=K (N .i64 0):=fun K=>by
  unfold xG
  exact propext ⟨fun⟨m,h,k⟩=>by cases h; exact k,fun k=>⟨0,rfl,k⟩⟩
 rw[hcap,Cj,lL,show IntKind.wrap .i64 ((0:Int) - 0)=0 from by rw[gU] <;> decide,lL,Int.sub_zero,gU (by omega) (by omega),cZ]
 dsimp only[ai]
 rw[show decide ((n:Int) > 0)=true by simp; omega,bW,hcap,show dz 1 aA none (some (N .i64 0)) none=some aA by simp[dz,bnd],dM]
 have hr:=yK n
 refine Bc (base:=M.next) (m:=n) (ds:=dQ ZB n) .nil (Nat.le_refl _) (Nat.le_refl _) (by simp[nW]) (by rw[hr.1,Nat.mul_one]) hr.2 (by omega) (by omega) ?_
 intro v' M' o k _ _
 rw[Nat.zero_add] at o
 obtain⟨b,rfl,q1,q2,q3⟩:=Q9 o (by omega)
 rw[Cj,show dz 1 (.slc b 0 n (.op 1)) none (some (N .i64 0)) none=some (.slc b 0 0 (.op 1)) by simp[dz,bnd]; omega,dM]
 exact h1 b M' q1 q2 (by simpa using q3) (by simpa [aH] using k)
def CQ (T:Nat) (c:ak) : Prop:=∀ {M:RM} {bb TB:Nat} {vs:List AV} {xss:List Str} {Q:ah},M.heap bb=some (.row vs false TB 0)→bb<M.next→vs.length=xss.length→vs.length≤1000→(∀ (i:Nat) (v:AV) (x:Str),vs[i]?=some v→xss[i]?=some x→Sl BY M v x) →
 0<xss.flatten.length→xss.flatten.length≤1000000000→(∀ r M',Ow BY M' M.next T r xss.flatten→ae [] M M'→Q r M')→c [.slc bb 0 vs.length (.ex vs.length)] M Q
theorem JE {TS T:Nat} {cg:ak} (hg:Hu T cg) : CQ T fun args M Q=>∃ a0,args=[a0]∧qz TS cg T a0 M Q:=by
 intro M bb TB vs xss Q hb hbl hlen hvl hv hpos hmax hQ
 refine⟨_,rfl, ?_⟩
 unfold qz
 simp only[pG]
 have at_:∀ (i:Nat) (K:AV→Prop),i<vs.length→cK (.slc bb 0 vs.length (.ex vs.length)) (N .i64 (i:Int)) 1 K=K (.ptr bb i):=fun i K hi=>by
  rw[sG]
  simp only[Int.toNat_natCast,Nat.mul_one,Nat.zero_add]
  exact propext ⟨fun h=>h.2.2,fun h=>⟨by omega,by omega,h⟩⟩
 have hfl:∀ i,i≤xss.length→(xss.take i).flatten.length≤xss.flatten.length:=fun i _=>by
  have e:xss.flatten=(xss.take i).flatten++(xss.drop i).flatten:=by rw[← List.flatten_append,List.take_append_drop]
  rw[e,List.length_append]; omega
 have hst:∀ i (hi:i<xss.length),(xss.take (i + 1)).flatten=(xss.take i).flatten++xss[i]:=fun i hi=>by
  rw[List.take_succ_eq_append_getElem hi,List.flatten_append,List.flatten_cons,List.flatten_nil,List.append_nil]
 rw[lQ]
 refine di (fun m zs M3=>∃ i:Nat,m=vs.length - i∧i≤vs.length∧zs=[N .i64 ((xss.take i).flatten.length:Int),N .i64 (i:Int)]∧M3=M) _ ⟨0,rfl,Nat.zero_le _,rfl,rfl⟩ ?_
 rintro next m zs M3 hnext ⟨i,rfl,hi,rfl,rfl⟩
 simp only[aV,dE,ny]
 refine bH (fun h=>?_) fun h=>?_
 ·have hlt:i<vs.length:=by simpa using h
  have hlx:i<xss.length:=by omega
  have sl:=hv i vs[i] xss[i] (List.getElem?_eq_getElem hlt) (List.getElem?_eq_getElem hlx)
  have h1:=hfl (i + 1) (by omega)
  have h2:=congrArg List.length (hst i hlx)
  rw[List.length_append] at h2
  rw[at_ i _ hlt,az hb (List.getElem?_eq_getElem hlt),aG.len sl,addN (by omega),eU,show decide ((((xss.take i).flatten.length + xss[i].length:Nat) : Int)<0)=false by simp; omega,bq]
  try simp only[aV]
  rw[add1 (by omega)]
  exact hnext _ _ _ (by omega) ⟨i + 1,rfl,by omega,by rw[h2],rfl⟩
 ·have:i=vs.length:=by simp at h; omega
  subst this
  rw[hlen,List.take_length]
  refine hg hmax hpos fun b M4 hb0 hb1 hrow k4=>?_
  rw[← hlen,lQ]
  have hbb:bb≠b:=by omega
  refine di (fun m zs M5=>∃ i:Nat,m=vs.length - i∧i≤vs.length∧zs=[.slc b 0 (xss.take i).flatten.length (.op 1),N .i64 (i:Int)]∧ae [b] M4 M5∧M5.next=M4.next ∧
    M5.heap b=some (.row (BY.row (xss.take i).flatten++dQ ZB (xss.flatten.length - (xss.take i).flatten.length)) true T 0)) _
   ⟨0,rfl,Nat.zero_le _,rfl,ae.refl _ _,rfl,by simpa [Enc.row] using hrow⟩ ?_
  rintro next2 m zs M5 Tz ⟨i,rfl,hi2,rfl,k5,n5,G6⟩
  simp only[aV,dE,ny]
  refine bH (fun h=>?_) fun h=>?_
  ·have hlt:i<vs.length:=by simpa using h
   have hlx:i<xss.length:=by omega
   have sl:=hv i vs[i] xss[i] (List.getElem?_eq_getElem hlt) (List.getElem?_eq_getElem hlx)
   have hb4:=k4.aL hb hbl (by simp)
   have hb5:=k5.aL hb4 (by omega) (by simp; exact hbb)
   have sl5:Sl BY M5 vs[i] xss[i]:=aG.keep (aG.keep sl k4 (by simp)) k5 (fun d hd hm=>by have:=aG.lt sl d hd; simp at hm; omega)
   have h1:=hfl (i + 1) (by omega)
   have h2:=congrArg List.length (hst i hlx)
   rw[List.length_append] at h2
   rw[at_ i _ hlt,az hb5 (List.getElem?_eq_getElem hlt)]
   refine Vh G6 sl5 (by omega) (by omega) fun M6 VU k6 n6=>?_
   rw[add1 (by omega)]
   refine Tz _ _ _ (by omega) ⟨i + 1,rfl,by omega,by rw[hst i hlx],k5.trans k6,by rw[n6,n5], ?_⟩
   rw[VU,hst i hlx,List.length_append,Nat.sub_sub]
  ·have:i=vs.length:=by simp at h; omega
   subst this
   rw[hlen,List.take_length] at G6 ⊢
   rw[Nat.sub_self] at G6
   have Td:M5.heap b=some (.row (BY.row xss.flatten) true T 0):=by simpa [dQ] using G6
   refine hQ _ M5 (Own.op _ _ _ hb0 (by omega) Td (by rw[Enc.gz])) ?_
   exact⟨k5.base.trans k4.base,by rw[n5]; exact k4.next,fun x hx _=>by rw[k5.heap x (Nat.lt_of_lt_of_le hx k4.next) (by simp; omega),k4.heap x hx (by simp)]⟩
def EX (T:Nat) (c:ak) : Prop:=∀ {M:RM} {v:AV} {s:List Int} {Q:ah},Sl INT M v s→s.length≤1000000→(∀ v' M',Ow INT M' M.next T v' s→ae [] M M'→Q v' M')→c [v] M Q
theorem J8 {T:Nat} : EX T fun args M Q=>∃ a0,args=[a0]∧uZ T a0 M Q:=by
 intro M v s Q hv hl hQ
 refine⟨_,rfl, ?_⟩
 unfold uZ
 rcases aG.xI hv false with⟨rfl,he⟩ | ⟨hne,he⟩
 ·rw[he,show(!false)=true from rfl,bW]
  have:s=[]:=by
   unfold Sl at hv
   cases s with
   | nil=>rfl
   | cons x s=>generalize hcs:INT.row (x :: s)=cs at *; generalize hn:(x :: s).length=n at *; cases hv; cases hcs
  subst this
  exact hQ aA M .nil (ae.refl _ _)
 ·rw[he,bq,G8]
  simp only[aU]
  have k1:ae [] M (M.push (.row [] false T 0)):=(ae.refl _ _).push _
  refine kL (E:=INT) (Ow.lit INT M) (by simp[RM.push]) (by decide) (aG.keep hv k1 (by simp)) (by simp; omega) (by simp; omega) fun v7 M7 o7 k7 _ _=>?_
  refine hQ v7 M7 (by simpa using o7) ?_
  refine ae.own k1 k7 (fun b hb=>?_)
  simp[aH] at hb; omega
theorem wO {M:RM} {base T:Nat} {v:AV} {xs s:Str} {zs:List AV} {K:ah} (ho:Ow BY M base T v xs) (hb:base≤M.next) (hn:xs.length + s.length≤1000000000)
  (hK:∀ v' M',Ow BY M' base T v' (xs++s)→ae (aH v) M M'→K v' M') : appW T 1 1 zs false v (St s) M K:=by
 have e:nW M 1 zs false (St s)=some (s.length,BY.row s):=by simp[nW,DV]
 refine Bc ho hb (by decide) e (by rw[lS,Nat.mul_one]) (BY.rW s) (by omega) (by omega) fun v' M' h1 h2 _ _=>?_
 refine hK v' M' ?_ h2
 rw[← Enc.oM] at h1
 unfold Ow; rw[List.length_append]; exact h1
def fV (n:Int) (rest:Str) : Int:=if (rest.length:Int)<n then(rest.length:Int) else n
def cB (s:Str) : Str:=eT s.length++[13,10]++s++[13,10]
def aW:List Int→Str→Str→Str × Str
 | [],acc,rest=>(acc,rest)
 | n :: ns,acc,rest=>match decide (fV n rest<1) with
   | true=>aW ns acc rest
   | false=>aW ns (acc++cB (rest.take (fV n rest).toNat)) (rest.drop (fV n rest).toNat)
theorem De:∀ (a b:List Int) (acc rest:Str),aW (a++b) acc rest=aW b (aW a acc rest).1 (aW a acc rest).2
 | [],b,acc,rest=>rfl
 | n :: a,b,acc,rest=>by
   rw[List.cons_append,aW,aW]
   split <;> exact De a b _ _
abbrev kT:Str:=[48,13,10,13,10]
def bY (m p:Str) (l:List Hd) (body:Str) (sizes:List Int) : Except Nat Str:=match jw m p with
 | false=>.error 1
 | true=>ed (iq m p) l (xO,qi) body.length ((aW (sizes++[(body.length:Int)]) [] body).1++kT)
theorem Vx {T:Nat} {zs:List AV} {a b c d z:AV} {K:RB→(Nat→AV)→Prop} (ha:a.cells=[a]) (hb:b.cells=[b]) (hc:c.cells=[c]) (hd:d.cells=[d]) (ha1:oneCell a=true) (hb1:oneCell b=true) (hc1:oneCell c=true) (hd1:oneCell d=true) :
  dW T 4 [z] [(0,1,a),(1,1,b),(2,1,c),(3,1,d)] K=K (.row [a,b,c,d] false T 0) (fun b=>.slc b 0 4 (.ex 4)):=by
 have:qc (dQ [z] 4) [(0,1,a),(1,1,b),(2,1,c),(3,1,d)]=some [a,b,c,d]:=by
  simp[qc,dQ,ha,hb,hc,hd,ha1,hb1,hc1,hd1]
 apply propext; unfold dW
 constructor
 ·rintro⟨l,h,hk⟩; rw[this] at h; cases h; exact hk
 ·intro hk; exact⟨_,this,hk⟩
theorem Bs.new (M:RM) (T:Nat) (s:Str) : Bs (M.push (.row (BY.row s) true T 0)) (.slc M.next 0 s.length (.op 1)) s:=⟨(Rw.new M s).sl,rfl⟩
def Cb (B:Base) (T:Nat) (c:ak) : Prop:=∀ {M:RM} {hv bv sv:AV} {m p body:Str} {l:List Hd} {sizes:List Int} {Q:ah},M.base=B→Sl HD M hv l→l.length≤1000→(∀ h∈l,h.1.length≤281474976710656∧h.2.length≤281474976710656) →
 m.length≤281474976710656→p.length≤281474976710656→Bs M bv body→body.length≤1000000→Sl INT M sv sizes→sizes.length≤1000 →
 (∀ s v' M',bY m p l body sizes=.ok s→s.length≤100000000→ae [] M M'→Ow BY M' M.next T v' s→Q (.tup [v',N .i64 0]) M')→(∀ (e:Nat) M',bY m p l body sizes=.error e→(e=1∨e=2)→ae [] M M'→Q (.tup [aA,N .i64 (e:Int)]) M') →
 c [.agg [St m,St p,hv,bv],sv] M Q
theorem En {B:Base} {T TI T8 TB:Nat} {cg ck cf cc cp:ak} (hg:xM cg) (hk:EX TI ck) (hf:EW B cf) (hc:CQ T8 cc) (hp:sZ B T8 cp) :
  Cb B T8 fun args M Q=>∃ a0 a1,args=[a0,a1]∧lv T cg ck TI T8 cf TB cc cp a0 a1 M Q:=by
 intro M hv bv sv m p body l sizes Q hB hh hll hle hm hpl hb hbl hsv hsl hQ hE
 refine⟨_,_,rfl, ?_⟩
 unfold lv
 have ohv:=aG.one hh
 have obv:=aG.one hb.sl
 rw[iU (by simp only[List.all_cons,List.all_nil,ohv,obv]; rfl) (by simp)]
 simp only[aU]
 have k0:ae [] M (M.push (.row [St m,St p,hv,bv] false T 0)):=(ae.refl _ _).push _
 have n0:(M.push (.row [St m,St p,hv,bv] false T 0)).heap M.next=some (.row [St m,St p,hv,bv] false T 0):=by simp[RM.push]
 have l0:M.next<(M.push (.row [St m,St p,hv,bv] false T 0)).next:=by simp[RM.push]
 generalize M.push (.row [St m,St p,hv,bv] false T 0)=M0 at *
 rw[bN n0 (by rfl)]
 refine hg ohv obv (by omega) (by omega) fun M1 k1=>?_
 have n1:=k1.aL n0 l0 (by simp)
 have l1:=Nat.lt_of_lt_of_le l0 k1.next
 have k01:=k0.trans k1
 simp only[bn]
 refine bH (fun h=>?_) fun h=>?_
 ·have hk:jw m p=false:=by simpa using h
  exact hE 1 M1 (by unfold bY; rw[hk]) (.inl rfl) k01
 have hok:jw m p=true:=by simpa using h
 obtain⟨q1,q2⟩:=CE hok
 have e:bY m p l body sizes=ed (iq m p) l (xO,qi) body.length ((aW (sizes++[(body.length:Int)]) [] body).1++kT):=by unfold bY; rw[hok]
 rw[e] at hQ hE
 have ld:∀ {M' : RM} (k:ae [] M1 M') (i:Nat) (x:AV),([St m,St p,hv,bv] : List AV)[i]?=some x→∀ {K' : AV→Prop},aj M' (.ptr M.next i) K'=K' x:=fun k i x hx=>az (k.aL n1 l1 (by simp)) hx
 simp only[gK]
 rw[ld (ae.refl _ _) 3 bv rfl]
 refine hk (aG.keep hsv k01 (by simp)) (by omega) fun v2 M2 o2 k2=>?_
 rw[hb.len,yM (by rfl) (by rfl) (by rfl)]
 simp only[aU]
 have k02:=k01.trans k2
 refine wN (E:=INT) (a:=(body.length:Int)) (Own.mono o2 k01.next) k02.next (by decide) (by omega) (by omega) fun v3 M3 o3 k3 _ _=>?_
 have k03:ae [] M M3:=ae.own k02 k3 (fun x hx=>by have:=(Own.blk o2 x hx).1; have:=k01.next; omega)
 have k13:ae [] M1 M3:=ae.own k2 k3 (fun x hx=>(Own.blk o2 x hx).1)
 generalize hns:sizes++[(body.length:Int)]=ns at *
 have hnl:ns.length≤1001:=by rw[← hns]; simp; omega
 have s3:Sl INT M3 v3 ns:=Own.kZ o3
 rw[aG.len s3]
 refine di (fun z ys M4=>∃ (i:Nat) (av rv:AV) (acc rest:Str),z=ns.length - i∧ys=[av,rv,N .i64 (i:Int)]∧i≤ns.length∧ae [] M3 M4∧Ow BY M4 M1.next T8 av acc∧Bs M4 rv rest∧(∀ x∈aH rv,x∈aH bv) ∧
   aW ns [] body=aW (ns.drop i) acc rest∧acc.length + rest.length≤i * 30 + body.length) _
  ⟨0,aA,bv,[],body,rfl,rfl,Nat.zero_le _,ae.refl _ _,.nil,hb.keep k03 (by simp),fun x hx=>hx,rfl,by simp⟩ ?_
 rintro next z ys M4 hnext ⟨i,av,rv,acc,rest,rfl,rfl,hi,k4,oa,hr,hrb,hch,hal⟩
 simp only[aV,dE,ny]
 have k34:=k03.trans k4
 have k14:=k13.trans k4
 refine bH (fun h=>?_) fun h=>?_
 ·have hlt:i<ns.length:=by simpa using h
  have s4:Sl INT M4 v3 ns:=aG.keep s3 k4 (by simp)
  obtain⟨b0,o0,_,_,hix,hld⟩:=s4.at 1 (i:Int) hlt
  have hdr:ns.drop i=ns[i] :: ns.drop (i + 1):=List.drop_eq_getElem_cons hlt
  rw[pG,hix,dD]
  refine⟨_,dX.1 hld, ?_⟩
  rw[hr.len,NL]
  have hcut:(if false=true then(if (rest.length:Int) > ns[i] then(rest.length:Int) else ns[i]) else if (rest.length:Int)<ns[i] then(rest.length:Int) else ns[i])=fV ns[i] rest:=by
   unfold fV; simp
  rw[hcut,eU]
  refine bH (fun h=>?_) fun h=>?_
  ·simp only[aV,dE]
   rw[add1 (by omega)]
   refine hnext _ _ _ (by omega) ⟨i + 1,av,rv,acc,rest,rfl,rfl,by omega,k4,oa,hr,hrb, ?_,by omega⟩
   rw[hch,hdr,aW,h]
  ·obtain⟨k,hk,hkl,hk1⟩ : ∃ k:Nat,fV ns[i] rest=(k:Int)∧k≤rest.length∧1≤k:=by
    have h1:¬ fV ns[i] rest<1:=by simpa using h
    refine⟨(fV ns[i] rest).toNat,by omega, ?_,by omega⟩
    have:fV ns[i] rest≤rest.length:=by unfold fV; split <;> omega
    omega
   have hstep:aW (ns.drop i) acc rest=aW (ns.drop (i + 1)) (acc++cB (rest.take k)) (rest.drop k):=by
    rw[hdr,aW,h,hk,Int.toNat_natCast]
   have htl:(rest.take k).length=k:=by simp; omega
   have hcb:cB (rest.take k)=eT k++[13,10]++rest.take k++[13,10]:=by unfold cB; rw[htl]
   have hxl:(eT k).length≤20:=kH _ _ _
   rw[hk]
   obtain⟨t39,e39,h39,Oq⟩ : ∃ v',dz 1 rv none (some (N .i64 (k:Int))) none=some v'∧Bs M4 v' (rest.take k)∧(∀ x∈aH v',x∈aH rv):=by
    have:=hr.sub (Aw 0) (kw _ k .i64) (Nat.zero_le _) hkl (K:=fun v'=>Bs M4 v' (rest.take k)∧(∀ x∈aH v',x∈aH rv)) (fun v' h1 h2=>⟨by simpa using h1,h2⟩)
    obtain⟨v',h1,h2⟩:=this
    exact⟨v',h1,h2.1,h2.2⟩
   obtain⟨t46,e46,h46,wL⟩ : ∃ v',dz 1 rv (some (N .i64 (k:Int))) none none=some v'∧Bs M4 v' (rest.drop k)∧(∀ x∈aH v',x∈aH rv):=by
    have:=hr.sub (kw 0 k .i64) (Aw _) hkl (Nat.le_refl _) (K:=fun v'=>Bs M4 v' (rest.drop k)∧(∀ x∈aH v',x∈aH rv)) (fun v' h1 h2=>⟨by rw[List.take_of_length_le (by simp)] at h1; exact h1,h2⟩)
    obtain⟨v',h1,h2⟩:=this
    exact⟨v',h1,h2.1,h2.2⟩
   -- put together
   have fin:∀ (M5:RM) (t36 t41:AV),ae [] M4 M5→Bs M5 t36 (eT k++[13,10])→Bs M5 t41 [13,10] →
     (dW TB 4 [(.sc (.slice none 0 0))] [(0,1,av),(1,1,t36),(2,1,t39),(3,1,t41)] fun WV XJ=>vN WV XJ M5 fun t42 JJ b_19=>cc [t42] JJ fun t43 Ce=>bL (dz 1 rv (some (N .i64 (k:Int))) none none) fun t46=>af .add (N .i64 (i:Int)) (N .i64 1) fun t47=>next [(ai [t43,t46] 0),(ai [t43,t46] 1),t47] Ce):=by
    intro M5 t36 t41 k5 h36 h41
    have a5:=oa.keep k5 (by simp)
    have b5:=h39.keep k5 (by simp)
    rw[Vx (z:=.sc (.slice none 0 0)) (zs:=[]) (Own.cells a5) (aG.cells h36.sl) (aG.cells b5.sl) (aG.cells h41.sl) (Own.one a5) (aG.one h36.sl) (aG.one b5.sl) (aG.one h41.sl)]
    simp only[Bp]
    have k6:ae [] M5 (M5.push (.row [av,t36,t39,t41] false TB 0)):=(ae.refl _ _).push _
    have n6:(M5.push (.row [av,t36,t39,t41] false TB 0)).heap M5.next=some (.row [av,t36,t39,t41] false TB 0):=by simp[RM.push]
    have l6:M5.next<(M5.push (.row [av,t36,t39,t41] false TB 0)).next:=by simp[RM.push]
    generalize M5.push (.row [av,t36,t39,t41] false TB 0)=M6 at *
    have hfl:([acc,eT k++[13,10],rest.take k,[13,10]] : List Str).flatten=acc++cB (rest.take k):=by rw[hcb]; simp
    have hfll:(acc++cB (rest.take k)).length≤acc.length + 24 + k:=by
     rw[hcb]; simp only[List.length_append,List.length_cons,List.length_nil,htl]; omega
    have XV:0<(acc++cB (rest.take k)).length:=by
     rw[hcb]; simp only[List.length_append,List.length_cons,List.length_nil]; omega
    refine hc (vs:=[av,t36,t39,t41]) (xss:=[acc,eT k++[13,10],rest.take k,[13,10]]) n6 l6 rfl (by simp) (fun j v x hv hx=>?_) (by rw[hfl]; exact XV) (by
      rw[hfl]
      have:i * 30≤1001 * 30:=Nat.mul_le_mul_right _ (by omega)
      omega) fun r M7 o7 k7=>?_
    ·rcases j with _ | _ | _ | _ | j
     ·cases hv; cases hx; exact aG.keep (Own.kZ a5) k6 (by simp)
     ·cases hv; cases hx; exact aG.keep h36.sl k6 (by simp)
     ·cases hv; cases hx; exact aG.keep b5.sl k6 (by simp)
     ·cases hv; cases hx; exact aG.keep h41.sl k6 (by simp)
     ·cases hv
    rw[hfl] at o7
    have k47:=k5.trans (k6.trans k7)
    rw[e46,dM]
    simp only[aV,dE]
    rw[add1 (by omega)]
    refine hnext _ _ _ (by omega) ⟨i + 1,r,t46,acc++cB (rest.take k),rest.drop k,rfl,rfl,by omega,k4.trans k47,Own.mono o7 (Nat.le_trans (k14.trans k5).next k6.next),h46.keep k47 (by simp),fun x hx=>hrb x (wL x hx),by rw[hch,hstep], ?_⟩
    have:(rest.drop k).length=rest.length - k:=by simp
    omega
   refine⟨?_, ?_⟩
   ·rw[e39,dM]
    refine⟨[N .u8 13,N .u8 10],rfl, ?_⟩
    simp only[Bp]
    have k5:ae [] M4 (M4.push (.row [N .u8 13,N .u8 10] false T8 0)):=(ae.refl _ _).push _
    have n5:(M4.push (.row [N .u8 13,N .u8 10] false T8 0)).heap M4.next=some (.row [N .u8 13,N .u8 10] false T8 0):=by simp[RM.push]
    have l5:M4.next<(M4.push (.row [N .u8 13,N .u8 10] false T8 0)).next:=by simp[RM.push]
    generalize M4.push (.row [N .u8 13,N .u8 10] false T8 0)=M5 at *
    refine hf ((k34.trans k5).base.trans hB) (by omega) fun M6 k6=>?_
    have n6:=k6.aL n5 l5 (by simp)
    have l6:=Nat.lt_of_lt_of_le l5 k6.next
    rw[dM]
    refine⟨rfl,[N .u8 13,N .u8 10],rfl,⟨n6,rfl⟩, ?_⟩
    rw[aR]
    refine⟨by simp; omega, ?_⟩
    rw[gD]
    have b7:=Bs.new M6 T8 (eT k++[13,10])
    have k7:ae [] M6 (M6.push (.row (BY.row (eT k++[13,10])) true T8 0)):=(ae.refl _ _).push _
    have n7:=k7.aL n6 l6 (by simp)
    have m7:(M6.push (.row (BY.row (eT k++[13,10])) true T8 0)).heap M6.next=some (.row (BY.row (eT k++[13,10])) true T8 0):=by simp[RM.push]
    have l7:M4.next<(M6.push (.row (BY.row (eT k++[13,10])) true T8 0)).next:=by simp[RM.push]; omega
    have l7' : M6.next<(M6.push (.row (BY.row (eT k++[13,10])) true T8 0)).next:=by simp[RM.push]
    generalize hM7:M6.push (.row (BY.row (eT k++[13,10])) true T8 0)=M7 at *
    refine⟨M4.next,0,2,2,[N .u8 13,N .u8 10],T8,rfl,n7, ?_⟩
    have k47:ae [] M4 M7:=k5.trans (k6.trans k7)
    have k8:ae [] M4 (M7.put M4.next (.row [N .u8 13,N .u8 10] false T8 (([N .u8 13,N .u8 10] : List AV).length + 1))):=k47.new _ (Nat.le_refl _)
    have m8:(M7.put M4.next (.row [N .u8 13,N .u8 10] false T8 (([N .u8 13,N .u8 10] : List AV).length + 1))).heap M6.next=some (.row (BY.row (eT k++[13,10])) true T8 0):=uR m7 (by omega)
    dsimp only
    rw[gD]
    refine⟨⟨m8,rfl⟩, ?_⟩
    rw[dM]
    refine⟨rfl, ?_⟩
    refine fin _ _ _ k8 ⟨?_,rfl⟩ ⟨?_,Nat.le_refl _⟩
    ·exact aG.slc _ _ _ _ _ (by rw[IQ]; exact l7') (by rw[RM.iM m8 (by rw[Enc.gz]; simp[BY]),List.drop_zero,List.take_of_length_le (by rw[Enc.gz]; simp[BY])])
    ·refine aG.slc _ _ _ _ _ (by rw[IQ]; exact l7) ?_
     rw[RM.iM (aP _) (by decide)]
     rfl
   ·refine⟨[N .u8 13,N .u8 10],rfl, ?_⟩
    simp only[Bp]
    rw[e39,dM]
    refine⟨M4.next,0,2,2,[N .u8 13,N .u8 10],T8,rfl,by simp[RM.push], ?_⟩
    have k5:ae [] M4 ((M4.push (.row [N .u8 13,N .u8 10] false T8 0)).put M4.next (.row [N .u8 13,N .u8 10] false T8 (([N .u8 13,N .u8 10] : List AV).length + 1))):=((ae.refl _ _).push _).new _ (Nat.le_refl _)
    have b5:Bs ((M4.push (.row [N .u8 13,N .u8 10] false T8 0)).put M4.next (.row [N .u8 13,N .u8 10] false T8 (([N .u8 13,N .u8 10] : List AV).length + 1))) (.slc M4.next 0 2 (.ex 2)) [13,10]:=⟨by
     refine aG.slc _ _ _ _ _ (by simp[RM.push,RM.put]) ?_
     rw[RM.iM (aP _) (by decide)]
     rfl,Nat.le_refl _⟩
    dsimp only
    rw[dM]
    refine⟨rfl, ?_⟩
    refine hf ((k34.trans k5).base.trans hB) (by omega) fun M6 k6=>?_
    rw[dM]
    refine⟨rfl, ?_⟩
    rw[aR]
    refine⟨by simp; omega, ?_⟩
    rw[gD]
    have k7:ae [] M6 (M6.push (.row (BY.row (eT k++[13,10])) true T8 0)):=(ae.refl _ _).push _
    exact fin _ _ _ (k5.trans (k6.trans k7)) (Bs.new M6 T8 _) (b5.keep (k6.trans k7) (by simp))
 ·have:i=ns.length:=by simp at h; omega
  subst this
  rw[List.drop_length] at hch
  have hch' : aW ns [] body=(acc,rest):=hch
  rw[hch'] at hQ hE
  have:ns.length * 30≤1001 * 30:=Nat.mul_le_mul_right _ hnl
  refine wO oa k14.next (by simp; omega) fun v5 M5 o5 k5=>?_
  have k15:ae [] M1 M5:=ae.own k14 k5 (fun x hx=>(Own.blk oa x hx).1)
  have k05:ae [] M M5:=k01.trans k15
  rw[ld k15 0 (St m) rfl,aR]
  refine⟨by simp; omega, ?_⟩
  rw[ld k15 1 (St p) rfl,aR]
  refine⟨by simp; omega, ?_⟩
  rw[aR]
  refine⟨by simp; omega, ?_⟩
  rw[aR]
  refine⟨by simp; omega, ?_⟩
  rw[ld k15 2 hv rfl,gF]
  refine⟨_,zN rfl rfl rfl rfl, ?_⟩
  rw[ld k15 3 bv rfl,hb.len]
  have hl5:(acc++kT).length≤100000000 - 2048:=by simp; omega
  refine hp (more:=(xO,qi)) (body:=acc++kT) (sz:=body.length) (k05.base.trans hB) (aG.keep hh k05 (by simp)) hll hle (by simp; omega) (by simp) (by simp) (Own.kZ o5) (by omega) (fun s v' M6 e6 hl6 k6 o6=>?_) (fun e' M6 e6 he k6=>?_)
  ·simp only[bB,bz]
   exact hQ s v' M6 e6 (by omega) (k05.trans k6) (Own.mono o6 k05.next)
  ·simp only[bB,bz]
   exact hE e' M6 e6 he (k05.trans k6)
end Go.Ab.Hw
set_option maxRecDepth 20000
namespace Go.Ab.Hw
open Go Go.Ab Go.Ab.Sm
open Go.Ab.Vl (eH)
theorem lV {f:(List AV→RM→Prop)→Prop} {g:List AV→RM→Prop} (x:List AV) (N:RM) (hf:∀ J:List AV→RM→Prop,J x N→f J) (hg:g x N) : dL f g:=hf g hg
def xB (n:Nat) : Int:=VY .u8 (n:Int) 32
def Ig (c:ak) : Prop:=∀ {M:RM} {x:UInt8} {Q:ah},Q (N .u8 (xB x.toNat)) M→c [By x] M Q
theorem ML:Ig fun args M Q=>∃ a0,args=[a0]∧iQ a0 M Q:=by
 intro M x Q hQ
 refine⟨_,rfl, ?_⟩
 unfold iQ
 rw[QX]
 exact hQ
def Mt (n:Nat) : Bool:=!(jZ (bJ (UInt8.ofNat n)) && !fo (UInt8.ofNat n)) || (decide (97≤xB n) && decide (xB n≤122) && decide (xB n - 97 + 10=(kS (UInt8.ofNat n) : Int)) && !decide (n=95))
theorem Ob:(List.range 256).all Mt=true:=by decide +kernel
theorem Pk (x:UInt8) : Mt x.toNat=true:=List.all_eq_true.1 Ob x.toNat (List.mem_range.2 x.toNat_lt)
theorem Ky {x:UInt8} (h:jZ (bJ x)=true) (hd:fo x=false) : 97≤xB x.toNat∧xB x.toNat≤122∧xB x.toNat - 97 + 10=(kS x:Int)∧x.toNat≠95:=by
 have:=Pk x
 unfold Mt at this
 rw[UInt8.ofNat_toNat,h,hd] at this
 simp only[Bool.not_false,Bool.and_self,Bool.not_true,Bool.false_or,Bool.and_eq_true,decide_eq_true_eq,Bool.not_eq_true',decide_eq_false_iff_not] at this
 exact⟨this.1.1.1,this.1.1.2,this.1.2,this.2⟩
theorem Oy {s:Str} {i:Nat} (hi:i<s.length) : jD (s.take (i + 1))=jD (s.take i) * 16 + kS s[i]:=by
 unfold jD
 rw[List.take_succ_eq_append_getElem hi,List.foldl_append]
 rfl
theorem D8 {n:Int} (h0:0≤n) (h1:n<18446744073709551616) : IntKind.wrap .u64 n=n:=by
 simp only[IntKind.wrap,show(2:Int) ^ IntKind.u64.bits=18446744073709551616 from by decide]
 simp[IntKind.signed]
 omega
theorem DK {TE T8:Nat} {cl cu:ak} (hl:Ig cl) : Fp fun args M Q=>∃ a0 a1 a2,args=[a0,a1,a2]∧gM TE cl T8 cu a0 a1 a2 M Q:=by
 intro M s Q h1 h8 hx hQ
 refine⟨_,_,_,rfl, ?_⟩
 unfold gM
 have hne:(s == [])=false:=by cases s with | nil=>simp at h1 | cons a b=>rfl
 rw[fu,hne,bq,bE,show((16:Int) == 0)=false from rfl]
 refine lV (x:=[St s,N .i64 16]) (N:=M) (fun J hJ=>?_) ?_
 ·rw[kE,show decide ((2:Int)≤16)=true from rfl]
  simp only[bM,kE]
  rw[show decide ((16:Int)≤36)=true from rfl]
  simp only[bU,bW]
  exact hJ
 simp only[aV,dE]
 refine lV (x:=[N .i64 64]) (N:=M) (fun J hJ=>?_) ?_
 ·rw[bE,show((64:Int) == 0)=false from rfl,bq,eU,show decide ((64:Int)<0)=false from rfl]
  simp only[bg,cZ]
  rw[show decide ((64:Int) > 64)=false from rfl]
  simp only[bZ,bq]
  exact hJ
 simp only[aV,dE]
 refine lV (x:=[N .u64 1152921504606846976]) (N:=M) (fun J hJ=>?_) ?_
 ·rw[bE,show((16:Int) == 10)=false from rfl,bq,bE,show((16:Int) == 16)=true from rfl,bW]
  exact hJ
 simp only[aV,dE]
 rw[mQ,RU]
 refine⟨by decide, ?_⟩
 rw[lL,gD]
 simp only[aU,lQ]
 have hmax:IntKind.wrap .u64 (Sb .u64 1 (IntKind.wrap .u64 64) - 1)=18446744073709551615:=by decide +kernel
 rw[hmax]
 have hk1:ae [] M (M.push (.row (BY.row s) true T8 0)):=(ae.refl _ _).push _
 have hr1:Rw BY (M.push (.row (BY.row s) true T8 0)) M.next true T8 s:=Rw.new M s
 generalize M.push (.row (BY.row s) true T8 0)=M1 at *
 refine di (fun m ys M3=>∃ i:Nat,m=s.length - i∧ys=[Bo false,N .u64 (jD (s.take i) : Int),N .i64 (i:Int)]∧i≤s.length∧M3=M1) _ ⟨0,rfl,rfl,Nat.zero_le _,rfl⟩ ?_
 rintro next m ys M3 hnext ⟨i,rfl,rfl,hi,rfl⟩
 simp only[aV,dE,ny]
 refine bH (fun h=>?_) fun h=>?_
 ·have hlt:i<s.length:=by simpa using h
  have hc:=hr1.aj hlt
  have cb:=Bg s[i]
  have hmem:jZ (bJ s[i])=true:=by
   unfold low at hx
   rw[List.all_map] at hx
   exact List.all_eq_true.1 hx s[i] (List.getElem_mem hlt)
  have hdv:=KZ hmem
  have hall:(low (s.take i)).all jZ=true:=by
   rw[List.all_eq_true]
   intro y hy
   unfold low at hy
   rw[List.mem_map] at hy
   obtain⟨z,hz,rfl⟩:=hy
   unfold low at hx
   rw[List.all_map] at hx
   exact List.all_eq_true.1 hx z (List.mem_of_mem_take hz)
  have hlt2:=KP hall (by simp; omega)
  have ht:=Oy hlt
  refine lV (x:=[Bo false,N .u64 (jD (s.take (i + 1)) : Int)]) (N:=M3) (fun J hJ=>?_) ?_
  rotate_left
  ·simp only[aV,dE]
   rw[add1 (by omega)]
   exact hnext _ _ _ (by omega) ⟨i + 1,rfl,rfl,by omega,rfl⟩
  rw[sG]
  refine⟨by omega,by omega, ?_⟩
  rw[dD]
  refine⟨By s[i],by simpa using hc, ?_⟩
  refine lV (x:=[Bo false,N .u8 (kS s[i] : Int)]) (N:=M3) (fun J2 hJ2=>?_) ?_
  rotate_left
  ·simp only[aV,dE]
   rw[mQ,show IntKind.wrap .u8 16=16 by decide,dh,show decide ((kS s[i] : Int) ≥ 16)=false by simp; omega,bq,dh,show decide ((jD (s.take i) : Int) ≥ 1152921504606846976)=false by simp; omega,bq,mQ,show IntKind.wrap .u64 16=16 by decide,
    Pv,D8 (by omega) (by omega),mQ,D8 (by omega) (by omega),yB,D8 (by omega) (by omega),eU,show decide ((jD (s.take i) : Int) * 16 + (kS s[i] : Int)<(jD (s.take i) : Int) * 16)=false from decide_eq_false (by omega)]
   simp only[bg,cZ]
   rw[show decide ((jD (s.take i) : Int) * 16 + (kS s[i] : Int) > 18446744073709551615)=false by simp; omega]
   simp only[bZ,bq]
   have e:((jD (s.take (i + 1)) : Nat) : Int)=(jD (s.take i) : Int) * 16 + (kS s[i] : Int):=by rw[ht]; omega
   rw[e] at hJ
   exact hJ
  rw[bE]
  have h95:((s[i].toNat:Int) == 95)=false:=by
   cases hd:fo s[i] with
   | true =>
     unfold fo at hd
     simp only[Bool.and_eq_true,decide_eq_true_eq] at hd
     simp; omega
   | false =>
     have:=(Ky hmem hd).2.2.2
     simp; omega
  rw[h95]
  simp only[eP,bZ,bq,bX,aV,kE]
  cases hd:fo s[i] with
  | true =>
    have hd':=hd
    unfold fo at hd'
    simp only[Bool.and_eq_true,decide_eq_true_eq] at hd'
    rw[show decide ((48:Int)≤(s[i].toNat:Int))=true by simp; omega]
    simp only[bM]
    rw[show decide ((s[i].toNat:Int)≤57)=true by simp; omega]
    simp only[bU,bW]
    rw[lL,jl (by omega) (by omega)]
    have hv:(s[i].toNat:Int) - 48=(kS s[i] : Int):=by unfold kS; rw[if_pos (by omega)]; omega
    rw[hv]
    exact hJ2
  | false =>
    obtain⟨q1,q2,q3,_⟩:=Ky hmem hd
    have hno:(decide ((48:Int)≤(s[i].toNat:Int)) && decide ((s[i].toNat:Int)≤57))=false:=by
     rw[← hd]; unfold fo; rfl
    refine kD (p:=decide ((s[i].toNat:Int)≤57)) (fun _ k hk=>hk) ?_
    rw[hno,bq]
    refine hl ?_
    rw[kE,show decide ((97:Int)≤xB s[i].toNat)=true by simpa using q1]
    simp only[bM]
    refine hl ?_
    rw[kE,show decide (xB s[i].toNat≤(122:Int))=true by simpa using q2]
    simp only[bU,bW]
    refine hl ?_
    rw[lL,jl (by omega) (by omega),yB,jl (by omega) (by omega),q3]
    exact hJ2
 ·have:i=s.length:=by simp at h; omega
  subst this
  simp only[eP,bZ,bq]
  rw[List.take_length]
  exact hQ _ hk1
theorem Ez {cp ct:ak} (hp:Fp cp) : Fp fun args M Q=>∃ a0 a1 a2,args=[a0,a1,a2]∧kV cp ct a0 a1 a2 M Q:=by
 intro M s Q h1 h8 hx hQ
 refine⟨_,_,_,rfl, ?_⟩
 unfold kV
 refine hp h1 h8 hx fun M1 k1=>?_
 simp only[bB,bz]
 refine .inr ⟨rfl,rfl, ?_⟩
 dsimp only
 rw[show(!true)=false from rfl,bq]
 exact hQ M1 k1
def fC (n:Nat) : UInt8:=if n<10 then UInt8.ofNat (48 + n) else UInt8.ofNat (87 + n)
theorem l8 {base f n:Nat} (h:n<base) : iP base (f + 1) n=[fC n]:=by
 rw[iP,qM h]; rfl
theorem uh {base f n:Nat} (h:¬ n<base) : iP base (f + 1) n=iP base f (n / base)++[fC (n % base)]:=by
 rw[iP,iy h]; rfl
abbrev Cu:Str:=[48,49,50,51,52,53,54,55,56,57,97,98,99,100,101,102,103,104,105,106,107,108,109,110,111,112,113,114,115,116,117,118,119,120,121,122]
theorem PZ:∀ m:Fin 16,Cu[m.val]?=some (fC m.val):=by decide
theorem K7 {n:Nat} (h:n<16) {K:AV→Prop} : dH (St Cu) (N .u64 (n:Int)) K=K (By (fC n)):=by
 have hl:n<Cu.length:=Nat.lt_of_lt_of_le h (by decide)
 rw[eH hl]
 have:=PZ ⟨n,h⟩
 rw[List.getElem?_eq_getElem hl] at this
 rw[Option.some.inj this]
def VV (B:Base) (c:ak) : Prop:=∀ {M:RM} {Q:ah},M.base=B→Q (N .i64 4) M→c [N .u64 16] M Q
def LY (c:ak) : Prop:=∀ {M:RM} {Q:ah},Q (Bo true) M→c [N .i64 16] M Q
theorem PN:LY fun args M Q=>∃ a0,args=[a0]∧fU a0 M Q:=by
 intro M Q hQ
 refine⟨_,rfl, ?_⟩
 unfold fU
 rw[lL,Iy,show Mj .i64 16 (IntKind.wrap .i64 (16 - 1))=0 by decide +kernel,bE,show((0:Int) == 0)=true from rfl]
 exact hQ
def MW (B:Base) (c:ak) : Prop:=∀ {M:RM} {n:Nat} {Q:ah},M.base=B→n<4294967296→(∀ M',ae [] M M'→Q (.tup [aA,St (eT n)]) M')→c [aA,N .u64 (n:Int),N .i64 16,Bo false,Bo false] M Q
theorem Oa {B:Base} {TA n:Nat} {cp ct:ak} (hp:LY cp) (ht:VV B ct) {M M0:RM} {zs:List AV} (hB:M.base=B) (hn:n<4294967296) (hzl:zs.length=65) (k0:ae [] M M0) (n0:M0.heap M.next=some (.row zs false TA 0)) (l0:M.next<M0.next) :
  ∀ J13:List AV→RM→Prop,(∀ (i:Nat) (M3:RM) (X:List AV),M3.heap M.next=some (.row (X++BY.row (eT n)) false TA 0)→X.length=i→i + (eT n).length=65→ae [] M M3→M.next<M3.next→J13 [N .i64 (i:Int)] M3) →
    dL (fun J13=>cp [N .i64 16] M0 fun t34 Um=>ax t34 ( jc .u64 (N .i64 16) fun t36=>ct [t36] Um fun t37 Xj=>jc .u64 t37 fun t38=>jc .u64 (N .i64 16) fun t40=>jc .u64 (N .i64 16) fun t42=>af .sub t42 (N .u64 1) fun t43=>eX (fun next Bj TZ=>af .geq (ai Bj 0) t40 fun t46=>ax t46 ( af .sub (ai Bj 1) (N .i64 1) fun t48=>af .and (ai Bj 0) t43 fun t52=>dH (St Cu) t52 fun t53=>ow (.ptr M.next 0) t48 65 1 fun t54=>aK TZ t54 t53 1 fun JJ=>BR .shr (ai Bj 0) t38 fun t57=>next [t57,t48] JJ) ( af .sub (ai Bj 1) (N .i64 1) fun t59=>dH (St Cu) (ai Bj 0) fun t62=>ow (.ptr M.next 0) t59 65 1 fun t63=>aK TZ t63 t62 1 fun Xg=>J13 [t59] Xg)) [N .u64 (n:Int),(N .i64 65)] Xj) ( jc .u64 (N .i64 16) fun t65=>eX (fun Q3 Bz Si=>af .geq (ai Bz 0) t65 fun t68=>ax t68 ( af .sub (ai Bz 1) (N .i64 1) fun t70=>af .quo (ai Bz 0) t65 fun t73=>af .mul t73 t65 fun t78=>af .sub (ai Bz 0) t78 fun t79=>dH (St Cu) t79 fun t80=>ow (.ptr M.next 0) t70 65 1 fun t81=>aK Si t81 t80 1 fun EB=>Q3 [t73,t70] EB) ( af .sub (ai Bz 1) (N .i64 1) fun t84=>dH (St Cu) (ai Bz 0) fun t87=>ow (.ptr M.next 0) t84 65 1 fun t88=>aK Si t88 t87 1 fun XL=>J13 [t84] XL)) [N .u64 (n:Int),(N .i64 65)] Um)) J13:=by
 intro J13 hJ
 refine(show ∀ (f:(List AV→RM→Prop)→Prop) (g:List AV→RM→Prop),f g→dL f g from fun _ _ h=>h) _ _ ?_
 refine hp ?_
 rw[bW,mQ,show IntKind.wrap .u64 16=16 by decide]
 refine ht (k0.base.trans hB) ?_
 rw[mQ,show IntKind.wrap .u64 4=4 by decide,mQ,show IntKind.wrap .u64 16=16 by decide,mQ,show IntKind.wrap .u64 16=16 by decide,lL,show IntKind.wrap .u64 (16 - 1)=15 by decide]
 refine di (fun m ys M3=>∃ (u f:Nat) (X:List AV) (ds:Str),u=m∧ys=[N .u64 (u:Int),N .i64 (X.length:Int)]∧X.length + ds.length=65∧f + ds.length=20∧1≤f∧u<16 ^ f∧u<4294967296∧eT n=iP 16 f u++ds∧M3.heap M.next=some (.row (X++BY.row ds) false TA 0)∧ae [] M M3∧M.next<M3.next) _
  ⟨n,20,zs,[],rfl,by rw[hzl]; rfl,by rw[hzl]; rfl,rfl,by decide,Nat.lt_of_lt_of_le hn (by decide),hn,by unfold eT; rw[List.append_nil],by rw[Enc.Q8,List.append_nil]; exact n0,k0,l0⟩ ?_
 rintro next m ys M3 hnext ⟨u,f,X,ds,rfl,rfl,hXl,hf,hf1,huf,hu,TK,hrow,k3,l3⟩
 simp only[aV,dE]
 have hXp:1≤X.length:=by omega
 obtain⟨Y,y,rfl⟩ : ∃ Y y,X=Y++[y]:=⟨X.dropLast,X.getLast (by intro e; rw[e] at hXp; simp at hXp),(List.dropLast_concat_getLast _).symm⟩
 simp only[List.length_append,List.length_cons,List.length_nil,Nat.zero_add] at hXl
 have hsub:∀ K:AV→Prop,af .sub (N .i64 (((Y++[y]).length:Nat) : Int)) (N .i64 1) K=K (N .i64 (Y.length:Int)):=fun K=>by
  rw[show(N .i64 1)=N .i64 ((1:Nat) : Int) from rfl,IW (by simp) (by simp; omega)]
  simp
 have hidx:∀ K:AV→Prop,ow (.ptr M.next 0) (N .i64 (Y.length:Int)) 65 1 K=K (.ptr M.next Y.length):=fun K=>by
  rw[Pp]
  simp only[Int.toNat_natCast,Nat.mul_one,Nat.zero_add]
  exact propext ⟨fun h=>h.2.2,fun h=>⟨by omega,by omega,h⟩⟩
 have hset:∀ d:UInt8,((Y++[y])++BY.row ds).set Y.length (By d)=Y++BY.row (d :: ds):=fun d=>by
  rw[List.append_assoc,List.set_append_right _ _ (Nat.le_refl _),Nat.sub_self]
  rfl
 have hput:∀ (d:UInt8) (K:RM→Prop),aK M3 (.ptr M.next Y.length) (By d) 1 K=K (M3.put M.next (.row (Y++BY.row (d :: ds)) false TA 0)):=fun d K =>
  gZ _ hrow (by simp) rfl rfl (hset d)
 have Ux:∀ d:UInt8,ae [] M (M3.put M.next (.row (Y++BY.row (d :: ds)) false TA 0)):=fun d=>k3.new _ (Nat.le_refl _)
 rw[dh]
 refine bH (fun h=>?_) fun h=>?_
 ·have h16:¬ u<16:=by simp at h; omega
  obtain⟨g,rfl⟩ : ∃ g,f=g + 1:=⟨f - 1,by omega⟩
  have hg1:1≤g:=by
   rcases Nat.eq_zero_or_pos g with e | e
   ·subst e; simp at huf; omega
   ·exact e
  rw[hsub,Iy,show(15:Int)=((15:Nat) : Int) from rfl,O7 rfl]
  have hand:(u &&& 15) % 2 ^ Dp .u64=u % 16:=by
   rw[show(15:Nat)=2 ^ 4 - 1 from rfl,Nat.and_two_pow_sub_one_eq_mod]
   exact Nat.mod_eq_of_lt (Nat.lt_of_lt_of_le (Nat.mod_lt _ (by decide)) (by decide))
  rw[hand,K7 (Nat.mod_lt _ (by decide)),hidx,hput,Rx]
  refine⟨by decide, ?_⟩
  have Xz:OZ .u64 (u:Int) 4=((u / 16:Nat) : Int):=by
   unfold OZ
   rw[show(2:Int) ^ min (Int.toNat 4) IntKind.u64.bits=16 by decide,Int.fdiv_eq_ediv_of_nonneg _ (by decide)]
   omega
  rw[Xz]
  refine hnext (u / 16) _ _ (by omega) ⟨u / 16,g,Y,fC (u % 16) :: ds,rfl,rfl,by simp; omega,by simp; omega,hg1, ?_,by omega, ?_,aP _,Ux _,l3⟩
  ·rw[Nat.pow_succ] at huf
   exact Nat.div_lt_of_lt_mul (by rw[Nat.mul_comm]; exact huf)
  ·rw[TK,uh h16]; simp
 ·have h16:u<16:=by simp at h; omega
  obtain⟨g,rfl⟩ : ∃ g,f=g + 1:=⟨f - 1,by omega⟩
  rw[hsub,K7 h16,hidx,hput]
  have hd:eT n=fC u :: ds:=by rw[TK,l8 h16]; rfl
  refine hJ Y.length _ Y ?_ rfl (by rw[hd]; simp; omega) (Ux _) l3
  rw[hd]; exact aP _
theorem OE {B:Base} {TS TA T8:Nat} {cp ct:ak} (hp:LY cp) (ht:VV B ct) : MW B fun args M Q=>∃ a0 a1 a2 a3 a4,args=[a0,a1,a2,a3,a4]∧gH TS TA cp ct T8 a0 a1 a2 a3 a4 M Q:=by
 intro M n Q hB hn hQ
 refine⟨_,_,_,_,_,rfl, ?_⟩
 unfold gH
 refine lV [] M (fun J hJ=>?_) ?_
 ·rw[eU,show decide ((16:Int)<2)=false from rfl]
  simp only[bg,bE]
  rw[show((16:Int) == 10)=false from rfl]
  simp only[bZ,bg,cZ]
  rw[show decide ((16:Int) > 36)=false from rfl]
  simp only[bZ,bq]
  exact hJ
 simp only[aU]
 generalize hz:([(N .u8 0),(N .u8 0),(N .u8 0),(N .u8 0),(N .u8 0),(N .u8 0),(N .u8 0),(N .u8 0),(N .u8 0),(N .u8 0),(N .u8 0),(N .u8 0),(N .u8 0),(N .u8 0),(N .u8 0),(N .u8 0),(N .u8 0),(N .u8 0),(N .u8 0),(N .u8 0),(N .u8 0),(N .u8 0),(N .u8 0),(N .u8 0),(N .u8 0),(N .u8 0),(N .u8 0),(N .u8 0),(N .u8 0),(N .u8 0),(N .u8 0),(N .u8 0),(N .u8 0),(N .u8 0),(N .u8 0),(N .u8 0),(N .u8 0),(N .u8 0),(N .u8 0),(N .u8 0),(N .u8 0),(N .u8 0),(N .u8 0),(N .u8 0),(N .u8 0),(N .u8 0),(N .u8 0),(N .u8 0),(N .u8 0),(N .u8 0),(N .u8 0),(N .u8 0),(N .u8 0),(N .u8 0),(N .u8 0),(N .u8 0),(N .u8 0),(N .u8 0),(N .u8 0),(N .u8 0),(N .u8 0),(N .u8 0),(N .u8 0),(N .u8 0),(N .u8 0)] : List AV)=zs
 have hzl:zs.length=65:=by rw[← hz]; rfl
 have k0:ae [] M (M.push (.row zs false TA 0)):=(ae.refl _ _).push _
 have n0:(M.push (.row zs false TA 0)).heap M.next=some (.row zs false TA 0):=by simp[RM.push]
 have l0:M.next<(M.push (.row zs false TA 0)).next:=by simp[RM.push]
 generalize M.push (.row zs false TA 0)=M0 at *
 refine lV [N .u64 (n:Int)] M0 (fun J hJ=>?_) ?_
 ·rw[bq]; exact hJ
 simp only[aV]
 -- the digits
 refine Oa hp ht hB hn hzl k0 n0 l0 _ ?_
 intro i M3 X hrow hX hil k3 l3
 simp only[aV]
 refine lV [N .i64 (i:Int)] M3 (fun J hJ=>?_) ?_
 ·rw[bq]; exact hJ
 simp only[aV]
 have hpos:0<(eT n).length:=by
  unfold eT
  rw[iP]
  split <;> simp
 have hsub:sI 65 1 (.ptr M.next 0) (some (N .i64 (i:Int))) none=some (.slc M.next i (65 - i) (.ex (65 - i))):=by
  have e1:bnd 0 (some (N .i64 (i:Int)))=some i:=kw _ _ _
  have e2:bnd 65 none=some 65:=rfl
  simp only[sI,e1,e2]
  rw[if_pos ⟨(by omega:i≤65),Nat.le_refl _⟩,if_neg (by omega),Nat.zero_add,Nat.mul_one]
 rw[bq,hsub,dM]
 have hs:Sl BY M3 (.slc M.next i (65 - i) (.ex (65 - i))) (eT n):=by
  have e:65 - i=(eT n).length:=by omega
  unfold Sl
  rw[e]
  refine aG.slc _ _ _ _ _ ?_ ?_
  ·exact l3
  ·rw[RM.iM hrow (by rw[List.length_append,lS,hX]; simp[BY])]
   rw[List.drop_left' hX,List.take_of_length_le (by rw[lS]; simp[BY])]
 rw[hs.str]
 exact hQ M3 k3
end Go.Ab.Hw
namespace Go.Ab.Hw
open Go Go.Ab Go.Ab.Sm
theorem N8 {B:Base} {TA:Nat} {c1 c2 c3 cb:ak} (hb:MW B cb) : EW B fun args M Q=>∃ a0 a1,args=[a0,a1]∧gL c1 TA c2 c3 cb a0 a1 M Q:=by
 intro M n Q hB hn hQ
 refine⟨_,_,rfl, ?_⟩
 unfold gL
 rw[bE,show((16:Int) == 10)=false from rfl,bq,mQ,D8 (by omega) (by omega),eU,show decide ((n:Int)<0)=false by simp]
 refine hb hB hn fun M1 k1=>?_
 simp only[bB,bz]
 exact hQ M1 k1
theorem PK {B:Base} {cf:ak} (hf:EW B cf) : EW B fun args M Q=>∃ a0 a1,args=[a0,a1]∧oQ cf a0 a1 M Q:=by
 intro M n Q hB hn hQ
 exact⟨_,_,rfl,hf hB hn hQ⟩
end Go.Ab.Hw
set_option maxRecDepth 100000
namespace Go.Ab.Dk
open Go Go.Ab
end Go.Ab.Dk
namespace Go.Ab.Crw
open Go Go.Ab
end Go.Ab.Crw
namespace Go.Ab
open Go Go.RowKit
section
variable {P:Program} {ρ:Ren} {M:RM} {w w' : World}
theorem NV {base:Base} {A:AW} (hw0:bV P base ρ A w) (hbl:Below w.heap.size w w') (hbase:base≤w.heap.size) {x:iA} {ob:Obj} {i:fJ} (hge:w.heap.size≤i.cb) (hob:w'.heap[i.cb]?=some ob)
  (hrel:iG P (ρ.add A.next i) i x ob) : bV P base (ρ.add A.next i) (A.push x) w'∧Step base A.next ρ w (ρ.add A.next i) w':=by
 have hb:ρ A.next=none:=hw0.fresh (Nat.le_refl _)
 have hw:=uW hw0 x
 have hx:(A.push x).heap.get A.next=some x:=by simp[AW.push,Tree.bi]
 have hlt:A.next<(A.push x).next:=by simp[AW.push]
 have hle:=Ren.sM (i:=i) hb
 have hadd:∀ c j,ρ.add A.next i c=some j→(c=A.next∧j=i)∨(c≠A.next∧ρ c=some j):=by
  intro c j h
  unfold Ren.add at h
  split at h
  ·cases h; exact .inl ⟨‹_›,rfl⟩
  ·exact .inr ⟨‹_›,h⟩
 have hcb:i.cb<w'.heap.size:=(Array.getElem?_eq_some_iff.1 hob).1
 refine⟨⟨?_, ?_, ?_,hw.top, ?_,base.low w _ (fun c hc=>hbl.block c (by omega)) hw.inv⟩,⟨hbl.os,hbl.tape,hbl.output,hbl.size, ?_, ?_, ?_,fun c hc=>hbl.block c (by omega)⟩⟩
 ·intro c j h
  rcases hadd c j h with⟨rfl,rfl⟩ | ⟨_,h⟩
  ·exact⟨hlt,hcb⟩
  ·have:=hw.dom c j h; have:=hbl.size; omega
 ·intro c j y h hy
  rcases hadd c j h with⟨rfl,rfl⟩ | ⟨_,h⟩
  ·rw[hx] at hy; cases hy
   exact⟨ob,hob,hrel⟩
  ·obtain⟨o,ho,hr⟩:=hw.blk c j y h hy
   exact⟨o,by rw[hbl.block j.cb (hw.dom c j h).2]; exact ho,hr.mono hle⟩
 ·intro b1 b2 i1 i2 x1 x2 h1 h2 g1 g2 he
  rcases hadd _ _ h1 with⟨e1,f1⟩ | ⟨_,k1⟩ <;> rcases hadd _ _ h2 with⟨e2,f2⟩ | ⟨_,k2⟩
  ·rw[e1,e2]
  ·have:=(hw.dom _ _ k2).2; subst f1; omega
  ·have:=(hw.dom _ _ k1).2; subst f2; omega
  ·exact hw.sep _ _ _ _ _ _ k1 k2 g1 g2 he
 ·intro c j y h hy
  rcases hadd c j h with⟨rfl,rfl⟩ | ⟨_,h⟩
  ·omega
  ·exact hw.lo c j y h hy
 ·intro c hc _; exact hbl.block c hc
 ·intro c hc; unfold Ren.add; rw[if_neg (by omega)]
 ·intro c j h
  rcases hadd c j h with⟨rfl,rfl⟩ | ⟨_,h⟩
  ·exact .inr hge
  ·exact .inl ⟨c,j,h,rfl⟩
theorem fe.SS {f:FuncId} {args:List AV} {T n:Nat} {cs:List AV} {Q:ah} (hP:Fa P f) (hsz:aN P T=some 1) (h1:cs.all oneCell=true) (hlen:cs.length=n)
  (h:∀ (ρ:Ren) (w:World) (us:List Value),aI ρ args us→bP P ρ M w→Calls P f ⟨us⟩ w fun e w'=>∃ v xs,e=.returned v∧w'.ownsRow w.heap.size T 1 v n xs∧(∀ ρ',aI ρ' cs xs)∧Below w.heap.size w w')
  (hQ:∀ v M',Own M' M.next T 1 v cs n→ae [] M M'→Q v M') : fe P f args M Q:=by
 refine⟨hP,fun ρ w us hargs hw=>(h ρ w us hargs hw).mono fun e w' hR=>?_⟩
 obtain⟨v,xs,rfl,⟨hxl,hrow⟩,hrel,hbl⟩:=hR
 rcases hrow with⟨rfl,h0⟩ | ⟨g,cap,cur,rfl,hge,hg,r1,r2,r3,r4⟩
 ·have:cs=[]:=List.length_eq_zero_iff.1 (by omega)
  subst this
  have hn:n=0:=h0
  subst hn
  exact⟨_,aA,M,ρ,rfl,After.below hw hbl,.sc _ rfl,hQ _ _ .nil (ae.refl _ _)⟩
 ·obtain⟨A,hA⟩:=hw
  obtain⟨tr,htr⟩:=jf cs .leaf 0 h1
  obtain⟨_,hget⟩:=eY _ _ _ htr
  obtain⟨_,hcell⟩:=uX htr
  have hblk:iG P (ρ.add A.next ⟨g,0,cap,1⟩) ⟨g,0,cap,1⟩ (.row n tr [] true T 0) (.cells cur T (0,0)):=by
   refine⟨cur,(0,0),rfl,⟨by show 0 + n≤_; omega,fun k x hx=>?_,fun k _ _=>by simp,fun h=>(by cases h),fun _=>⟨Nat.one_pos,by show cur.size=0 + cap * 1; omega,hsz⟩,rfl⟩⟩
   obtain⟨hk1,hk2⟩:=jM hx
   rw[hget,if_pos (by omega),Nat.sub_zero] at hk2
   obtain⟨v,hv,hvr⟩:=(hrel (ρ.add A.next ⟨g,0,cap,1⟩)).get hk2
   refine⟨v, ?_,hvr⟩
   show cur[0 + k]?=some v
   rw[Nat.zero_add,← Array.getElem?_toList]
   rw[← r4,Nat.mul_one,List.getElem?_take_of_lt (by omega)] at hv
   exact hv
  obtain⟨q1,q2⟩:=NV hA.rel hbl (Nat.le_trans (show M.base.n≤M.lo from Nat.le_refl _) hA.size) (i:=⟨g,0,cap,1⟩) hge hg hblk
  obtain⟨k1,k2,k3⟩:=RM.wC hA (x:=.row cs true T 0) (y:=.row n tr [] true T 0) ⟨hlen,rfl,rfl,rfl,fun k v hk=>by rw[← hlen]; exact hcell k v hk⟩
  have hnx:=hA.next
  refine⟨_,.slc M.next 0 n (.op 1),M.push (.row cs true T 0),_,rfl,iC hA q2 q1 k1 k2 (by simp[AW.push]) k3, ?_,hQ _ _ (.op M.next n cs (Nat.le_refl _) (by simp[RM.push]) (RM.lh _) (by omega)) ((ae.refl _ _).push _)⟩
  have:=ag.jH (ρ:=ρ.add A.next ⟨g,0,cap,1⟩) M.next 0 n ⟨g,0,cap,1⟩ (by rw[← hnx]; simp[Ren.add]) (by show 0 + n≤cap; omega)
  simpa using this
end
end Go.Ab
set_option maxRecDepth 10000
namespace Go.Ab.Hw
open Go Go.Ab Go.Ab.Sm
theorem JP {T8:Nat} : vK fun args M Q=>∃ a0,args=[a0]∧vT T8 a0 M Q:=by
 intro M s Q hl hQ
 refine⟨_,rfl, ?_⟩
 unfold vT
 simp only[bX,aU,gD]
 have hk1:ae [] M (M.push (.row (BY.row s) true T8 0)):=(ae.refl _ _).push _
 have hr1:Rw BY (M.push (.row (BY.row s) true T8 0)) M.next true T8 s:=Rw.new M s
 generalize M.push (.row (BY.row s) true T8 0)=M1 at *
 refine di (fun m ys M3=>∃ i:Nat,m=s.length - i∧ys=[N .i64 i]∧i≤s.length∧Rw BY M3 M.next true T8 (upTo bJ i s)∧ae [] M M3) _
  ⟨0,rfl,rfl,Nat.zero_le _,by rw[Gc]; exact hr1,hk1⟩ ?_
 rintro next m ys M3 hnext ⟨i,rfl,rfl,hi,hR,hK⟩
 simp only[go_sem]
 refine⟨fun hlt=>?_,fun hge=>?_⟩
 ·have hlt:i<s.length:=by simpa using hlt
  have hlen:i<(upTo bJ i s).length:=by rw[CW]; exact hlt
  have hg:=Cz bJ hlt
  have hc:=hR.aj hlen
  have w1:=sU (show i<9223372036854775807 by omega)
  have hge:(upTo bJ i s)[i]=s[i]:=Option.some.inj ((List.getElem?_eq_getElem hlen).symm.trans hg)
  rw[hge] at hc
  refine⟨by omega,_,hc, ?_⟩
  have same:bJ s[i]=s[i]→next [N .i64 ((i + 1:Nat) : Int)] M3:=fun h=>by
   refine hnext _ _ _ (by omega) ⟨i + 1,rfl,rfl,by omega, ?_,hK⟩
   rw[Gg bJ hlt h]
   exact hR
  have cb:=Bg s[i]
  simp only[w1]
  by_cases h1:65≤s[i].toNat
  ·have e1:((s[i].toNat:Int) ≥ 65):=by omega
   simp only[e1,decide_true,go_sem,if_true]
   refine⟨by omega,_,hc, ?_⟩
   by_cases h2:s[i].toNat≤90
   ·have e2:((s[i].toNat:Int)≤90):=by omega
    have hlow:bJ s[i]=s[i] + 32:=by rw[bJ,if_pos ⟨h1,h2⟩]
    have hn:(bJ s[i]).toNat=s[i].toNat + 32:=by
     rw[hlow,UInt8.toNat_add]
     show(s[i].toNat + 32) % 256=_
     omega
    have wv:N IntKind.u8 (IntKind.u8.wrap ((s[i].toNat:Int) + 32))=By (bJ s[i]):=by
     rw[By,hn]
     congr 1
     rw[jl (by omega) (by omega)]; omega
    obtain⟨hs,hR'⟩:=hR.Hg hlen (bJ s[i])
    rw[Cy bJ hlt] at hs hR'
    simp only[e2,decide_true,go_sem]
    refine⟨by omega,_,hc, ?_⟩
    simp only[go_sem]
    refine⟨by omega,_,(congrArg (fun x=>M3.stores M.next i [x]) wv).trans hs, ?_⟩
    exact hnext _ _ _ (by omega) ⟨i + 1,rfl,rfl,by omega,hR',hK.put _ (.inl (Nat.le_refl _))⟩
   ·have e2:¬ ((s[i].toNat:Int)≤90):=by omega
    simp only[e2,decide_false,go_sem]
    exact same (by rw[bJ,if_neg (by omega)])
  ·have e1:¬ ((s[i].toNat:Int) ≥ 65):=by omega
   simp only[e1,decide_false,go_sem]
   exact same (by rw[bJ,if_neg (by omega)])
 ·have:i=s.length:=by simp at hge; omega
  subst this
  rw[I4] at hR
  have:=hR.sl (cap:=.op 1)
  rw[List.length_map] at this
  rw[Sl.str this]
  exact hQ M3 hK
end Go.Ab.Hw
namespace Go.Ab.Hw
open Go Go.Ab
theorem CB (t:Str) : ∀ {s a r:Str},crlf s=some (a,r)→crlf (s++t)=some (a,r++t)
 | [],a,r,h=>by simp[crlf] at h
 | [_],a,r,h=>by simp[crlf] at h
 | x :: y :: s,a,r,h=>by
   rw[crlf] at h
   rw[List.cons_append,List.cons_append,crlf]
   cases hc:x == 13 && y == 10
   ·rw[hc] at h
    dsimp only at h ⊢
    cases hs:crlf (y :: s) with
    | none=>rw[hs] at h; cases h
    | some p =>
      rw[hs] at h
      obtain⟨a',r'⟩:=p
      cases h
      have:=CB t hs
      rw[List.cons_append] at this
      rw[this]
   ·rw[hc] at h
    cases h; rfl
theorem Jo {t:Str} : ∀ {s a r:Str},crlf s=none→crlf (s++t)=some (a,r)→s.length≤a.length + 1
 | [],a,r,_,_=>by simp
 | [_],a,r,_,_=>by simp
 | x :: y :: s,a,r,h,k=>by
   rw[crlf] at h
   rw[List.cons_append,List.cons_append,crlf] at k
   cases hc:x == 13 && y == 10
   ·rw[hc] at h k
    dsimp only at h k
    cases hs:crlf (y :: s) with
    | some p=>rw[hs] at h; cases h
    | none =>
      cases hs2:crlf (y :: (s++t)) with
      | none=>rw[hs2] at k; cases k
      | some p =>
        rw[hs2] at k
        obtain⟨a',r'⟩:=p
        cases k
        have:=Jo (t:=t) (s:=y :: s) (a:=a') (r:=r') hs (by rw[List.cons_append]; exact hs2)
        simp at this ⊢
        omega
   ·rw[hc] at h; cases h
theorem pI {b more s:Str} {at' n:Nat} (h:fA b at'=.ok (s,n)) : fA (b++more) at'=.ok (s,n):=by
 unfold fA at h ⊢
 cases hc:crlf ((b.take 2048).drop at') with
 | none=>rw[hc] at h; dsimp only at h; split at h <;> cases h
 | some p =>
   rw[hc] at h
   obtain⟨a,r⟩:=p
   cases h
   have hl:=(ni hc).2
   have hle:at'≤(b.take 2048).length:=by
    rcases Nat.lt_or_ge (b.take 2048).length at' with h | h
    ·have:((b.take 2048).drop at').length=0:=by rw[List.length_drop]; omega
     omega
    ·exact h
   have:((b++more).take 2048).drop at'=(b.take 2048).drop at'++more.take (2048 - b.length):=by
    rw[List.take_append,List.drop_append_of_le_length hle]
   rw[this,CB _ hc]
theorem Af {b more:Str} {at' e:Nat} (h:fA b at'=.error e) : e=15∨fA (b++more) at'=.error e:=by
 have h0:=h
 unfold fA at h
 cases hc:crlf ((b.take 2048).drop at') with
 | some p=>rw[hc] at h; cases h
 | none =>
   rw[hc] at h
   dsimp only at h
   cases hb:Nat.blt b.length 2048 with
   | true=>rw[hb] at h; cases h; exact .inl rfl
   | false =>
     right
     have hge:2048≤b.length:=by
      rcases Nat.lt_or_ge b.length 2048 with h | h
      ·rw[qM h] at hb; cases hb
      ·exact h
     rw[← h0]
     unfold fA
     rw[List.take_append_of_le_length hge,hb,iy (show ¬ (b++more).length<2048 by simp; omega)]
theorem FX (b more:Str) : ∀ (f at' : Nat) (l:List Hd),(∀ p,hloop b f at' l=.ok p→hloop (b++more) f at' l=.ok p)∧(∀ e,hloop b f at' l=.error e→e=15∨hloop (b++more) f at' l=.error e):=by
 intro f
 induction f with
 | zero =>
   intro at' l
   refine⟨fun p h=>?_,fun e h=>?_⟩
   ·rw[fq] at h ⊢
    cases hl:fA b at' with
    | error e=>rw[hl] at h; cases h
    | ok q =>
      obtain⟨s,n⟩:=q
      rw[pI hl]
      rw[hl] at h
      exact h
   ·rw[fq] at h
    rw[fq]
    cases hl:fA b at' with
    | error e' =>
      rw[hl] at h
      cases h
      rcases Af (more:=more) hl with h | h
      ·exact .inl h
      ·right; rw[h]
    | ok q =>
      obtain⟨s,n⟩:=q
      rw[pI hl]
      rw[hl] at h
      exact .inr h
 | succ f ih =>
   intro at' l
   refine⟨fun p h=>?_,fun e h=>?_⟩
   ·rw[fq] at h ⊢
    cases hl:fA b at' with
    | error e=>rw[hl] at h; cases h
    | ok q =>
      obtain⟨s,n⟩:=q
      rw[pI hl]
      rw[hl] at h
      dsimp only at h ⊢
      cases s with
      | nil=>exact h
      | cons x xs =>
        dsimp only at h ⊢
        cases hh:fw (x :: xs) with
        | none=>rw[hh] at h; cases h
        | some d=>rw[hh] at h; exact(ih n _).1 p h
   ·rw[fq] at h
    rw[fq]
    cases hl:fA b at' with
    | error e' =>
      rw[hl] at h
      cases h
      rcases Af (more:=more) hl with h | h
      ·exact .inl h
      ·right; rw[h]
    | ok q =>
      obtain⟨s,n⟩:=q
      rw[pI hl]
      rw[hl] at h
      dsimp only at h ⊢
      cases s with
      | nil=>cases h
      | cons x xs =>
        dsimp only at h ⊢
        cases hh:fw (x :: xs) with
        | none=>rw[hh] at h; exact .inr h
        | some d=>rw[hh] at h; exact(ih n _).2 e h
theorem Gh (p:Str→Bool) (b more:Str) : (∀ q,headD p b=.ok q→headD p (b++more)=.ok q)∧(∀ e,headD p b=.error e→e=15∨headD p (b++more)=.error e):=by
 refine⟨fun q h=>?_,fun e h=>?_⟩
 ·unfold headD at h ⊢
  cases hl:fA b 0 with
  | error e=>rw[hl] at h; cases h
  | ok x =>
    obtain⟨s,n⟩:=x
    rw[pI hl]
    rw[hl] at h
    dsimp only at h ⊢
    cases hp:p s with
    | false=>rw[hp] at h; cases h
    | true =>
      rw[hp] at h
      dsimp only at h ⊢
      cases hh:hloop b 32 n [] with
      | error e=>rw[hh] at h; cases h
      | ok y=>rw[(FX b more 32 n []).1 y hh]; rw[hh] at h; exact h
 ·unfold headD at h ⊢
  cases hl:fA b 0 with
  | error e' =>
    rw[hl] at h
    cases h
    rcases Af (more:=more) hl with h | h
    ·exact .inl h
    ·right; rw[h]
  | ok x =>
    obtain⟨s,n⟩:=x
    rw[pI hl]
    rw[hl] at h
    dsimp only at h ⊢
    cases hp:p s with
    | false=>rw[hp] at h; exact .inr h
    | true =>
      rw[hp] at h
      dsimp only at h ⊢
      cases hh:hloop b 32 n [] with
      | ok y=>rw[hh] at h; cases h
      | error e' =>
        rw[hh] at h
        cases h
        rcases(FX b more 32 n []).2 _ hh with h | h
        ·exact .inl h
        ·right; rw[h]
theorem Gf (r more:Str) : (∀ n q,iZ r=.ok (n,q)→iZ (r++more)=.ok (n,q++more))∧(∀ e,iZ r=.error e→e=15∨iZ (r++more)=.error e):=by
 unfold iZ
 cases hc:crlf r with
 | some p =>
   obtain⟨a,q⟩:=p
   rw[CB more hc]
   dsimp only
   cases jo a with
   | true=>exact⟨fun n q' h=>(by cases h; rfl),fun e h=>by cases h⟩
   | false=>exact⟨fun n q' h=>(by cases h),fun e h=>.inr h⟩
 | none =>
   dsimp only
   refine⟨fun n q h=>(by split at h <;> cases h),fun e h=>?_⟩
   cases hb:Nat.blt 10 r.length with
   | false=>rw[hb] at h; cases h; exact .inl rfl
   | true =>
     rw[hb] at h
     cases h
     right
     have hgt:10<r.length:=by rw[Nat.blt_eq] at hb; exact hb
     cases hc2:crlf (r++more) with
     | none=>rw[qM (show 10<(r++more).length by simp; omega)]
     | some p =>
       obtain⟨a,q⟩:=p
       have hf:=Jo hc hc2
       have:jo a=false:=by
        cases ho:jo a
        ·rfl
        ·unfold jo fO at ho
         simp only[Bool.and_eq_true,decide_eq_true_eq] at ho
         omega
       dsimp only
       rw[this]
theorem zW (more:Str) : ∀ (f:Nat) (r out:Str),r.length<f→(∀ o q,bG f r out=.ok (o,q)→∀ g,(r++more).length<g→bG g (r++more) out=.ok (o,q++more))∧(∀ e,bG f r out=.error e→e=15∨∀ g,(r++more).length<g→bG g (r++more) out=.error e)
 | 0,r,out,h=>absurd h (by omega)
 | f + 1,r,out,hf=>by
   rw[bG]
   cases hs:iZ r with
   | error e =>
     refine⟨fun o q h=>(by cases h),fun e' h=>?_⟩
     cases h
     rcases(Gf r more).2 _ hs with h | h
     ·exact .inl h
     ·right
      intro g hg
      obtain⟨g',rfl⟩ : ∃ g',g=g' + 1:=⟨g - 1,by omega⟩
      rw[bG,h]
   | ok p =>
     obtain⟨n,r1⟩:=p
     have hlen:=FC hs
     have hx:=(Gf r more).1 n r1 hs
     dsimp only
     have un:∀ g,(r++more).length<g→∃ g',g=g' + 1∧(r++more).length≤g':=fun g hg=>⟨g - 1,by omega,by omega⟩
     cases h1:Nat.blt (16384 - out.length) n with
     | true =>
       refine⟨fun o q h=>(by cases h),fun e' h=>.inr fun g hg=>?_⟩
       obtain⟨g',rfl,_⟩:=un g hg
       rw[bG,hx]
       dsimp only
       rw[h1]; exact h
     | false =>
       dsimp only
       cases h2:Nat.blt r1.length (n + 2) with
       | true=>exact⟨fun o q h=>(by cases h),fun e' h=>by cases h; exact .inl rfl⟩
       | false =>
         dsimp only
         have hge:n + 2≤r1.length:=by
          rcases Nat.lt_or_ge r1.length (n + 2) with h | h
          ·rw[qM h] at h2; cases h2
          ·exact h
         have h2' : Nat.blt (r1++more).length (n + 2)=false:=iy (by simp; omega)
         have hd:(r1++more).drop n=r1.drop n++more:=List.drop_append_of_le_length (by omega)
         have hd2:((r1++more).drop n).take 2=(r1.drop n).take 2:=by rw[hd,List.take_append_of_le_length (by simp; omega)]
         cases h3:(r1.drop n).take 2 == [13,10] with
         | false =>
           refine⟨fun o q h=>(by cases h),fun e' h=>.inr fun g hg=>?_⟩
           obtain⟨g',rfl,_⟩:=un g hg
           rw[bG,hx]
           dsimp only
           rw[h1]; dsimp only
           rw[h2']; dsimp only
           rw[hd2,h3]; exact h
         | true =>
           dsimp only
           cases h4:Nat.beq n 0 with
           | true =>
             have hn:n=0:=Nat.eq_of_beq_eq_true h4
             refine⟨fun o q h g hg=>?_,fun e' h=>by cases h⟩
             obtain⟨g',rfl,_⟩:=un g hg
             cases h
             rw[bG,hx]
             dsimp only
             rw[h1]; dsimp only
             rw[h2']; dsimp only
             rw[hd2,h3]; dsimp only
             rw[h4,List.drop_append_of_le_length (by omega)]
           | false =>
             dsimp only
             have hd3:(r1++more).drop (n + 2)=r1.drop (n + 2)++more:=List.drop_append_of_le_length hge
             have ht:(r1++more).take n=r1.take n:=List.take_append_of_le_length (by omega)
             have ih:=zW more f (r1.drop (n + 2)) (out++r1.take n) (by simp; omega)
             have step:∀ g',bG (g' + 1) (r++more) out=bG g' (r1.drop (n + 2)++more) (out++r1.take n):=fun g'=>by
              rw[bG,hx]
              dsimp only
              rw[h1]; dsimp only
              rw[h2']; dsimp only
              rw[hd2,h3]; dsimp only
              rw[h4,hd3,ht]
             refine⟨fun o q h g hg=>?_,fun e' h=>?_⟩
             ·obtain⟨g',rfl,hg'⟩:=un g hg
              rw[step]
              exact ih.1 o q h g' (by simp at hg' ⊢; omega)
             ·rcases ih.2 e' h with h | h
              ·exact .inl h
              ·right
               intro g hg
               obtain⟨g',rfl,hg'⟩:=un g hg
               rw[step]
               exact h g' (by simp at hg' ⊢; omega)
theorem FN (r more:Str) (l:List Hd) : (∀ o q,jI r l=.ok (o,q)→jI (r++more) l=.ok (o,q++more))∧(∀ e,jI r l=.error e→e=15∨jI (r++more) l=.error e):=by
 unfold jI
 cases bu l mR with
 | cons x xs =>
   cases xs with
   | cons y ys=>exact⟨fun o q h=>(by cases h),fun e h=>.inr h⟩
   | nil =>
     dsimp only
     cases low x == qi with
     | false=>exact⟨fun o q h=>(by cases h),fun e h=>.inr h⟩
     | true =>
       dsimp only
       cases bu l mq with
       | cons y ys=>exact⟨fun o q h=>(by cases h),fun e h=>.inr h⟩
       | nil =>
         have ih:=zW more (r.length + 1) r [] (by omega)
         refine⟨fun o q h=>ih.1 o q h _ (by omega),fun e h=>?_⟩
         rcases ih.2 e h with h | h
         ·exact .inl h
         ·exact .inr (h _ (by omega))
 | nil =>
   dsimp only
   cases bu l mq with
   | nil=>exact⟨fun o q h=>(by cases h; rfl),fun e h=>by cases h⟩
   | cons v vs =>
     cases vs with
     | cons y ys=>exact⟨fun o q h=>(by cases h),fun e h=>.inr h⟩
     | nil =>
       dsimp only
       cases qY v with
       | false=>exact⟨fun o q h=>(by cases h),fun e h=>.inr h⟩
       | true =>
         dsimp only
         cases Nat.blt 16384 (gy v) with
         | true=>exact⟨fun o q h=>(by cases h),fun e h=>.inr h⟩
         | false =>
           dsimp only
           cases h2:Nat.blt r.length (gy v) with
           | true=>exact⟨fun o q h=>(by cases h),fun e h=>by cases h; exact .inl rfl⟩
           | false =>
             have hge:gy v≤r.length:=by
              rcases Nat.lt_or_ge r.length (gy v) with h | h
              ·rw[qM h] at h2; cases h2
              ·exact h
             rw[iy (show ¬ (r++more).length<gy v by simp; omega)]
             refine⟨fun o q h=>?_,fun e h=>by cases h⟩
             cases h
             rw[List.take_append_of_le_length hge,List.drop_append_of_le_length hge]
theorem IG {b s:Str} {at' n:Nat} (h:fA b at'=.ok (s,n)) : n≤b.length∧n=at' + s.length + 2:=by
 unfold fA at h
 cases hc:crlf ((b.take 2048).drop at') with
 | none=>rw[hc] at h; dsimp only at h; split at h <;> cases h
 | some p =>
   rw[hc] at h
   obtain⟨a,r⟩:=p
   cases h
   have hl:=(ni hc).2
   simp at hl
   exact⟨by show at' + a.length + 2≤_; omega,rfl⟩
theorem Ps (b:Str) : ∀ (f at' : Nat) (l l' : List Hd) (n:Nat),hloop b f at' l=.ok (l',n)→n≤b.length:=by
 intro f
 induction f with
 | zero =>
   intro at' l l' n h
   rw[fq] at h
   split at h
   ·cases h
   ·rename_i hl
    split at h
    ·cases h; exact(IG hl).1
    ·cases h
 | succ f ih =>
   intro at' l l' n h
   rw[fq] at h
   split at h
   ·cases h
   ·rename_i hl
    split at h
    ·cases h; exact(IG hl).1
    ·dsimp only at h
     split at h
     ·cases h
     ·exact ih _ _ _ _ h
theorem Qi {p:Str→Bool} {b s:Str} {l:List Hd} {n:Nat} (h:headD p b=.ok (s,l,n)) : n≤b.length:=by
 unfold headD at h
 split at h
 ·cases h
 ·split at h
  ·cases h
  ·split at h
   ·cases h
   ·rename_i hh
    cases h
    exact Ps b _ _ _ _ _ hh
theorem BL (b more:Str) : (∀ x r,eu b=.ok (x,r)→eu (b++more)=.ok (x,r++more))∧(∀ e,eu b=.error e→e=15∨eu (b++more)=.error e):=by
 unfold eu
 cases hh:headD oo b with
 | error e =>
   refine⟨fun x r h=>(by cases h),fun e' h=>?_⟩
   cases h
   rcases(Gh oo b more).2 _ hh with h | h
   ·exact .inl h
   ·right; rw[h]
 | ok q =>
   obtain⟨s,l,n⟩:=q
   rw[(Gh oo b more).1 _ hh]
   have hn:=Qi hh
   dsimp only
   rw[List.drop_append_of_le_length hn]
   cases hb:jI (b.drop n) l with
   | error e =>
     refine⟨fun x r h=>(by cases h),fun e' h=>?_⟩
     cases h
     rcases(FN (b.drop n) more l).2 _ hb with h | h
     ·exact .inl h
     ·right; rw[h]
   | ok y =>
     obtain⟨o,r⟩:=y
     rw[(FN (b.drop n) more l).1 _ _ hb]
     dsimp only
     cases iV s with
     | none=>exact⟨fun x r h=>(by cases h),fun e h=>.inr h⟩
     | some w=>exact⟨fun x r h=>(by cases h; rfl),fun e h=>by cases h⟩
end Go.Ab.Hw
namespace Go.Ab.Hw
open Go Go.Ab Go.Ab.Sm
open Go.Ab.Vl (brk)
theorem wK {p:UInt8→Bool} (h:(List.range 256).all (fun n=>p (UInt8.ofNat n))=true) (x:UInt8) : p x=true:=by
 have:=List.all_eq_true.1 h x.toNat (List.mem_range.2 x.toNat_lt)
 simpa using this
def QQ (x:UInt8) : Bool:=!qg (bJ x) || (x != 13 && x != 58 && x != 10 && x != 32)
def SH (x:UInt8) : Bool:=!mH x || (x != 13 && x != 10)
def Ou (x:UInt8) : Bool:=!jO x || (x != 13 && x != 10 && x != 32)
def RY (x:UInt8) : Bool:=!pz x || (x != 13 && x != 10 && x != 32)
theorem Nv:∀ x,QQ x=true:=wK (by decide +kernel)
theorem PP:∀ x,SH x=true:=wK (by decide +kernel)
theorem LP:∀ x,Ou x=true:=wK (by decide +kernel)
theorem PM:∀ x,RY x=true:=wK (by decide +kernel)
theorem Ju {s:Str} (h:bR s=true) {x:UInt8} (hx:x∈s) : x≠13∧x≠58∧x≠10∧x≠32:=by
 unfold bR at h
 rw[Bool.and_eq_true] at h
 have h1:=List.all_eq_true.1 h.2 (bJ x) (List.mem_map.2 ⟨x,hx,rfl⟩)
 have h2:=Nv x
 unfold QQ at h2
 rw[h1] at h2
 simpa [and_assoc] using h2
theorem Q7 {s:Str} (h:aY s=true) {x:UInt8} (hx:x∈s) : x≠13∧x≠10:=by
 unfold aY at h
 rw[Bool.and_eq_true] at h
 have h1:=List.all_eq_true.1 h.2 x hx
 have h2:=PP x
 unfold SH at h2
 rw[h1] at h2
 simpa using h2
theorem Gj {s:Str} (h:cO s=true) {x:UInt8} (hx:x∈s) : x≠13∧x≠10∧x≠32:=by
 unfold cO at h
 rw[Bool.and_eq_true] at h
 have h1:=List.all_eq_true.1 h.2 x hx
 have h2:=LP x
 unfold Ou at h2
 rw[h1] at h2
 simpa [and_assoc] using h2
theorem HV {s:Str} (h:dO s=true) {x:UInt8} (hx:x∈s) : x≠13∧x≠10∧x≠32:=by
 unfold dO at h
 rw[Bool.and_eq_true] at h
 have h1:=List.all_eq_true.1 h.2 x hx
 have h2:=PM x
 unfold RY at h2
 rw[h1] at h2
 simpa [and_assoc] using h2
theorem Rj:∀ m:Fin 16,(jZ (bJ (fC m.val)) && (kS (fC m.val) == m.val) && (fC m.val != 13))=true:=by decide +kernel
theorem Rc:∀ m:Fin 10,(fo (fC m.val) && ((fC m.val).toNat - 48 == m.val) && mH (fC m.val) && !([32,9] : Str).contains (fC m.val))=true:=by decide +kernel
theorem Ia (s:Str) (x:UInt8) : gy (s++[x])=gy s * 10 + (x.toNat - 48):=by simp[gy]
theorem Ji (s:Str) (x:UInt8) : jD (s++[x])=jD s * 16 + kS x:=by simp[jD]
theorem Ko {d:Nat} (h:d<10) : fo (fC d)=true∧(fC d).toNat - 48=d∧mH (fC d)=true∧([32,9] : Str).contains (fC d)=false:=by
 have:=Rc ⟨d,h⟩
 simp only[Bool.and_eq_true,beq_iff_eq,Bool.not_eq_true'] at this
 exact⟨this.1.1.1,this.1.1.2,this.1.2,this.2⟩
theorem KI {d:Nat} (h:d<16) : jZ (bJ (fC d))=true∧kS (fC d)=d∧fC d≠13:=by
 have:=Rj ⟨d,h⟩
 simp only[Bool.and_eq_true,beq_iff_eq,bne_iff_ne] at this
 exact⟨this.1.1,this.1.2,this.2⟩
structure QB (n:Nat) (s:Str) : Prop where
 val:gy s=n
 dig:s.all fo=true
 vals:s.all mH=true
 bl:∀ x∈s,([32,9] : Str).contains x=false
 pos:1≤s.length
 len:∀ k,1≤k→n<10 ^ k→s.length≤k
theorem Qr:∀ (f n:Nat),n<10 ^ f→1≤f→QB n (iP 10 f n):=by
 intro f
 induction f with
 | zero=>intro n _ h; omega
 | succ f ih =>
   intro n hn _
   by_cases h:n<10
   ·rw[l8 h]
    obtain⟨h1,h2,h3,h4⟩:=Ko h
    refine⟨?_,by simp[h1],by simp[h3],fun x hx=>?_,by simp,fun k hk _=>by simpa using hk⟩
    ·rw[show[fC n]=[]++[fC n] from rfl,Ia]
     simpa [gy] using h2
    ·have:x=fC n:=by simpa using hx
     rw[this]; exact h4
   ·rw[uh h]
    have hf:1≤f:=by
     rcases Nat.eq_zero_or_pos f with rfl | h'
     ·simp at hn; omega
     ·exact h'
    have i:=ih (n / 10) (by rw[Nat.pow_succ] at hn; exact Nat.div_lt_of_lt_mul (by rw[Nat.mul_comm]; exact hn)) hf
    obtain⟨h1,h2,h3,h4⟩:=Ko (Nat.mod_lt n (show 0<10 by decide))
    refine⟨?_,by rw[List.all_append,i.dig]; simp[h1],by rw[List.all_append,i.vals]; simp[h3],fun x hx=>?_,by simp,fun k hk hk2=>?_⟩
    ·rw[Ia,i.val,h2]; omega
    ·rcases List.mem_append.1 hx with hx | hx
     ·exact i.bl x hx
     ·have:x=fC (n % 10):=by simpa using hx
      rw[this]; exact h4
    ·rcases Nat.lt_or_ge k 2 with h' | h'
     ·have:k=1:=by omega
      subst this
      simp at hk2; omega
     ·obtain⟨j,rfl⟩ : ∃ j,k=j + 1:=⟨k - 1,by omega⟩
      have:=i.len j (by omega) (by rw[Nat.pow_succ] at hk2; exact Nat.div_lt_of_lt_mul (by rw[Nat.mul_comm]; exact hk2))
      simp; omega
structure QR (n:Nat) (s:Str) : Prop where
 val:jD s=n
 dig:(low s).all jZ=true
 SK:∀ x∈s,x≠13
 pos:1≤s.length
 len:∀ k,1≤k→n<16 ^ k→s.length≤k
theorem RH (a b:Str) : low (a++b)=low a++low b:=by simp[low]
theorem O1:∀ (f n:Nat),n<16 ^ f→1≤f→QR n (iP 16 f n):=by
 intro f
 induction f with
 | zero=>intro n _ h; omega
 | succ f ih =>
   intro n hn _
   by_cases h:n<16
   ·rw[l8 h]
    obtain⟨h1,h2,h3⟩:=KI h
    refine⟨?_,by simp[low,h1],fun x hx=>?_,by simp,fun k hk _=>by simpa using hk⟩
    ·rw[show[fC n]=[]++[fC n] from rfl,Ji]
     simpa [jD] using h2
    ·have:x=fC n:=by simpa using hx
     rw[this]; exact h3
   ·rw[uh h]
    have hf:1≤f:=by
     rcases Nat.eq_zero_or_pos f with rfl | h'
     ·simp at hn; omega
     ·exact h'
    have i:=ih (n / 16) (by rw[Nat.pow_succ] at hn; exact Nat.div_lt_of_lt_mul (by rw[Nat.mul_comm]; exact hn)) hf
    obtain⟨h1,h2,h3⟩:=KI (Nat.mod_lt n (show 0<16 by decide))
    refine⟨?_,by rw[RH,List.all_append,i.dig]; simp[low,h1],fun x hx=>?_,by simp,fun k hk hk2=>?_⟩
    ·rw[Ji,i.val,h2]; omega
    ·rcases List.mem_append.1 hx with hx | hx
     ·exact i.SK x hx
     ·have:x=fC (n % 16):=by simpa using hx
      rw[this]; exact h3
    ·rcases Nat.lt_or_ge k 2 with h' | h'
     ·have:k=1:=by omega
      subst this
      simp at hk2; omega
     ·obtain⟨j,rfl⟩ : ∃ j,k=j + 1:=⟨k - 1,by omega⟩
      have:=i.len j (by omega) (by rw[Nat.pow_succ] at hk2; exact Nat.div_lt_of_lt_mul (by rw[Nat.mul_comm]; exact hk2))
      simp; omega
theorem Kw {n:Nat} (h:n≤100000) : QB n (eZ n):=Qr 20 n (Nat.lt_of_le_of_lt h (by decide)) (by decide)
theorem Sk {n:Nat} (h:n≤100000) : QR n (eT n):=O1 20 n (Nat.lt_of_le_of_lt h (by decide)) (by decide)
theorem LF (s:Str) : trimB (32 :: s)=trimB s:=by
 unfold trimB Lib.trimS Lib.trimRightS
 rw[List.reverse_cons,List.dropWhile_append]
 cases h:(s.reverse.dropWhile (([32,9] : Str).contains ·)) with
 | nil =>
   rw[if_pos (by simp)]
   rfl
 | cons x t =>
   rw[if_neg (by simp)]
   rw[List.reverse_append]
   rfl
theorem Pj {s:Str} (h:∀ x∈s,([32,9] : Str).contains x=false) : trimB s=s:=by
 have dw:∀ l:Str,(∀ x∈l,([32,9] : Str).contains x=false)→l.dropWhile (([32,9] : Str).contains ·)=l:=fun l hl=>by
  cases l with
  | nil=>rfl
  | cons x t=>rw[List.dropWhile_cons,hl x (by simp),if_neg (by decide)]
 unfold trimB Lib.trimS Lib.trimRightS Lib.trimLeftS
 rw[dw s.reverse (fun x hx=>h x (List.mem_reverse.1 hx)),List.reverse_reverse,dw s h]
theorem EH {x:UInt8} {r:Str} : ∀ {s:Str},x ∉ s→brk x (s++x :: r)=some (s,r)
 | [],_=>by simp[brk]
 | c :: t,h=>by
   have hc:c≠x:=fun e=>h (by simp[e])
   have ht:x ∉ t:=fun e=>h (by simp[e])
   rw[List.cons_append,brk,if_neg hc,EH ht]
   rfl
theorem AY {R:Str} : ∀ {s:Str},(13:UInt8) ∉ s→crlf (s++13 :: 10 :: R)=some (s,R)
 | [],_=>rfl
 | [c],h=>by
   have hc:c≠13:=fun e=>h (by simp[e])
   have:(c == 13 && (13:UInt8) == 10)=false:=by simp
   rw[List.cons_append,List.nil_append,crlf,this]
   rfl
 | c :: d :: t,h=>by
   have hc:(c == 13)=false:=beq_eq_false_iff_ne.2 fun e=>h (by simp[e])
   rw[List.cons_append,List.cons_append,crlf,hc,Bool.false_and]
   have:=AY (R:=R) (s:=d :: t) (fun e=>h (List.mem_cons_of_mem _ e))
   rw[List.cons_append] at this
   rw[this]
theorem wZ {P s R:Str} (h13:(13:UInt8) ∉ s) (hl:P.length + s.length + 2≤2048) : fA (P++(s++13 :: 10 :: R)) P.length=.ok (s,P.length + s.length + 2):=by
 unfold fA
 have:((P++(s++13 :: 10 :: R)).take 2048).drop P.length=s++13 :: 10 :: R.take (2048 - P.length - s.length - 2):=by
  rw[List.take_append,List.take_of_length_le (by omega),List.drop_left' rfl,List.take_append,List.take_of_length_le (by omega)]
  obtain⟨k,hk⟩ : ∃ k,2048 - P.length - s.length=k + 2:=⟨2048 - P.length - s.length - 2,by omega⟩
  rw[hk]
  rfl
 rw[this,AY h13]
theorem Hr {n v:Str} (hn:bR n=true) (hv:aY v=true) : fw (n++58 :: 32 :: v)=some (n,v):=by
 unfold fw
 rw[EH (fun h=>(Ju hn h).2.1 rfl)]
 dsimp only
 have:trimB v=v:=by
  unfold aY at hv
  rw[Bool.and_eq_true] at hv
  exact(eq_of_beq hv.1).symm
 rw[LF,this,hn,hv]
 rfl
theorem IC (h:Hd) (R:Str) : dN h++R=(h.1++58 :: 32 :: h.2)++13 :: 10 :: R:=by simp[dN]
theorem DY:∀ (L:List Hd) (P R:Str) (acc:List Hd) (f:Nat),(∀ h∈L,bR h.1=true∧aY h.2=true)→L.length≤f→P.length + (L.flatMap dN).length + 2≤2048 →
  hloop (P++(L.flatMap dN++13 :: 10 :: R)) f P.length acc=.ok (acc++L,P.length + (L.flatMap dN).length + 2)
 | [],P,R,acc,f,_,_,hl=>by
   rw[fq,List.flatMap_nil]
   have:=wZ (P:=P) (s:=[]) (R:=R) (by simp) (by simpa using hl)
   rw[this]
   simp
 | h :: L,P,R,acc,f,hg,hf,hl=>by
   obtain⟨hn,hv⟩:=hg h (by simp)
   have e:(h :: L).flatMap dN++13 :: 10 :: R=(h.1++58 :: 32 :: h.2)++13 :: 10 :: (L.flatMap dN++13 :: 10 :: R):=by
    rw[List.flatMap_cons,List.append_assoc,IC]
   have ll:(dN h).length=(h.1++58 :: 32 :: h.2).length + 2:=by simp[dN]; omega
   have l2:((h :: L).flatMap dN).length=(dN h).length + (L.flatMap dN).length:=by simp
   have h13:(13:UInt8) ∉ h.1++58 :: 32 :: h.2:=fun hm=>by
    rcases List.mem_append.1 hm with hm | hm
    ·exact(Ju hn hm).1 rfl
    ·rcases List.mem_cons.1 hm with hm | hm
     ·exact absurd hm (by decide)
     ·rcases List.mem_cons.1 hm with hm | hm
      ·exact absurd hm (by decide)
      ·exact(Q7 hv hm).1 rfl
   rw[fq,e,wZ h13 (by omega)]
   dsimp only
   obtain⟨f',rfl⟩ : ∃ f',f=f' + 1:=⟨f - 1,by simp at hf; omega⟩
   have hd:=Hr hn hv
   obtain⟨x,xs,hx⟩ : ∃ x xs,h.1++58 :: 32 :: h.2=x :: xs:=by
    cases h.1 with
    | nil=>exact⟨_,_,rfl⟩
    | cons a b=>exact⟨_,_,rfl⟩
   have ih:=DY L (P++dN h) R (acc++[h]) f' (fun y hy=>hg y (by simp[hy])) (by simp at hf; omega) (by simp only[List.length_append]; omega)
   rw[List.append_assoc,IC] at ih
   rw[hx] at hd ll ih ⊢
   dsimp only
   rw[hd]
   dsimp only
   rw[List.length_append,ll] at ih
   rw[show P.length + (x :: xs).length + 2=P.length + ((x :: xs).length + 2) by omega,ih,l2,ll]
   simp only[List.append_assoc,List.cons_append,List.nil_append,Nat.add_assoc]
theorem MM {p:Str→Bool} {first R:Str} {L:List Hd} (h13:(13:UInt8) ∉ first) (hp:p first=true) (hg:∀ h∈L,bR h.1=true∧aY h.2=true) (hn:L.length≤32)
  (hl:first.length + 2 + (L.flatMap dN).length + 2≤2048) : headD p (first++13 :: 10 :: (L.flatMap dN++13 :: 10 :: R))=.ok (first,L,first.length + 2 + (L.flatMap dN).length + 2):=by
 unfold headD
 have h1:=wZ (P:=[]) (s:=first) (R:=L.flatMap dN++13 :: 10 :: R) h13 (by simp; omega)
 rw[List.nil_append,List.length_nil,Nat.zero_add] at h1
 rw[h1]
 dsimp only
 rw[hp]
 dsimp only
 have h2:=DY L (first++[13,10]) R [] 32 hg hn (by rw[List.length_append]; exact hl)
 have e:first++[13,10]++(L.flatMap dN++13 :: 10 :: R)=first++13 :: 10 :: (L.flatMap dN++13 :: 10 :: R):=by simp
 have e2:(first++[13,10]).length=first.length + 2:=by simp
 rw[e,e2] at h2
 rw[h2,List.nil_append]
theorem LX {x:UInt8} : ∀ {s:Str},x ∉ s→words x s=[s]:=fun {s} h=>by
 rw[qp]
 cases hb:brk x s with
 | none=>rfl
 | some p =>
   obtain⟨a,b⟩:=p
   have:=uF hb
   have h0:s.count x=0:=List.count_eq_zero.2 h
   omega
theorem Gd {x:UInt8} {s r:Str} (h:x ∉ s) : words x (s++x :: r)=s :: words x r:=by
 rw[qp,EH h]
theorem yR {m p:Str} (h:jw m p=true) : iV (iq m p)=some (m,p):=by
 unfold jw at h
 rw[Bool.and_eq_true] at h
 have e:iq m p=m++32 :: (p++32 :: Jq):=by simp[iq]
 unfold iV
 rw[e,Gd (fun hx=>(Gj h.1 hx).2.2 rfl),Gd (fun hx=>(HV h.2 hx).2.2 rfl),LX (by decide)]
 dsimp only
 have:rT m p Jq=true:=by unfold rT; rw[h.1,h.2]; rfl
 rw[this]
theorem Nc {m p:Str} (h:jw m p=true) : (13:UInt8) ∉ iq m p:=by
 unfold jw at h
 rw[Bool.and_eq_true] at h
 intro hx
 have e:iq m p=m++32 :: (p++32 :: Jq):=by simp[iq]
 rw[e] at hx
 rcases List.mem_append.1 hx with hx | hx
 ·exact(Gj h.1 hx).1 rfl
 ·rcases List.mem_cons.1 hx with hx | hx
  ·exact absurd hx (by decide)
  ·rcases List.mem_append.1 hx with hx | hx
   ·exact(HV h.2 hx).1 rfl
   ·revert hx; decide
theorem zY {m p R:Str} {L:List Hd} (h:jw m p=true) (hg:∀ h∈L,bR h.1=true∧aY h.2=true) (hn:L.length≤32)
  (hl:(iq m p).length + 2 + (L.flatMap dN).length + 2≤2048) {out r:Str} (hb:jI R L=.ok (out,r)) : eu (iq m p++13 :: 10 :: (L.flatMap dN++13 :: 10 :: R))=.ok ((m,p,L,out),r):=by
 unfold eu
 have hp:oo (iq m p)=true:=by unfold oo; rw[yR h]; rfl
 rw[MM (Nc h) hp hg hn hl]
 dsimp only
 have e:iq m p++13 :: 10 :: (L.flatMap dN++13 :: 10 :: R)=(iq m p++[13,10]++L.flatMap dN++[13,10])++R:=by simp
 rw[e,List.drop_left' (by simp; omega),hb]
 dsimp only
 rw[yR h]
theorem Et (a b:List Hd) (n:Str) : bu (a++b) n=bu a n++bu b n:=by simp[bu]
theorem qa {l:List Hd} {n:Str} (h:∀ x∈l,low x.1≠low n) : bu l n=[]:=by
 unfold bu
 have:l.filter (isNamed n)=[]:=List.filter_eq_nil_iff.2 (fun x hx hh=>h x hx (eq_of_beq hh))
 rw[this]
 rfl
theorem Jt:low mR=mR:=by decide
theorem Jm:low mq=mq:=by decide
theorem Ef {x:Hd} {n:Str} (h:low x.1=low n) : bu [x] n=[x.2]:=by
 unfold bu
 have:isNamed n x=true:=by unfold isNamed; rw[h]; exact beq_self_eq_true _
 rw[List.filter_cons,if_pos this]
 rfl
theorem NP {l:List Hd} {more:Hd} {body t:Str} (hl:∀ x∈l,low x.1≠mR∧low x.1≠mq) (hm:low more.1=mq) (hv:more.2=eZ body.length) (hb:body.length≤16384) : jI (body++t) (l++[more])=.ok (body,t):=by
 have d:=Kw (show body.length≤100000 by omega)
 have e1:bu (l++[more]) mR=[]:=qa fun x hx=>by
  rw[Jt]
  rcases List.mem_append.1 hx with hx | hx
  ·exact(hl x hx).1
  ·have:x=more:=by simpa using hx
   rw[this,hm]; decide
 have e2:bu (l++[more]) mq=[eZ body.length]:=by
  rw[Et,qa (fun x hx=>by rw[Jm]; exact(hl x hx).2),Ef (by rw[hm,Jm]),hv]
  rfl
 unfold jI
 rw[e1,e2]
 dsimp only
 have ok:qY (eZ body.length)=true:=by
  unfold qY fO
  have h1:=d.pos
  have h2:=d.len 9 (by decide) (Nat.lt_of_le_of_lt hb (by decide))
  rw[d.dig]
  simp only[Bool.and_true,Bool.and_eq_true,decide_eq_true_eq]
  omega
 rw[ok,d.val]
 dsimp only
 rw[iy (by omega)]
 dsimp only
 rw[iy (by simp)]
 dsimp only
 rw[List.take_left' rfl,List.drop_left' rfl]
theorem mo:∀ (ns:List Int) (acc rest:Str),∃ ps:List Str,∃ rest' : Str,aW ns acc rest=(acc++ps.flatMap cB,rest')∧rest=ps.flatten++rest'∧∀ p∈ps,1≤p.length
 | [],acc,rest=>⟨[],rest,by simp[aW],by simp,by simp⟩
 | n :: ns,acc,rest=>by
   rw[aW]
   cases h:decide (fV n rest<1) with
   | true=>exact mo ns acc rest
   | false =>
     dsimp only
     obtain⟨ps,rest',h1,h2,h3⟩:=mo ns (acc++cB (rest.take (fV n rest).toNat)) (rest.drop (fV n rest).toNat)
     have hc:1≤(fV n rest).toNat∧(fV n rest).toNat≤rest.length:=by
      have:¬ fV n rest<1:=by simpa using h
      have:fV n rest≤rest.length:=by unfold fV; split <;> omega
      omega
     refine⟨rest.take (fV n rest).toNat :: ps,rest',by rw[h1]; simp, ?_,fun p hp=>?_⟩
     ·rw[List.flatten_cons,List.append_assoc,← h2,List.take_append_drop]
     ·rcases List.mem_cons.1 hp with rfl | hp
      ·simp; omega
      ·exact h3 p hp
theorem JC {n:Nat} {acc rest:Str} (h:rest.length≤n) : (aW [(n:Int)] acc rest).2=[]:=by
 rw[aW]
 have hc:fV (n:Int) rest=(rest.length:Int):=by unfold fV; split <;> omega
 rw[hc]
 cases h1:decide ((rest.length:Int)<1) with
 | true =>
   have h1:=of_decide_eq_true h1
   have:rest.length=0:=by omega
   exact List.length_eq_zero_iff.1 this
 | false=>simp[aW]
theorem Mc (ns:List Int) (body:Str) : ∃ ps:List Str,(aW (ns++[(body.length:Int)]) [] body).1=ps.flatMap cB∧body=ps.flatten∧∀ p∈ps,1≤p.length:=by
 obtain⟨ps,rest',h1,h2,h3⟩:=mo (ns++[(body.length:Int)]) [] body
 obtain⟨qs,rest2,g1,g2,g3⟩:=mo ns [] body
 have:rest'=[]:=by
  have e:=De ns [(body.length:Int)] [] body
  have:=congrArg Prod.snd e
  rw[h1,g1] at this
  dsimp only at this
  rw[this]
  exact JC (by rw[g2]; simp)
 subst this
 exact⟨ps,by rw[h1]; simp,by simpa using h2,h3⟩
theorem Dc {n:Nat} {R:Str} (h:n≤100000) : iZ (eT n++13 :: 10 :: R)=.ok (n,R):=by
 have d:=Sk h
 unfold iZ
 rw[AY (fun hx=>d.SK _ hx rfl)]
 dsimp only
 have ok:jo (eT n)=true:=by
  unfold jo fO
  have h1:=d.pos
  have h2:=d.len 8 (by decide) (Nat.lt_of_le_of_lt h (by decide))
  rw[d.dig]
  simp only[Bool.and_true,Bool.and_eq_true,decide_eq_true_eq]
  omega
 rw[ok,d.val]
theorem yP (t:Str) : ∀ (ps:List Str) (f:Nat) (out:Str),(∀ p∈ps,1≤p.length)→out.length + ps.flatten.length≤16384→ps.length<f →
  bG f (ps.flatMap cB++(kT++t)) out=.ok (out++ps.flatten,t)
 | [],f,out,_,hl,hf=>by
   obtain⟨f',rfl⟩ : ∃ f',f=f' + 1:=⟨f - 1,by simp at hf; omega⟩
   rw[bG]
   have e:([] : List Str).flatMap cB++(kT++t)=eT 0++13 :: 10 :: (13 :: 10 :: t):=rfl
   rw[e,Dc (by decide)]
   dsimp only
   rw[iy (by omega)]
   dsimp only
   rw[iy (by simp)]
   simp
 | p :: ps,f,out,hp,hl,hf=>by
   obtain⟨f',rfl⟩ : ∃ f',f=f' + 1:=⟨f - 1,by simp at hf; omega⟩
   have hp1:=hp p (by simp)
   rw[List.flatten_cons,List.length_append] at hl
   rw[bG]
   have e:(p :: ps).flatMap cB++(kT++t)=eT p.length++13 :: 10 :: (p++13 :: 10 :: (ps.flatMap cB++(kT++t))):=by
    rw[List.flatMap_cons,cB]; simp
   rw[e,Dc (by omega)]
   dsimp only
   rw[iy (by omega)]
   dsimp only
   rw[iy (by simp)]
   dsimp only
   have e2:(p++13 :: 10 :: (ps.flatMap cB++(kT++t))).drop p.length=13 :: 10 :: (ps.flatMap cB++(kT++t)):=List.drop_left' rfl
   have e3:(p++13 :: 10 :: (ps.flatMap cB++(kT++t))).drop (p.length + 2)=ps.flatMap cB++(kT++t):=by
    rw[← List.drop_drop,e2]; rfl
   have e4:(p++13 :: 10 :: (ps.flatMap cB++(kT++t))).take p.length=p:=List.take_left' rfl
   have hb:Nat.beq p.length 0=false:=by
    cases hz:p.length with
    | zero=>omega
    | succ k=>rfl
   rw[e2,e3,e4,hb]
   have:=yP t ps f' (out++p) (fun q hq=>hp q (by simp[hq])) (by rw[List.length_append]; omega) (by simp at hf; omega)
   rw[show(List.take 2 (13 :: 10 :: (ps.flatMap cB++(kT++t))) == ([13,10] : Str))=true from rfl]
   dsimp only
   rw[this]
   simp
theorem Du:∀ (ps:List Str),ps.length≤(ps.flatMap cB).length
 | []=>by simp
 | p :: ps=>by
   have:=Du ps
   rw[List.flatMap_cons,List.length_append,List.length_cons]
   have:1≤(cB p).length:=by simp[cB]; omega
   omega
theorem Kg {l:List Hd} {more:Hd} {body t:Str} {ns:List Int} (hl:∀ x∈l,low x.1≠mR∧low x.1≠mq) (hm:low more.1=mR) (hv:more.2=qi) (hb:body.length≤16384) :
  jI ((aW (ns++[(body.length:Int)]) [] body).1++kT++t) (l++[more])=.ok (body,t):=by
 have e1:bu (l++[more]) mR=[qi]:=by
  rw[Et,qa (fun x hx=>by rw[Jt]; exact(hl x hx).1),Ef (by rw[hm,Jt]),hv]
  rfl
 have e2:bu (l++[more]) mq=[]:=qa fun x hx=>by
  rw[Jm]
  rcases List.mem_append.1 hx with hx | hx
  ·exact(hl x hx).2
  ·have:x=more:=by simpa using hx
   rw[this,hm]; decide
 unfold jI
 rw[e1,e2]
 dsimp only
 rw[show(low qi == qi)=true by decide]
 dsimp only
 obtain⟨ps,h1,h2,h3⟩:=Mc ns body
 rw[h1,List.append_assoc]
 have:=yP t ps ((ps.flatMap cB++(kT++t)).length + 1) [] h3 (by rw[← h2]; simpa using hb) (by have:=Du ps; simp only[List.length_append]; omega)
 rw[this,← h2]
 rfl
theorem JA {l:List Hd} (h:l.all kJ=true) : ∀ x∈l,bR x.1=true∧aY x.2=true∧low x.1≠mR∧low x.1≠mq:=fun x hx=>by
 have:=List.all_eq_true.1 h x hx
 unfold kJ at this
 simp only[Bool.not_eq_true',Bool.or_eq_false_iff,Bool.not_eq_false',beq_eq_false_iff_ne] at this
 exact⟨this.1.1.1,this.1.1.2,this.1.2,this.2⟩
theorem EL (first:Str) (l:List Hd) (more:Hd) (R:Str) : jV first l more++R=first++13 :: 10 :: ((l++[more]).flatMap dN++13 :: 10 :: R):=by
 simp[jV,l9]
theorem FV {l:List Hd} {s:Str} {sz:Nat} (h:kK l s sz=false) : l.length + 1≤32∧s.length≤2048∧sz≤16384:=by
 unfold kK at h
 simp only[Bool.or_eq_false_iff,decide_eq_false_iff_not] at h
 omega
theorem JS:bR jY=true:=by decide +kernel
theorem Kj:bR xO=true:=by decide +kernel
theorem Rh:low jY=mq:=by decide
theorem Rz:low xO=mR:=by decide
theorem JG:aY qi=true:=by decide +kernel
theorem Gv {n:Nat} (h:n≤100000) : aY (eZ n)=true:=by
 have d:=Kw h
 unfold aY
 rw[Pj d.bl,beq_self_eq_true,d.vals]
 rfl
theorem BX {first:Str} {l:List Hd} {more:Hd} {sz:Nat} {body s:Str} (h:ed first l more sz body=.ok s) : l.all kJ=true∧kK l (jV first l more) sz=false∧s=jV first l more++body:=by
 unfold ed at h
 split at h
 ·cases h
 ·split at h
  ·cases h
  ·cases h; exact⟨by assumption,by assumption,rfl⟩
theorem IX (first:Str) (l:List Hd) (more:Hd) : (jV first l more).length=first.length + 2 + ((l++[more]).flatMap dN).length + 2:=by
 have:=congrArg List.length (EL first l more [])
 simp only[List.length_append,List.length_cons,List.length_nil] at this
 omega
theorem Gs {m p:Str} {l:List Hd} {body s:Str} (h:dZ m p l body=.ok s) (t:Str) : eu (s++t)=.ok ((m,p,l++[(jY,eZ body.length)],body),t):=by
 unfold dZ at h
 split at h
 ·cases h
 ·rename_i hok
  obtain⟨h1,h2,rfl⟩:=BX h
  obtain⟨h3,h4,h5⟩:=FV h2
  have ha:=JA h1
  rw[List.append_assoc,EL]
  rw[IX] at h4
  refine zY hok (fun x hx=>?_) (by simp; omega) h4 (NP (fun x hx=>(ha x hx).2.2) Rh rfl h5)
  rcases List.mem_append.1 hx with hx | hx
  ·exact⟨(ha x hx).1,(ha x hx).2.1⟩
  ·have:x=(jY,eZ body.length):=by simpa using hx
   subst this
   exact⟨JS,Gv (by omega)⟩
theorem DI {m p:Str} {l:List Hd} {body s:Str} {ns:List Int} (h:bY m p l body ns=.ok s) (t:Str) : eu (s++t)=.ok ((m,p,l++[(xO,qi)],body),t):=by
 unfold bY at h
 split at h
 ·cases h
 ·rename_i hok
  obtain⟨h1,h2,rfl⟩:=BX h
  obtain⟨h3,h4,h5⟩:=FV h2
  have ha:=JA h1
  rw[List.append_assoc,EL]
  rw[IX] at h4
  refine zY hok (fun x hx=>?_) (by simp; omega) h4 (Kg (fun x hx=>(ha x hx).2.2) Rz rfl h5)
  rcases List.mem_append.1 hx with hx | hx
  ·exact⟨(ha x hx).1,(ha x hx).2.1⟩
  ·have:x=(xO,qi):=by simpa using hx
   subst this
   exact⟨Kj,JG⟩
theorem PQ {s:Str} {x:Str × Str × List Hd × Str} (h:∀ t,eu (s++t)=.ok (x,t)) {k:Nat} (hk:k<s.length) : eu (s.take k)=.error 15:=by
 have e:s.take k++s.drop k=s:=List.take_append_drop k s
 have h0:=h []
 rw[List.append_nil] at h0
 cases hr:eu (s.take k) with
 | ok y =>
   obtain⟨y,r⟩:=y
   have:=(BL (s.take k) (s.drop k)).1 _ _ hr
   rw[e,h0] at this
   have hd:([] : Str)=r++s.drop k:=by
    have:=Except.ok.inj this
    exact(Prod.mk.inj this).2
   have:=congrArg List.length hd
   simp at this
   omega
 | error e' =>
   rcases(BL (s.take k) (s.drop k)).2 _ hr with rfl | h'
   ·rfl
   ·rw[e,h0] at h'; cases h'
end Go.Ab.Hw
namespace Go.Ab.Hw
open Go Go.Ab Go.Ab.Sm
open Go.Ab.Vl (brk dK dR eO eH)
theorem Bd {p:UInt8→Bool} {s:Str} {i:Nat} (h:i<s.length) (hp:p s[i]=false) : s.all p=false:=by
 rw[← List.take_append_drop i s,List.all_append,List.drop_eq_getElem_cons h,List.all_cons,hp]; simp
theorem yJ {p:UInt8→Bool} {s:Str} {i:Nat} (h:i<s.length) (hA:(s.take i).all p=true) (hp:p s[i]=true) : (s.take (i + 1)).all p=true:=by
 rw[List.take_succ_eq_append_getElem h,List.all_append,hA]; simp[hp]
theorem FT (x:UInt8) : jO x=!(decide ((x.toNat:Int)<65) || decide ((x.toNat:Int) > 90)):=by
 unfold jO
 by_cases h1:(x.toNat:Int) ≥ 65 <;> by_cases h2:(x.toNat:Int)≤90 <;> simp[h1,h2] <;> omega
theorem K6 (x:UInt8) : pz x=!(decide ((x.toNat:Int)<33) || decide ((x.toNat:Int) > 126)):=by
 unfold pz
 by_cases h1:(x.toNat:Int) ≥ 33 <;> by_cases h2:(x.toNat:Int)≤126 <;> simp[h1,h2] <;> omega
def dV (x:UInt8) : Bool:=((x.toNat:Int) == 32) || ((x.toNat:Int) == 9)
theorem GI:nN dV fun args M Q=>∃ a0,args=[a0]∧qG a0 M Q:=by
 intro M x Q hQ
 refine⟨_,rfl, ?_⟩
 unfold qG
 simp only[bX,By,bE]
 exact sN (fun _ k hk=>by simpa only[go_sem] using hk) hQ
theorem EI:fD cO fun args M Q=>∃ a0,args=[a0]∧oZ a0 M Q:=by
 intro M s Q hl hQ
 refine⟨_,rfl, ?_⟩
 unfold oZ
 refine di (fun m ys M3=>∃ i:Nat,m=s.length - i∧ys=[N .i64 i]∧i≤s.length∧(s.take i).all jO=true∧M3=M) _ ⟨0,rfl,rfl,Nat.zero_le _,rfl,rfl⟩ ?_
 rintro next m ys M3 hnext ⟨i,rfl,rfl,hi,hA,rfl⟩
 simp only[aV,gY,ny,bX]
 refine bH (fun h=>?_) fun h=>?_
 ·have hlt:i<s.length:=by simpa using h
  rw[eH hlt,By,eU]
  refine sN (p:=decide ((s[i].toNat:Int) > 90)) (fun _ k hk=>by rw[eH hlt,By,cZ]; exact hk) ?_
  refine bH (fun h=>?_) fun h=>?_
  ·have hf:jO s[i]=false:=by rw[FT,h]; rfl
   have:cO s=false:=by unfold cO; rw[Bd hlt hf,Bool.and_false]
   rw[← this]; exact hQ _ (ae.refl _ _)
  ·have ht:jO s[i]=true:=by rw[FT,h]; rfl
   rw[add1 (by omega)]
   exact hnext _ _ _ (by omega) ⟨i + 1,rfl,rfl,by omega,yJ hlt hA ht,rfl⟩
 ·have:i=s.length:=by simp at h; omega
  subst this
  rw[List.take_length] at hA
  rw[dh]
  refine kD (p:=decide ((s.length:Int)≤8)) (fun _ k hk=>by rw[kE]; exact hk) ?_
  have:cO s=(decide ((s.length:Int) ≥ 1) && decide ((s.length:Int)≤8)):=by unfold cO fO; rw[hA,Bool.and_true]
  rw[← this]; exact hQ _ (ae.refl _ _)
theorem WX (x:UInt8) (s:Str) : pre [x] s=(decide ((s.length:Int) ≥ 1) && (s.getD 0 0 == x)):=by
 unfold pre
 cases s with
 | nil=>rfl
 | cons a t =>
   simp
   intro
   omega
theorem Jy:fD dO fun args M Q=>∃ a0,args=[a0]∧tq a0 M Q:=by
 intro M s Q hl hQ
 refine⟨_,rfl, ?_⟩
 unfold tq
 refine di (fun m ys M3=>∃ i:Nat,m=s.length - i∧ys=[N .i64 i]∧i≤s.length∧(s.take i).all pz=true∧M3=M) _ ⟨0,rfl,rfl,Nat.zero_le _,rfl,rfl⟩ ?_
 rintro next m ys M3 hnext ⟨i,rfl,rfl,hi,hA,rfl⟩
 simp only[aV,gY,ny,bX]
 refine bH (fun h=>?_) fun h=>?_
 ·have hlt:i<s.length:=by simpa using h
  rw[eH hlt,By,eU]
  refine sN (p:=decide ((s[i].toNat:Int) > 126)) (fun _ k hk=>by rw[eH hlt,By,cZ]; exact hk) ?_
  refine bH (fun h=>?_) fun h=>?_
  ·have hf:pz s[i]=false:=by rw[K6,h]; rfl
   have:dO s=false:=by unfold dO; rw[Bd hlt hf,Bool.and_false]
   rw[← this]; exact hQ _ (ae.refl _ _)
  ·have ht:pz s[i]=true:=by rw[K6,h]; rfl
   rw[add1 (by omega)]
   exact hnext _ _ _ (by omega) ⟨i + 1,rfl,rfl,by omega,yJ hlt hA ht,rfl⟩
 ·have:i=s.length:=by simp at h; omega
  subst this
  rw[List.take_length] at hA
  rw[dh]
  have e:dO s=(decide ((s.length:Int) ≥ 1) && (((s.getD 0 0).toNat:Int) == 47) && decide ((s.length:Int)≤201)):=by
   unfold dO
   rw[hA,Bool.and_true,WX]
   congr 2
   rw[Bool.eq_iff_iff,beq_iff_eq,beq_iff_eq]
   constructor
   ·intro e; rw[e]; rfl
   ·intro e
    have:(s.getD 0 0).toNat=47:=by omega
    exact UInt8.toNat_inj.1 this
  refine kD (p:=(((s.getD 0 0).toNat:Int) == 47)) (fun hc k hk=>?_) ?_
  ·have h1:0<s.length:=by simp at hc; omega
   have:=eH h1 .i64
   rw[show((0:Nat) : Int)=0 from rfl] at this
   rw[this,By,bE]
   have e0:s.getD 0 0=s[0]:=by simp[List.getD,h1]
   rw[e0] at hk
   exact hk
  refine kD (p:=decide ((s.length:Int)≤201)) (fun _ k hk=>by rw[kE]; exact hk) ?_
  rw[← e]; exact hQ _ (ae.refl _ _)
def yH (x:UInt8) : Bool:=((decide ((x.toNat:Int) ≥ 97) && decide ((x.toNat:Int)≤122)) || (decide ((x.toNat:Int) ≥ 65) && decide ((x.toNat:Int)≤90))) || (decide ((x.toNat:Int) ≥ 48) && decide ((x.toNat:Int)≤57)) || ((x.toNat:Int) == 45)
theorem OT:∀ x,(yH x == qg (bJ x))=true:=wK (by decide +kernel)
theorem Qw (x:UInt8) : qg (bJ x)=yH x:=(eq_of_beq (OT x)).symm
theorem BU (s:Str) : bR s=(fO s 1 40 && s.all yH):=by
 unfold bR low
 rw[List.all_map]
 congr 2
 funext x
 exact Qw x
theorem IY:fD bR fun args M Q=>∃ a0,args=[a0]∧sK a0 M Q:=by
 intro M s Q hl hQ
 refine⟨_,rfl, ?_⟩
 unfold sK
 refine di (fun m ys M3=>∃ i:Nat,m=s.length - i∧ys=[N .i64 i]∧i≤s.length∧(s.take i).all yH=true∧M3=M) _ ⟨0,rfl,rfl,Nat.zero_le _,rfl,rfl⟩ ?_
 rintro next m ys M3 hnext ⟨i,rfl,rfl,hi,hA,rfl⟩
 simp only[aV,gY,ny,bX]
 refine bH (fun h=>?_) fun h=>?_
 ·have hlt:i<s.length:=by simpa using h
  rw[eH hlt,By]
  generalize hx:s[i]=x
  have bad:yH x=false→Q (Bo false) M3:=fun hf=>by
   have:bR s=false:=by rw[BU,Bd hlt (by rw[hx]; exact hf),Bool.and_false]
   rw[← this]; exact hQ _ (ae.refl _ _)
  have good:yH x=true→next [N .i64 ((i + 1:Nat) : Int)] M3:=fun ht =>
   hnext _ _ _ (by omega) ⟨i + 1,rfl,rfl,by omega,yJ hlt hA (by rw[hx]; exact ht),rfl⟩
  unfold yH at bad good
  simp only[dh,kE,bE]
  generalize decide ((x.toNat:Int) ≥ 97)=a1 at *
  generalize decide ((x.toNat:Int)≤122)=a2 at *
  generalize decide ((x.toNat:Int) ≥ 65)=c1 at *
  generalize decide ((x.toNat:Int)≤90)=c2 at *
  generalize decide ((x.toNat:Int) ≥ 48)=d1 at *
  generalize decide ((x.toNat:Int)≤57)=d2 at *
  generalize ((x.toNat:Int) == 45)=e1 at *
  have ad:af .add (N .i64 (i:Int)) (N .i64 1) (fun t10=>next [t10] M3)=next [N .i64 ((i + 1:Nat) : Int)] M3:=add1 (by omega)
  cases a1 <;> cases a2 <;> simp only[bS,bg,bM,eP,iE,bU,bZ,bn,Bool.not_true,bq,ad] <;>
   first
   | exact good rfl
   | (cases c1 <;> cases c2 <;> simp only[bS,bg,bM,eP,iE,bU,bZ,bn,Bool.not_true,bq,ad] <;>
     first
     | exact good rfl
     | (cases d1 <;> cases d2 <;> simp only[bS,bg,bM,eP,iE,bU,bZ,bn,Bool.not_true,bq,ad] <;>
       first
       | exact good rfl
       | (cases e1
          ·exact bH (fun _=>bad rfl) (fun h=>by cases h)
          ·exact bH (fun h=>by cases h) (fun _=>good rfl))))
 ·have:i=s.length:=by simp at h; omega
  subst this
  rw[List.take_length] at hA
  rw[dh]
  refine kD (p:=decide ((s.length:Int)≤40)) (fun _ k hk=>by rw[kE]; exact hk) ?_
  have:bR s=(decide ((s.length:Int) ≥ 1) && decide ((s.length:Int)≤40)):=by rw[BU]; unfold fO; rw[hA,Bool.and_true]
  rw[← this]; exact hQ _ (ae.refl _ _)
theorem Km:∀ x,(dV x == ([32,9] : Str).contains x)=true:=wK (by decide +kernel)
theorem MQ (x:UInt8) : ([32,9] : Str).contains x=dV x:=(eq_of_beq (Km x)).symm
def kG (p:UInt8→Bool) (l:Str) : Str:=(l.reverse.dropWhile p).reverse
theorem DW (p:UInt8→Bool) (x:UInt8) (l:Str) : kG p (x :: l)=if (kG p l).isEmpty && p x then[] else x :: kG p l:=by
 unfold kG
 rw[List.reverse_cons,List.dropWhile_append]
 cases h:(l.reverse.dropWhile p) with
 | nil => 
   simp
   cases hp:p x <;> simp[List.dropWhile,hp]
 | cons a t=>simp
theorem uJ (p:UInt8→Bool) : ∀ l:Str,(kG p l).dropWhile p=kG p (l.dropWhile p)
 | []=>rfl
 | x :: l=>by
   rw[DW]
   have ih:=uJ p l
   cases hp:p x with
   | true =>
     rw[List.dropWhile_cons_of_pos hp,← ih]
     cases hd:kG p l with
     | nil=>simp[hd]
     | cons a t=>simp[hd,List.dropWhile_cons_of_pos hp]
   | false =>
     rw[List.dropWhile_cons_of_neg (by simp[hp])]
     simp[hp,DW]
theorem Qv (s:Str) : trimB s=kG dV (s.dropWhile dV):=by
 unfold trimB Lib.trimS Lib.trimLeftS Lib.trimRightS
 have e:(fun x=>([32,9] : Str).contains x)=dV:=funext MQ
 rw[e]
 exact uJ dV s
theorem LD {p:UInt8→Bool} {l:Str} {x:UInt8} : kG p (l++[x])=if p x then kG p l else l++[x]:=by
 unfold kG
 rw[List.reverse_append,List.reverse_singleton,List.singleton_append]
 cases h:p x <;> simp[List.dropWhile,h]
end Go.Ab.Hw
namespace Go.Ab.Hw
open Go Go.Ab Go.Ab.Sm
open Go.Ab.Vl (brk dK dR eO eH gq gp)
theorem Bs.read {M:RM} {v:AV} {b:Str} (h:Bs M v b) {i:Nat} (hi:i<b.length) {K:AV→Prop} : (cK v (N .i64 (i:Int)) 1 fun t=>aj M t K)=K (By b[i]):=by
 obtain⟨c,o,_,_,hix,hld⟩:=h.sl.Yr (i:Int) hi
 rw[hix,dD,hld _ rfl]
 exact propext ⟨fun⟨v,e,k⟩=>by cases e; exact k,fun k=>⟨_,rfl,k⟩⟩
abbrev QU:Str:=[48,49,50,51,52,53,54,55,56,57,97,98,99,100,101,102]
theorem Nn:∀ m:Fin 16,(QU.drop m.val).take (m.val + 1 - m.val)=[fC m.val]:=by decide +kernel
theorem PW {n:Nat} (h:n<16) : (QU.drop n).take (n + 1 - n)=[fC n]:=Nn ⟨n,h⟩
theorem JY {cn:ak} {base f:Nat} (h2:2≤base) (h16:base≤16) (ih:∀ n,n<base ^ f→n<1000000000→1≤f→∀ {M:RM} {Q:ah},Q (St (iP base f n)) M→cn [N .i64 (n:Int),N .i64 (base:Int)] M Q)
  {n:Nat} (hn:n<base ^ (f + 1)) (hb:n<1000000000) (hf:f≤1000) {M:RM} {Q:ah} (hQ:Q (St (iP base (f + 1) n)) M) : vQ cn (N .i64 (n:Int)) (N .i64 (base:Int)) M Q:=by
 unfold vQ
 rw[ny]
 refine bH (fun h=>?_) fun h=>?_
 ·have h:n<base:=by simpa using h
  rw[add1 (by omega),dR (by omega) (by show n + 1≤16; omega),dM,PW (by omega)]
  rw[l8 h] at hQ
  exact hQ
 ·have h:¬ n<base:=by simpa using h
  rw[uh h] at hQ
  have hf1:1≤f:=by
   rcases Nat.eq_zero_or_pos f with rfl | h'
   ·simp at hn; omega
   ·exact h'
  rw[Hq]
  refine⟨by omega, ?_⟩
  have eq:((n:Int)).tdiv (base:Int)=((n / base:Nat) : Int):=by rw[Int.natCast_ediv]; exact Int.tdiv_eq_ediv_of_nonneg (by omega)
  have er:((n:Int)).tmod (base:Int)=((n % base:Nat) : Int):=by rw[Int.natCast_emod]; exact Int.tmod_eq_emod_of_nonneg (by omega)
  have hdl:n / base≤n:=Nat.div_le_self _ _
  have hml:n % base<base:=Nat.mod_lt _ (by omega)
  have hql:n / base<base ^ f:=by rw[Nat.pow_succ] at hn; exact Nat.div_lt_of_lt_mul (by rw[Nat.mul_comm]; exact hn)
  rw[eq,Qd]
  have hw:IntKind.i64.wrap ((n / base:Nat) : Int)=((n / base:Nat) : Int):=by
   generalize n / base=q at *
   exact gU (by omega) (by omega)
  rw[hw]
  refine⟨by omega, ?_⟩
  rw[er]
  refine ih (n / base) hql (by omega) hf1 ?_
  refine ih (n % base) (Nat.lt_of_lt_of_le hml (Nat.le_self_pow (by omega) base)) (by omega) hf1 ?_
  have e1:iP base f (n % base)=[fC (n % base)]:=by
   obtain⟨g,rfl⟩ : ∃ g,f=g + 1:=⟨f - 1,by omega⟩
   exact l8 hml
  rw[e1,aR]
  have:=kH base f (n / base)
  exact⟨by simp; omega,hQ⟩
theorem FZ (p:UInt8→Bool) (l:Str) : (kG p l).length≤l.length:=by
 unfold kG
 rw[List.length_reverse]
 refine Nat.le_trans (List.IsSuffix.length_le (List.dropWhile_suffix p)) ?_
 rw[List.length_reverse]
 exact Nat.le_refl _
theorem Ns (s:Str) (h:0<s.length) : (s == trimB s)=(!dV (s[0]) && !dV (s[s.length - 1])):=by
 rw[Qv]
 cases s with
 | nil=>simp at h
 | cons x t =>
   cases hx:dV x with
   | true =>
     rw[List.dropWhile_cons_of_pos hx]
     have h1:=FZ dV (t.dropWhile dV)
     have h2:(t.dropWhile dV).length≤t.length:=List.IsSuffix.length_le (List.dropWhile_suffix dV)
     have h3:(x :: t)≠kG dV (t.dropWhile dV):=fun e=>by
      have:=congrArg List.length e
      rw[List.length_cons] at this
      omega
     have e0:(x :: t)[0]=x:=rfl
     rw[e0,hx]
     simpa using h3
   | false =>
     rw[List.dropWhile_cons_of_neg (by rw[hx]; decide)]
     have e0:(x :: t)[0]=x:=rfl
     rw[e0,hx]
     rcases List.eq_nil_or_concat (x :: t) with e | ⟨u,y,e⟩
     ·cases e
     ·rw[List.concat_eq_append] at e
      have hl:(x :: t)[(x :: t).length - 1]'(by simp)=y:=by simp[e]
      rw[hl,e,LD]
      cases hy:dV y with
      | true =>
        rw[if_pos rfl]
        have h1:=FZ dV u
        have h3:u++[y]≠kG dV u:=fun e=>by
         have:=congrArg List.length e
         rw[List.length_append,List.length_singleton] at this
         omega
        simpa using h3
      | false=>simp
theorem RP (x:UInt8) : mH x=!(!((x.toNat:Int) == 9) && (decide ((x.toNat:Int)<32) || decide ((x.toNat:Int) > 126))):=by
 unfold mH
 by_cases h1:(x.toNat:Int) ≥ 32 <;> by_cases h2:(x.toNat:Int)≤126 <;> by_cases h3:(x.toNat:Int)=9 <;> simp[h1,h2,h3] <;> omega
theorem Gu {cb:ak} (hb:nN dV cb) : fD aY fun args M Q=>∃ a0,args=[a0]∧qK cb a0 M Q:=by
 intro M s Q hl hQ
 refine⟨_,rfl, ?_⟩
 unfold qK
 refine di (fun m ys M3=>∃ i:Nat,m=s.length - i∧ys=[N .i64 i]∧i≤s.length∧(s.take i).all mH=true∧M3=M) _ ⟨0,rfl,rfl,Nat.zero_le _,rfl,rfl⟩ ?_
 rintro next m ys M3 hnext ⟨i,rfl,rfl,hi,hA,rfl⟩
 simp only[aV,gY,ny,bX]
 refine bH (fun h=>?_) fun h=>?_
 ·have hlt:i<s.length:=by simpa using h
  have ib:∀ {K:AV→Prop},dH (St s) (N .i64 (i:Int)) K=K (By s[i]):=eH hlt .i64 _
  have bad:mH s[i]=false→Q (Bo false) M3:=fun hf=>by
   have:aY s=false:=by unfold aY; rw[Bd hlt hf,Bool.and_false]
   rw[← this]; exact hQ _ (ae.refl _ _)
  have good:mH s[i]=true→next [N .i64 ((i + 1:Nat) : Int)] M3:=fun ht =>
   hnext _ _ _ (by omega) ⟨i + 1,rfl,rfl,by omega,yJ hlt hA ht,rfl⟩
  have ad:af .add (N .i64 (i:Int)) (N .i64 1) (fun t10=>next [t10] M3)=next [N .i64 ((i + 1:Nat) : Int)] M3:=add1 (by omega)
  rw[RP] at bad good
  simp only[ib,By,gN,eU,cZ]
  rw[show((s[i].toNat:Int) != 9)=!((s[i].toNat:Int) == 9) from rfl]
  generalize ((s[i].toNat:Int) == 9)=c1 at *
  generalize decide ((s[i].toNat:Int)<32)=c2 at *
  generalize decide ((s[i].toNat:Int) > 126)=c3 at *
  cases c1 <;> cases c2 <;> simp only[Bool.not_true,Bool.not_false,bS,bg,bM,eP,iE,bU,bZ,bq,bW,ad] <;>
   first
   | exact good rfl
   | exact bad rfl
   | (cases c3
      ·exact bH (fun h=>by cases h) (fun _=>good rfl)
      ·exact bH (fun _=>bad rfl) (fun h=>by cases h))
 ·have:i=s.length:=by simp at h; omega
  subst this
  rw[List.take_length] at hA
  have e:aY s=(s == trimB s):=by unfold aY; rw[hA,Bool.and_true]
  rw[e] at hQ
  rw[bE]
  by_cases h0:s.length=0
  ·have:s=[]:=List.length_eq_zero_iff.1 h0
   subst this
   simp only[List.length_nil]
   rw[show(((0:Nat) : Int) == 0)=true from rfl]
   simp only[bS,iE,bU]
   exact hQ _ (ae.refl _ _)
  ·have hp:0<s.length:=by omega
   rw[Ns s hp] at hQ
   have i0:∀ {K:AV→Prop},dH (St s) (N .i64 0) K=K (By s[0]):=eH hp .i64 _
   have i1:∀ {K:AV→Prop},dH (St s) (N .i64 ((s.length - 1:Nat) : Int)) K=K (By (s[s.length - 1]'(by omega))):=eH (by omega) .i64 _
   have e00:((s.length:Int) == 0)=false:=beq_eq_false_iff_ne.2 (by omega)
   rw[e00]
   simp only[bg,i0,bZ]
   refine hb ?_
   simp only[bn]
   have sb:∀ {K:AV→Prop},af .sub (N .i64 (s.length:Int)) (N .i64 1) K=K (N .i64 ((s.length - 1:Nat) : Int)):=IW (j:=1) (by omega) (by omega)
   cases hb0:dV s[0] with
   | true =>
     rw[hb0] at hQ
     simp only[Bool.not_true,eP,iE,bZ]
     exact hQ _ (ae.refl _ _)
   | false =>
     rw[hb0] at hQ
     simp only[Bool.not_false,bM,sb,i1]
     refine hb ?_
     simp only[bn,bU]
     exact hQ _ (ae.refl _ _)
end Go.Ab.Hw
namespace Go.Ab.Hw
open Go Go.Ab Go.Ab.Sm
open Go.Ab.Vl (brk dK dR eO eH gq gp Ms)
def HY (base:Nat) (c:ak) : Prop:=∀ {M:RM} {n:Nat} {Q:ah},n<1000000000→Q (St (iP base 20 n)) M→c [N .i64 (n:Int),N .i64 (base:Int)] M Q
def pK (rq:Bool) (m p:Str) (n:Int) : Bool:=match rq with
 | true=>!jw m p
 | false=>nR n
theorem OL {cm cp:ak} (hm:fD cO cm) (hp:fD dO cp) {M:RM} {bk T:Nat} {m p:Str} {n:Int} {hv bv:AV} {rq:Bool} {K:AV→RM→Prop}
  (hb:M.heap bk=some (.row [St m,St p,N .i64 n,hv,bv] false T 0)) (hbl:bk<M.next) (hml:m.length<4611686018427387904) (hpl:p.length<4611686018427387904)
  (hK:∀ M',ae [] M M'→K (Bo (pK rq m p n)) M') : aa (Bo rq) true (fun k=>aJ (.ptr bk 0) 0 fun t27=>k t27 M) (fun k=>k .undef M) fun VT M_1=>aa (Bo rq) true (fun k_2=>aj M_1 VT fun t28=>k_2 t28 M_1) (fun k=>k .undef M_1) fun UZ M_4=>aa (Bo rq) true (fun k_5=>cm [UZ] M_4 fun t29 M_6=>k_5 t29 M_6) (fun k=>k .undef M_4) fun UY M_8=>aa (Bo rq) true (fun k_9=>k_9 UY M_8) (fun k=>k .undef M_8) fun t30 Cf=>aa t30 true (fun XX=>aJ (.ptr bk 0) 1 fun t31=>XX t31 Cf) (fun k=>k .undef Cf) fun Tc AL=>aa t30 true (fun Qs=>aj AL Tc fun t32=>Qs t32 AL) (fun k=>k .undef AL) fun Tt EA=>aa t30 true (fun Xx=>cp [Tt] EA fun t33 JJ=>Xx t33 JJ) (fun k=>k .undef EA) fun Uh Ce=>aa (Bo rq) true (fun Wp=>ay t30 Uh (Bo false) fun t34=>Wp t34 Ce) (fun k=>k .undef Ce) fun SQ EB=>aa (Bo rq) true (fun WS=>ek SQ fun t35=>WS t35 EB) (fun k=>k .undef EB) fun SB vM=>ay (Bo rq) SB (Bo false) fun t36=>aa t36 false (fun XA=>XA (Bo rq) vM) (fun k=>k .undef vM) fun t38 TF=>aa t36 false (fun XG=>ek t38 fun t39=>XG t39 TF) (fun k=>k .undef TF) fun TW RZ=>aa t36 false (fun Ws=>Ws TW RZ) (fun k=>k .undef RZ) fun t40 Ti=>aa t40 true (fun Xc=>aJ (.ptr bk 0) 2 fun t41=>Xc t41 Ti) (fun k=>k .undef Ti) fun SE PO=>aa t40 true (fun X9=>aj PO SE fun t42=>X9 t42 PO) (fun k=>k .undef PO) fun Tu TJ=>aa t40 true (fun WB=>af .lss Tu (N .i64 100) fun t43=>WB t43 TJ) (fun k=>k .undef TJ) fun UO TD=>aa t40 true (fun Xv=>Xv UO TD) (fun k=>k .undef TD) fun t44 SF=>aa t44 false (fun Xf=>aJ (.ptr bk 0) 2 fun t45=>Xf t45 SF) (fun k=>k .undef SF) fun UN Qg=>aa t44 false (fun WR=>aj Qg UN fun t46=>WR t46 Qg) (fun k=>k .undef Qg) fun UA Tk=>aa t44 false (fun WI=>af .gtr UA (N .i64 599) fun t47=>WI t47 Tk) (fun k=>k .undef Tk) fun Sy Te=>aa t40 true (fun WU=>ay t44 (Bo true) Sy fun t48=>WU t48 Te) (fun k=>k .undef Te) fun Ty UF=>aa t36 false (fun X7=>ay t40 Ty (Bo false) fun t49=>X7 t49 UF) (fun k=>k .undef UF) fun UL Wv=>ay t36 (Bo true) UL fun t50=>K t50 Wv:=by
 cases rq with
 | true =>
   simp only[bM,gK]
   rw[az hb (i:=0) rfl]
   refine hm hml fun M1 k1=>?_
   cases h1:cO m with
   | false =>
     simp only[eP,iE,bZ,bM,bn,Bool.not_false,bU,bS]
     have:pK true m p n=true:=by unfold pK jw; simp only[h1,Bool.false_and,Bool.not_false]
     rw[← this]; exact hK _ k1
   | true =>
     simp only[bM]
     rw[az (k1.aL hb hbl (by simp)) (i:=1) rfl]
     refine hp hpl fun M2 k2=>?_
     simp only[bU,bM,bn]
     cases h2:dO p with
     | false =>
       simp only[Bool.not_false,bS,iE,bU]
       have:pK true m p n=true:=by unfold pK jw; simp only[h1,h2,Bool.and_false,Bool.not_false]
       rw[← this]; exact hK _ (k1.trans k2)
     | true =>
       simp only[Bool.not_true,bg,bn,eP,iE,bZ]
       have:pK true m p n=false:=by unfold pK jw; simp only[h1,h2,Bool.and_true,Bool.not_true]
       rw[← this]; exact hK _ (k1.trans k2)
 | false =>
   simp only[eP,iE,bZ,bg,bn,Bool.not_false,bM,gK]
   rw[az hb (i:=2) rfl,eU]
   have e:pK false m p n=(decide (n<100) || decide (n > 599)):=rfl
   cases h1:decide (n<100) with
   | true =>
     rw[h1,Bool.true_or] at e
     simp only[bS,iE,bU]
     rw[← e]; exact hK _ (ae.refl _ _)
   | false =>
     rw[h1,Bool.false_or] at e
     simp only[bg]
     rw[az hb (i:=2) rfl,cZ]
     simp only[bZ,bU]
     rw[← e]; exact hK _ (ae.refl _ _)
def AR (rq ck:Bool) (m p:Str) (n:Int) (l:List Hd) (body:Str) (sizes:List Int) : Except Nat Str:=match rq with
 | true=>match ck with
   | true=>bY m p l body sizes
   | false=>dZ m p l body
 | false=>eQ n l body
def GQ (ck:Bool) (body:Str) : Hd:=match ck with
 | true=>(xO,qi)
 | false=>(jY,eZ body.length)
def Dx (ck:Bool) (body:Str) (sizes:List Int) : Str:=match ck with
 | true=>(aW (sizes++[(body.length:Int)]) [] body).1++kT
 | false=>body
def zU (rq:Bool) (m p:Str) (n:Int) : Str:=match rq with
 | true=>iq m p
 | false=>oJ n
theorem Me {rq ck:Bool} {m p:Str} {n:Int} {l:List Hd} {body:Str} {sizes:List Int} (h:pK rq m p n=true) : AR rq ck m p n l body sizes=.error 1:=by
 cases rq with
 | true =>
   have h:jw m p=false:=by simpa [pK] using h
   cases ck with
   | true=>show bY m p l body sizes=_; unfold bY; rw[h]
   | false=>show dZ m p l body=_; unfold dZ; rw[h]
 | false=>show eQ n l body=_; unfold eQ; rw[show nR n=true from h]
theorem J7 {rq ck:Bool} {m p:Str} {n:Int} {l:List Hd} {body:Str} {sizes:List Int} (h:pK rq m p n=false) (hc:rq=false→ck=false) :
  AR rq ck m p n l body sizes=ed (zU rq m p n) l (GQ ck body) body.length (Dx ck body sizes):=by
 cases rq with
 | true =>
   have h:jw m p=true:=by simpa [pK] using h
   cases ck with
   | true=>show bY m p l body sizes=_; unfold bY; rw[h]; rfl
   | false=>show dZ m p l body=_; unfold dZ; rw[h]; rfl
 | false=>rw[hc rfl]; show eQ n l body=_; unfold eQ; rw[show nR n=false from h]; rfl
def Gm (T8:Nat) (c:ak) : Prop:=∀ {M:RM} {m p body:Str} {n:Int} {hv bv sv:AV} {l:List Hd} {sizes:List Int} {rq ck:Bool} {Q:ah},Sl HD M hv l→l.length≤1000→(∀ h∈l,h.1.length≤281474976710656∧h.2.length≤281474976710656) →
 m.length≤281474976710656→p.length≤281474976710656→Bs M bv body→body.length≤1000000→Sl INT M sv sizes→sizes.length≤1000→(rq=false→ck=false) →
 (∀ s v' M',AR rq ck m p n l body sizes=.ok s→ae [] M M'→Ow BY M' M.next T8 v' s→Q (.tup [v',N .i64 0]) M')→(∀ (e:Nat) M',AR rq ck m p n l body sizes=.error e→(e=1∨e=2)→ae [] M M'→Q (.tup [aA,N .i64 (e:Int)]) M') →
 c [.agg [St m,St p,N .i64 n,hv,bv],Bo rq,Bo ck,sv] M Q
theorem qf:∀ (ns:List Int) (acc:Str),(aW ns acc []).1=acc
 | [],acc=>rfl
 | n :: ns,acc=>by
   have:decide (fV n []<1)=true:=by unfold fV; simp; split <;> omega
   rw[aW,this]
   exact qf ns acc
theorem NY {n:Int} (h1:100≤n) (h2:n≤599) : sW n=if (decide (n ≥ 200) && decide (n<300))=true then[79,75] else[78,111]:=by
 unfold sW
 have e:n.tdiv 100=n / 100:=Int.tdiv_eq_ediv_of_nonneg (by omega)
 rw[e]
 by_cases h:200≤n∧n<300
 ·rw[if_pos (by rw[beq_iff_eq]; omega),if_pos (by simp; omega)]
 ·rw[if_neg (by rw[beq_iff_eq]; omega),if_neg (by simp; omega)]
theorem He {M:RM} {v:AV} {b:Str} (h:Bs M v b) {lo hi:Option AV} {l u:Nat} (e1:bnd 0 lo=some l) (e2:bnd b.length hi=some u) (h1:l≤u) (h2:u≤b.length) :
  ∃ v',dz 1 v lo hi none=some v'∧Bs M v' ((b.drop l).take (u - l))∧(∀ x∈aH v',x∈aH v):=by
 have:=h.sub e1 e2 h1 h2 (K:=fun v'=>Bs M v' ((b.drop l).take (u - l))∧(∀ x∈aH v',x∈aH v)) (fun v' h1 h2=>⟨h1,h2⟩)
 obtain⟨v',h1,h2⟩:=this
 exact⟨v',h1,h2.1,h2.2⟩
theorem Js {T8:Nat} {cn:ak} (hx:HY 16 cn) {M4 M5:RM} {a0 v0 sv:AV} {S body:Str} {sizes:List Int} {Q:ah} (k4:ae [] M4 M5) (o4:Ow BY M5 M4.next T8 a0 S) (hb:Bs M5 v0 body) (hss:Sl INT M4 sv sizes) (hsl:sizes.length≤1000) (hbl:body.length≤1000000) (hal:S.length≤2048) (hv0:∀ x∈aH v0,x<M4.next)
  (hQ:∀ v' M',ae [] M4 M'→Ow BY M' M4.next T8 v' (S++Dx true body sizes)→Q (.tup [v',N .i64 0]) M') : eX (fun PV iW uE=>aT (ai iW 1) fun t151=>af .gtr t151 (N .i64 0) fun t152=>ax t152 ( dL (fun QE=>aT (ai iW 1) fun t156=>dL (fun MX=>aT sv fun t159=>af .lss (ai iW 2) t159 fun t160=>ax t160 ( cK sv (ai iW 2) 1 fun t163=>aj uE t163 fun t164=>af .lss t164 (N .i64 1) fun t165=>ax t165 ( QE [(ai iW 0),(ai iW 1)] uE) ( cK sv (ai iW 2) 1 fun t168=>aj uE t168 fun t169=>af .lss t169 t156 fun t171=>ax t171 ( cK sv (ai iW 2) 1 fun t174=>aj uE t174 fun t175=>MX [t175] uE) ( MX [t156] uE))) ( MX [t156] uE)) (fun AJ U7=>bL (dz 1 (ai iW 1) none (some (ai AJ 0)) none) fun t183=>cn [(ai AJ 0),(N .i64 16)] U7 fun t178 Vi=>bL (dz 1 (ai iW 1) none (some (ai AJ 0)) none) fun PG=>(PG=t183∧aQ .add t178 (St [13,10]) fun t179=>appW T8 1 1 [(N .u8 0)] false (ai iW 0) t179 Vi fun t180 VF=>bL (dz 1 (ai iW 1) none (some (ai AJ 0)) none) fun O0=>(O0=t183∧appW T8 1 1 [(N .u8 0)] false t180 t183 VF fun t184 Va=>appW T8 1 1 [(N .u8 0)] false t184 (St [13,10]) Va fun t185 VK=>bL (dz 1 (ai iW 1) (some (ai AJ 0)) none none) fun t188=>QE [t185,t188] VK)))) (fun Np U8=>af .add (ai iW 2) (N .i64 1) fun t154=>PV [(ai Np 0),(ai Np 1),t154] U8)) ( appW T8 1 1 [(N .u8 0)] false (ai iW 0) (St [48,13,10,13,10]) uE fun t190 Vs=>Q (.tup [t190,(N .i64 0)]) Vs)) [a0,v0,(N .i64 0)] M5:=by
 refine di (fun z ys M6=>∃ (i:Nat) (av rv:AV) (acc rest:Str),z=(sizes.length - i) + rest.length∧ys=[av,rv,N .i64 (i:Int)]∧i + rest.length≤sizes.length + body.length∧ae [] M4 M6∧Ow BY M6 M4.next T8 av (S++acc)∧Bs M6 rv rest∧(∀ x∈aH rv,x<M4.next)∧rest.length≤body.length ∧
   (aW (sizes.drop i++[(body.length:Int)]) acc rest).1=(aW (sizes++[(body.length:Int)]) [] body).1∧acc.length + 30 * rest.length≤30 * body.length) _
  ⟨0,_,_,[],body,rfl,rfl,by omega,k4,by rw[List.append_nil]; exact o4,hb,hv0,Nat.le_refl _,rfl,by simp⟩ ?_
 rintro next z ys M6 hnext ⟨i,av,rv,acc,rest,rfl,rfl,hir,k6,oa,hr,hrb,hrl,hch,Xa⟩
 simp only[aV,dE]
 rw[hr.len,show(N .i64 0)=N .i64 ((0:Nat) : Int) from rfl,II]
 refine bH (fun h=>?_) fun h=>?_
 ·have hpos:rest.length > 0:=of_decide_eq_true h
  rw[gq]
  refine gp (fun xs M7=>∃ (av' rv' : AV) (acc' rest' : Str),xs=[av',rv']∧(sizes.length - (i + 1)) + rest'.length<(sizes.length - i) + rest.length∧i + 1 + rest'.length≤sizes.length + body.length∧ae [] M4 M7∧Ow BY M7 M4.next T8 av' (S++acc')∧Bs M7 rv' rest'∧(∀ x∈aH rv',x<M4.next)∧rest'.length≤body.length ∧
    (aW (sizes.drop (i + 1)++[(body.length:Int)]) acc' rest').1=(aW (sizes++[(body.length:Int)]) [] body).1∧acc'.length + 30 * rest'.length≤30 * body.length) ?_ ?_
  ·rintro xs M7 ⟨av',rv',acc',rest',rfl,g1,g2,g3,g4,g5,g6,g7,g8,g9⟩
   simp only[aV,dE]
   rw[add1 (by omega)]
   exact hnext _ _ _ g1 ⟨i + 1,av',rv',acc',rest',rfl,rfl,g2,g3,g4,g5,g6,g7,g8,g9⟩
  intro J hJ
  rw[hr.len,gq]
  refine gp (fun xs M7=>M7=M6∧∃ k:Nat,xs=[N .i64 (k:Int)]∧1≤k∧k≤rest.length∧(i<sizes.length∨k=rest.length)∧(aW (sizes.drop i++[(body.length:Int)]) acc rest).1=(aW (sizes.drop (i + 1)++[(body.length:Int)]) (acc++cB (rest.take k)) (rest.drop k)).1) ?_ ?_
  ·rintro xs M7 ⟨rfl,k,rfl,hk1,hkl,hik,hstep⟩
   simp only[aV]
   obtain⟨t39,e39,h39,Oq⟩:=He hr (lo:=none) (hi:=some (N .i64 (k:Int))) (Aw 0) (kw _ k .i64) (Nat.zero_le _) hkl
   rw[List.drop_zero,Nat.sub_zero] at h39
   obtain⟨t46,e46,h46,wL⟩:=He hr (lo:=some (N .i64 (k:Int))) (hi:=none) (kw 0 k .i64) (Aw _) hkl (Nat.le_refl _)
   rw[List.take_of_length_le (by simp)] at h46
   have htl:(rest.take k).length=k:=by rw[List.length_take]; omega
   have hdl:(rest.drop k).length=rest.length - k:=List.length_drop
   have hxl:(eT k).length≤20:=kH _ _ _
   have hcb:cB (rest.take k)=eT k++[13,10]++rest.take k++[13,10]:=by unfold cB; rw[htl]
   have hcl:(cB (rest.take k)).length≤24 + k:=by rw[hcb]; simp only[List.length_append,List.length_cons,List.length_nil,htl]; omega
   rw[e39,dM,show(N .i64 16)=N .i64 ((16:Nat) : Int) from rfl]
   refine hx (by omega) ?_
   rw[show iP 16 20 k=eT k from rfl,dM]
   refine⟨rfl, ?_⟩
   rw[aR]
   refine⟨by simp; omega, ?_⟩
   have hSa:(S++acc).length=S.length + acc.length:=List.length_append
   have hhl:(eT k++[13,10]).length=(eT k).length + 2:=by simp
   refine wO oa k6.next (by omega) fun v7 M8 o7 k7=>?_
   have kk7:ae [] M4 M8:=ae.own k6 k7 (fun x hx=>(Own.blk oa x hx).1)
   have nba:∀ {u:AV},(∀ x∈aH u,x∈aH rv)→∀ x∈aH u,x ∉ aH av:=fun hu x hx hm=>by
    have:=(Own.blk oa x hm).1
    have:=hrb x (hu x hx)
    omega
   have nb7:∀ {u:AV},(∀ x∈aH u,x∈aH rv)→∀ x∈aH u,x ∉ aH v7:=fun hu x hx hm=>by
    have:=(Own.blk o7 x hm).1
    have:=hrb x (hu x hx)
    omega
   rw[dM]
   refine⟨rfl, ?_⟩
   refine kL (E:=BY) o7 kk7.next (by decide) (h39.keep k7 (nba Oq)).sl (by rw[htl,List.length_append]; omega) (by rw[htl,List.length_append]; omega) fun v8 M9 o8 k8 _ _=>?_
   have kk8:ae [] M4 M9:=ae.own kk7 k8 (fun x hx=>(Own.blk o7 x hx).1)
   have nb8:∀ {u:AV},(∀ x∈aH u,x∈aH rv)→∀ x∈aH u,x ∉ aH v8:=fun hu x hx hm=>by
    have:=(Own.blk o8 x hm).1
    have:=hrb x (hu x hx)
    omega
   refine wO o8 kk8.next (by rw[List.length_append,List.length_append,htl]; simp only[List.length_cons,List.length_nil]; omega) fun v9 M10 o9 k9=>?_
   have kk9:ae [] M4 M10:=ae.own kk8 k9 (fun x hx=>(Own.blk o8 x hx).1)
   rw[e46,dM]
   refine hJ _ _ ⟨v9,t46,acc++cB (rest.take k),rest.drop k,rfl,by omega,by omega,kk9, ?_,((h46.keep k7 (nba wL)).keep k8 (nb7 wL)).keep k9 (nb8 wL),fun x hx=>hrb x (wL x hx),by omega,by rw[← hstep]; exact hch,by rw[List.length_append]; omega⟩
   have e:S++(acc++cB (rest.take k))=S++acc++(eT k++[13,10])++rest.take k++[13,10]:=by rw[hcb]; simp
   rw[e]; exact o9
  ·intro J2 hJ2
   have hs6:Sl INT M6 sv sizes:=aG.keep hss k6 (by simp)
   rw[aG.len hs6,ny]
   refine bH (fun hlt=>?_) fun hge=>?_
   ·have hlt:i<sizes.length:=of_decide_eq_true hlt
    obtain⟨b0,o0,_,_,hix,hld⟩:=hs6.at 1 (i:Int) hlt
    have hdr:sizes.drop i=sizes[i] :: sizes.drop (i + 1):=List.drop_eq_getElem_cons hlt
    rw[hix,dD]
    refine⟨_,dX.1 hld, ?_⟩
    rw[eU]
    generalize hse:sizes[i]=sz at *
    refine bH (fun h1=>?_) fun h1=>?_
    ·have h1:sz<1:=of_decide_eq_true h1
     refine hJ _ _ ⟨av,rv,acc,rest,rfl,by omega,by omega,k6,oa,hr,hrb,hrl, ?_,Xa⟩
     rw[← hch,hdr,List.cons_append,aW]
     have:decide (fV sz rest<1)=true:=by unfold fV; simp; split <;> omega
     rw[this]
    ·have h1:¬ sz<1:=of_decide_eq_false h1
     rw[hix,dD]
     refine⟨_,dX.1 hld, ?_⟩
     rw[eU]
     have stp:∀ k:Nat,1≤k→fV sz rest=(k:Int)→(aW (sizes.drop i++[(body.length:Int)]) acc rest).1=(aW (sizes.drop (i + 1)++[(body.length:Int)]) (acc++cB (rest.take k)) (rest.drop k)).1:=fun k hk e=>by
      rw[hdr,List.cons_append,aW,e,show decide ((k:Int)<1)=false from decide_eq_false (by omega),Int.toNat_natCast]
     refine bH (fun h2=>?_) fun h2=>?_
     ·have h2:sz<(rest.length:Int):=of_decide_eq_true h2
      rw[hix,dD]
      refine⟨_,dX.1 hld, ?_⟩
      obtain⟨k,rfl⟩ : ∃ k:Nat,sz=(k:Int):=⟨sz.toNat,by omega⟩
      exact hJ2 _ _ ⟨rfl,k,rfl,by omega,by omega,.inl hlt,stp k (by omega) (by unfold fV; rw[if_neg (by omega)])⟩
     ·have h2:¬ sz<(rest.length:Int):=of_decide_eq_false h2
      refine hJ2 _ _ ⟨rfl,rest.length,rfl,by omega,Nat.le_refl _,.inl hlt,stp rest.length (by omega) ?_⟩
      unfold fV
      split <;> omega
   ·have hge:¬ i<sizes.length:=of_decide_eq_false hge
    refine hJ2 _ _ ⟨rfl,rest.length,rfl,by omega,Nat.le_refl _,.inr rfl, ?_⟩
    rw[List.drop_of_length_le (by omega),List.drop_of_length_le (by omega),List.nil_append,aW]
    have e:fV (body.length:Int) rest=(rest.length:Int):=by unfold fV; split <;> omega
    rw[e,show decide ((rest.length:Int)<1)=false from decide_eq_false (by omega),Int.toNat_natCast,List.drop_length,qf,qf]
 ·have h0:rest=[]:=List.length_eq_zero_iff.1 (by have:=of_decide_eq_false h; omega)
  subst h0
  rw[qf] at hch
  have hSa:(S++acc).length=S.length + acc.length:=List.length_append
  refine wO oa k6.next (by simp only[List.length_append,List.length_cons,List.length_nil]; omega) fun v7 M8 o7 k7=>?_
  refine hQ v7 M8 (ae.own k6 k7 (fun x hx=>(Own.blk oa x hx).1)) ?_
  have e:S++Dx true body sizes=S++acc++[48,13,10,13,10]:=by
   show S++((aW (sizes++[(body.length:Int)]) [] body).1++kT)=_
   rw[← hch]; simp
  rw[e]; exact o7
theorem Gy {T TH T8:Nat} {cm cp cn cl cna cva:ak} (hm:fD cO cm) (hp:fD dO cp) (hd:HY 10 cn) (hx:HY 16 cn) (hlow:vK cl) (hna:fD bR cna) (hva:fD aY cva) :
  Gm T8 fun args M Q=>∃ a0 a1 a2 a3,args=[a0,a1,a2,a3]∧qy T cm cp cn TH cl cna cva T8 a0 a1 a2 a3 M Q:=by
 intro M m p body n hv bv sv l sizes rq ck Q hsv hll hle hml hpl hb hbl hss hsl hrk hQ hE
 refine⟨_,_,_,_,rfl, ?_⟩
 unfold qy
 have o1:=aG.one hsv
 have o2:=aG.one hb.sl
 rw[iU (by simp only[List.all_cons,List.all_nil,o1,o2]; rfl) (by simp)]
 simp only[aU (x:=.row [St m,St p,N .i64 n,hv,bv] false T 0)]
 have k0:ae [] M (M.push (.row [St m,St p,N .i64 n,hv,bv] false T 0)):=(ae.refl _ _).push _
 have n0:(M.push (.row [St m,St p,N .i64 n,hv,bv] false T 0)).heap M.next=some (.row [St m,St p,N .i64 n,hv,bv] false T 0):=by simp[RM.push]
 have l0:M.next<(M.push (.row [St m,St p,N .i64 n,hv,bv] false T 0)).next:=by simp[RM.push]
 generalize M.push (.row [St m,St p,N .i64 n,hv,bv] false T 0)=M0 at *
 rw[gK,az n0 (i:=0) rfl,aR]
 refine⟨by simp; omega, ?_⟩
 rw[gK,az n0 (i:=1) rfl,aR]
 refine⟨by simp; omega, ?_⟩
 rw[aR]
 refine⟨by simp; omega, ?_⟩
 refine OL hm hp n0 l0 (by omega) (by omega) fun M1 k1=>?_
 simp only[gK]
 have A:∀ {M' : RM},ae [] M0 M'→M'.heap M.next=some (.row [St m,St p,N .i64 n,hv,bv] false T 0):=fun k=>k.aL n0 l0 (by simp)
 refine bH (fun h=>?_) fun hgood=>?_
 ·exact hE 1 M1 (Me h) (.inl rfl) (k0.trans k1)
 have hR:=J7 (ck:=ck) (l:=l) (body:=body) (sizes:=sizes) hgood hrk
 rw[hR] at hQ hE
 rw[gq]
 refine gp (fun xs M2=>xs=[St (zU rq m p n++[13,10])]∧(zU rq m p n).length≤1000000∧ae [] M0 M2) ?_ ?_
 rotate_left
 ·intro J hJ
  rw[bn]
  cases rq with
  | true =>
    simp only[Bool.not_true,bq]
    have hok:jw m p=true:=by simpa [pK] using hgood
    have hle2:=CE hok
    refine hJ _ _ ⟨?_, ?_,k1⟩
    ·congr 2
     show m++[32]++p++[32,72,84,84,80,47,49,46,49,13,10]=iq m p++[13,10]
     unfold iq
     simp
    ·show(iq m p).length≤_
     unfold iq
     simp; omega
  | false =>
    simp only[Bool.not_false,bW]
    have hbc:nR n=false:=hgood
    unfold nR at hbc
    simp only[Bool.or_eq_false_iff,decide_eq_false_iff_not] at hbc
    obtain⟨nn,hnn⟩ : ∃ k:Nat,n=(k:Int):=⟨n.toNat,by omega⟩
    have hid:iP 10 20 nn=eZ n.toNat:=by rw[hnn,Int.toNat_natCast]; rfl
    have hin:=kH 10 20 nn
    rw[hid] at hin
    rw[az (A k1) (i:=2) rfl,hnn,show(N .i64 10)=N .i64 ((10:Nat) : Int) from rfl]
    refine hd (by omega) ?_
    rw[hid,aR]
    refine⟨by simp; omega, ?_⟩
    rw[aR]
    refine⟨by simp; omega, ?_⟩
    rw[az (A k1) (i:=2) rfl]
    simp only[bX]
    have hw:=NY (n:=n) (by omega) (by omega)
    have hfl:(zU false m p n).length≤1000000:=by
     show(oJ n).length≤_
     unfold oJ
     rw[hw]
     split <;> simp <;> omega
    rw[dh]
    refine kD (p:=decide (n<300)) (fun _ k hk=>by rw[az (A k1) (i:=2) rfl,eU]; exact hk) ?_
    refine bH (fun h=>?_) fun h=>?_
    ·rw[h,if_pos rfl] at hw
     rw[az (A k1) (i:=2) rfl,hnn]
     refine hd (by omega) ?_
     rw[hid,aR]
     refine⟨by simp; omega, ?_⟩
     rw[aR]
     refine⟨by simp; omega, ?_⟩
     refine hJ _ _ ⟨?_,hfl,k1⟩
     congr 2
     show _=oJ n++[13,10]
     unfold oJ
     rw[hw]
     simp
    ·rw[h,if_neg (by decide)] at hw
     refine hJ _ _ ⟨?_,hfl,k1⟩
     congr 2
     show _=oJ n++[13,10]
     unfold oJ
     rw[hw]
     simp
 rintro xs M2 ⟨rfl,hfl,k2⟩
 simp only[aV]
 generalize zU rq m p n=first at *
 clear hR hgood
 refine di (fun mm ys M3=>∃ i:Nat,mm=l.length - i∧ys=[St (l9 first (l.take i)),N .i64 (i:Int)]∧i≤l.length∧(l.take i).all kJ=true∧ae [] M0 M3) _
  ⟨0,rfl,by simp[l9],Nat.zero_le _,rfl,k2⟩ ?_
 rintro next mm ys M3 hnext ⟨i,rfl,rfl,hi,hA,k3⟩
 simp only[aV,dE]
 have k03:=k0.trans k3
 have hv3:Sl HD M3 hv l:=aG.keep hsv k03 (by simp)
 have hlen:(l9 first (l.take i)).length≤1000002 + 1000 * (2 * 281474976710656 + 4):=by
  have:=CS (l.take i) 281474976710656 fun h hh=>hle h (List.mem_of_mem_take hh)
  have h2:(l.take i).length≤1000:=by simp; omega
  have h3:=Nat.mul_le_mul_right (2 * 281474976710656 + 4) h2
  unfold l9
  simp only[List.length_append,List.length_cons,List.length_nil]
  omega
 rw[az (A k3) (i:=3) rfl,aG.len hv3,ny]
 refine bH (fun h=>?_) fun h=>?_
 ·have hlt:i<l.length:=of_decide_eq_true h
  obtain⟨b,off,hb0,_,hix,hld⟩:=hv3.at 2 (i:Int) hlt
  have hhl:=hle l[i] (List.getElem_mem hlt)
  rw[az (A k3) (i:=3) rfl,hix,uC]
  refine⟨_,hld, ?_⟩
  simp only[aU (x:=.row [St [],St []] false TH 0)]
  have n4:(M3.push (.row [St [],St []] false TH 0)).heap M3.next=some (.row [St [],St []] false TH 0):=by simp[RM.push]
  rw[iY n4 (by rfl) (by rfl) (by rfl)]
  have k4:ae [] M3 ((M3.push (.row [St [],St []] false TH 0)).put M3.next (.row (HD.cells l[i]) false TH 0)):=((ae.refl _ _).push _).new _ (Nat.le_refl _)
  have n5:((M3.push (.row [St [],St []] false TH 0)).put M3.next (.row (HD.cells l[i]) false TH 0)).heap M3.next=some (.row (HD.cells l[i]) false TH 0):=aP _
  have l5:M3.next<((M3.push (.row [St [],St []] false TH 0)).put M3.next (.row (HD.cells l[i]) false TH 0)).next:=by simp[RM.push,RM.put]
  generalize (M3.push (.row [St [],St []] false TH 0)).put M3.next (.row (HD.cells l[i]) false TH 0)=M4 at *
  have ld0:∀ {M' : RM} (k:ae [] M4 M') {K' : AV→Prop},aj M' (.ptr M3.next 0) K'=K' (St l[i].1):=fun k=>az (k.aL n5 l5 (by simp)) rfl
  have ld1:∀ {M' : RM} (k:ae [] M4 M') {K' : AV→Prop},aj M' (.ptr M3.next 1) K'=K' (St l[i].2):=fun k=>az (k.aL n5 l5 (by simp)) rfl
  simp only[gK,bX]
  rw[ld0 (ae.refl _ _)]
  have kM4:ae [] M0 M4:=k3.trans k4
  refine hlow (by omega) fun M5 k5=>?_
  rw[ld0 k5]
  refine hna (by omega) fun M6 k6'=>?_
  have k6:=k5.trans k6'
  simp only[bn]
  refine vP (P:=ae [] M4) (p:=!aY l[i].2) k6 (fun _ k hk=>?_) fun M7 k7=>?_
  ·rw[ld1 k6]
   refine hva (by omega) fun M7 k7=>?_
   simp only[bn]
   exact hk M7 (k6.trans k7)
  refine vP (P:=ae [] M4) (p:=low l[i].1 == mq) k7 (fun _ k hk=>by simp only[fu]; exact hk M7 k7) fun M8 k8=>?_
  refine vP (P:=ae [] M4) (p:=low l[i].1 == mR) k8 (fun _ k hk=>by simp only[fu]; exact hk M8 k8) fun M9 k9=>?_
  have hok:kJ l[i]=!(!bR l[i].1 || !aY l[i].2 || low l[i].1 == mq || low l[i].1 == mR):=by
   unfold kJ
   cases bR l[i].1 <;> cases aY l[i].2 <;> cases low l[i].1 == mq <;> cases low l[i].1 == mR <;> rfl
  have htk:(l.take (i + 1)).all kJ=kJ l[i]:=by
   rw[List.take_succ_eq_append_getElem hlt,List.all_append,hA]; simp
  refine bH (fun h=>?_) fun h=>?_
  ·have hbad:kJ l[i]=false:=by rw[hok,h]; rfl
   refine hE 1 M9 ?_ (.inl rfl) (k0.trans (kM4.trans k9))
   have:l.all kJ=false:=by
    rw[← List.take_append_drop (i + 1) l,List.all_append,htk,hbad]; rfl
   unfold ed; rw[this]
  ·have hgd:kJ l[i]=true:=by rw[hok,h]; rfl
   rw[ld0 k9,aR]
   refine⟨by first | omega | (simp; omega), ?_⟩
   rw[aR]
   refine⟨by simp; omega, ?_⟩
   rw[ld1 k9,aR]
   refine⟨by simp; omega, ?_⟩
   rw[aR]
   refine⟨by simp; omega, ?_⟩
   rw[add1 (by omega)]
   refine hnext _ _ _ (by omega) ⟨i + 1,rfl, ?_,by omega,by rw[htk,hgd],kM4.trans k9⟩
   congr 2
   unfold l9
   rw[List.take_succ_eq_append_getElem hlt,List.flatMap_append]
   simp[dN]
 ·have:i=l.length:=by have:=of_decide_eq_false h; omega
  subst this
  rw[List.take_length] at hA hlen
  simp only[List.take_length]
  have hb3:=hb.keep k03 (by simp)
  rw[gq]
  refine gp (fun xs M4=>xs=[St (jV first l (GQ ck body))]∧M4=M3) ?_ ?_
  rotate_left
  ·intro J hJ
   refine bH (fun h=>?_) fun h=>?_
   ·subst h
    rw[aR]
    refine⟨by simp; omega, ?_⟩
    exact hJ _ _ ⟨rfl,rfl⟩
   ·subst h
    rw[aR]
    refine⟨by simp; omega, ?_⟩
    rw[az (A k3) (i:=4) rfl,hb3.len,show(N .i64 10)=N .i64 ((10:Nat) : Int) from rfl]
    refine hd (by omega) ?_
    have hin:=kH 10 20 body.length
    rw[aR]
    refine⟨by simp; omega, ?_⟩
    rw[aR]
    refine⟨by simp; omega, ?_⟩
    refine hJ _ _ ⟨?_,rfl⟩
    congr 2
    show _=jV first l (jY,eZ body.length)
    unfold jV dN eZ
    simp
  rintro xs M4 ⟨rfl,rfl⟩
  simp only[aV,bX,gY]
  generalize hSe:jV first l (GQ ck body)=S at *
  rw[cZ]
  refine sN (p:=decide ((l.length:Int) > 31)) (fun _ k hk=>by rw[az (A k3) (i:=3) rfl,aG.len hv3,cZ]; exact hk) ?_
  refine sN (p:=decide ((body.length:Int) > 16384)) (fun _ k hk=>by rw[az (A k3) (i:=4) rfl,hb3.len,cZ]; exact hk) ?_
  have ht:(decide ((S.length:Int) > 2048) || decide ((l.length:Int) > 31) || decide ((body.length:Int) > 16384))=kK l S body.length:=by
   unfold kK
   rw[show decide (((l.length + 1:Nat) : Int) > 32)=decide ((l.length:Int) > 31) by rw[decide_eq_decide]; omega]
   cases decide ((S.length:Int) > 2048) <;> cases decide ((l.length:Int) > 31) <;> rfl
  rw[ht]
  have hpd:ed first l (GQ ck body) body.length (Dx ck body sizes)=match kK l S body.length with
   | true=>.error 2
   | false=>.ok (S++Dx ck body sizes):=by unfold ed; rw[hA]; dsimp only; rw[hSe]; try rfl
  rw[hpd] at hQ hE
  refine bH (fun h=>?_) fun h=>?_
  ·exact hE 2 M4 (by rw[h]) (.inr rfl) k03
  rw[h] at hQ hE
  have hal:S.length≤2048:=by
   unfold kK at h
   simp only[Bool.or_eq_false_iff,decide_eq_false_iff_not] at h
   omega
  have k4:ae [] M4 (M4.push (.row (BY.row S) true T8 0)):=(ae.refl _ _).push _
  have o4:Ow BY (M4.push (.row (BY.row S) true T8 0)) M4.next T8 (.slc M4.next 0 S.length (.op 1)) S :=
   Own.op _ _ _ (Nat.le_refl _) (by simp[RM.push]) (RM.lh _) (by rw[Enc.gz])
  rw[bn]
  refine bH (fun hc=>?_) fun hc=>?_
  ·have hc:ck=false:=by simpa using hc
   subst hc
   rw[gD]
   simp only[aU]
   rw[az (A (k3.trans k4)) (i:=4) rfl]
   refine kL (E:=BY) o4 k4.next (by decide) (hb3.keep k4 (by simp)).sl (by omega) (by omega) fun v7 M7 o7 k7 _ _=>?_
   refine hQ _ v7 M7 rfl ?_ (Own.mono o7 k03.next)
   refine ae.own (k03.trans k4) k7 (fun x hx=>?_)
   have:=k03.next
   simp[aH] at hx; omega
  ·have hc:ck=true:=by simpa using hc
   subst hc
   rw[gD]
   simp only[aU]
   rw[az (A (k3.trans k4)) (i:=4) rfl]
   generalize M4.push (.row (BY.row S) true T8 0)=M5 at *
   exact Js hx k4 o4 (hb3.keep k4 (by simp)) (aG.keep hss k03 (by simp)) hsl hbl hal hb3.lt fun v' M' k o=>hQ _ v' M' rfl (k03.trans k) (Own.mono o k03.next)
end Go.Ab.Hw
namespace Go.Ab.Hw
open Go Go.Ab Go.Ab.Sm
def XU (x:UInt8) : Bool:=Nat.ble 97 x.toNat && Nat.ble x.toNat 122
def Vr:Str→Nat→Str→Prop
 | [],_,B=>B=[]
 | x :: a,m,B=>∃ y b,B=y :: b∧(match m with
   | 0=>y=x∧Vr a (if x == 10 then 1 else 0) b
   | 1=>if x == 58 then y=x∧Vr a 2 b else(y=x∨(XU x=true∧y=x - 32))∧Vr a 1 b
   | _=>y=x∧Vr a (if x == 10 then 1 else 2) b)
end Go.Ab.Hw
