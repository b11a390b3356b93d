/- Part 4 of the ground of the proofs of this seat (texts H3 to R27). By an AI agent. -/
import Derived.Test.YtmjcgbaacndblaaGreatDoorHwp3
import Derived.Lib.IndexMore
import Derived.Lib.SplitLaws
import Derived.Laws.AppendOwn
import Derived.HandedShaped
set_option maxRecDepth 10000
set_option linter.unusedVariables false
set_option linter.unusedSimpArgs false
namespace Go.Ab.Hw
open Go Go.Ab Go.Ab.Sm
open Go.Ab.Vl (brk kV pR gD fO iJ gQ Aq)
def crlf:Str→Option (Str × Str)
 | []=>none
 | [_]=>none
 | x :: y :: t=>match x == 13 && y == 10 with
   | true=>some ([],t)
   | false=>match crlf (y :: t) with
     | none=>none
     | some p=>some (x :: p.1,p.2)
theorem vD:∀ s:Str,(crlf s=none∧Lib.index s [13,10]=-1)∨∃ a b,crlf s=some (a,b)∧Lib.index s [13,10]=(a.length:Int)∧s=a++13 :: 10 :: b
 | []=>.inl ⟨rfl,by decide⟩
 | [x]=>.inl ⟨rfl,by
   have h:([13,10] : Str).isPrefixOf [x]=false:=by simp[List.isPrefixOf]
   simp[Lib.index,h]⟩
 | x :: y :: t=>by
   unfold crlf
   cases h:x == 13 && y == 10
   ·have hp:([13,10] : Str).isPrefixOf (x :: y :: t)=false:=by
     simp only[List.isPrefixOf,Bool.and_true]
     rw[show((13:UInt8) == x)=(x == 13) from Bool.beq_comm ..,show((10:UInt8) == y)=(y == 10) from Bool.beq_comm ..]
     exact h
    rcases vD (y :: t) with⟨h1,h2⟩ | ⟨a,b,h1,h2,h3⟩
    ·refine .inl ⟨by simp only[h1], ?_⟩
     rw[Lib.index,hp]
     simp[h2]
    ·refine .inr ⟨x :: a,b,by simp only[h1], ?_,by rw[h3]; rfl⟩
     rw[Lib.index,hp]
     simp only[h2]
     have:((a.length:Int) == -1)=false:=by simp
     simp[this]
   ·simp only[Bool.and_eq_true,beq_iff_eq] at h
    obtain⟨rfl,rfl⟩:=h
    exact .inr ⟨[],t,rfl,by simp[Lib.index,List.isPrefixOf],rfl⟩
def BD (B:Base) (c:ai) : Prop:=∀ {M:RM} {v w:AV} {s:Str} {Q:ah},M.base=B→Bs M v s→Bs M w [13,10]→s.length≤1000000000→Q (N .i64 (Lib.index s [13,10])) M→c [v,w] M Q
theorem FM {T:Nat} {M:RM} {K:ah} (hK:∀ v M',Bs M' v [13,10]→ae [] M M'→K v M') :
  dE T 2 [(N .u8 0)] [(0,1,(N .u8 13)),(1,1,(N .u8 10))] fun r f=>bf r f M fun t14 M=>qj t14 M fun t15 M_0=>K t15 M_0:=by
 refine⟨[N .u8 13,N .u8 10],rfl, ?_⟩
 simp only[aT]
 refine⟨M.next,0,2,2,[N .u8 13,N .u8 10],T,rfl,by simp[RM.push], ?_⟩
 refine hK _ _ ⟨?_,Nat.le_refl _⟩ (((ae.refl _ _).push _).new _ (Nat.le_refl _))
 refine aF.slc _ _ _ _ _ (by simp[RM.push,RM.put]) ?_
 rw[RM.gU (aN _) (by decide)]
 rfl
def lV (b:Str) (at' : Nat) : Except Nat (Str × Nat):=match crlf ((b.take 2048).drop at') with
 | some p=>.ok (p.1,at' + p.1.length + 2)
 | none=>match Nat.blt b.length 2048 with
   | true=>.error 15
   | false=>.error 2
def I9 (B:Base) (c:ai) : Prop:=∀ {M:RM} {v:AV} {b:Str} {at' : Nat} {Q:ah},M.base=B→Bs M v b→at'≤b.length→at'≤2048→b.length≤1000000000 →
 (∀ s n M',lV b at'=.ok (s,n)→n≤b.length→n≤2048→s.length≤2048→ae [] M M'→Q (.tup [St s,N .i64 (n:Int),N .i64 0]) M')→(∀ (e:Nat) M',lV b at'=.error e→(e=15∨e=2)→ae [] M M'→Q (.tup [St [],N .i64 0,N .i64 (e:Int)]) M')→c [v,N .i64 (at' : Int)] M Q
theorem KH {B:Base} {T:Nat} {ci:ai} (hi:BD B ci) : I9 B fun args M Q=>∃ a0 a1,args=[a0,a1]∧nk T ci a0 a1 M Q:=by
 intro M v b at' Q hB hv h1 h2 hl hQ hE
 refine⟨_,_,rfl, ?_⟩
 unfold nk
 rw[hv.len,Ll]
 have hm:(if false=true then(if (2048:Int) > (b.length:Int) then(2048:Int) else(b.length:Int)) else if (2048:Int)<(b.length:Int) then 2048 else(b.length:Int))=((min b.length 2048:Nat) : Int):=by
  simp only[Bool.false_eq_true,if_false]
  split <;> omega
 rw[hm]
 refine hv.sub (jX _ _ _) (jX _ _ _) (by omega) (by omega) fun v' hv' hsub=>?_
 have hw:(b.drop at').take (min b.length 2048 - at')=(b.take 2048).drop at':=by
  rw[List.drop_take]
  apply List.take_eq_take_iff.2
  rw[List.length_drop]; omega
 rw[hw] at hv'
 refine FM fun w M1 hw1 k1=>?_
 have hwl:((b.take 2048).drop at').length=min 2048 b.length - at':=by simp
 refine hi (k1.base.trans hB) (hv'.keep k1 (by simp)) hw1 (by rw[hwl]; omega) ?_
 have hv1:=hv.keep k1 (by simp)
 rcases vD ((b.take 2048).drop at') with⟨e1,e2⟩ | ⟨a,r,e1,e2,e3⟩
 ·rw[e2,dJ,show decide ((-1:Int) ≥ 0)=false from rfl,bg,hv1.len,iI]
  by_cases hs:b.length<2048
  ·rw[show decide ((b.length:Int)<2048)=true by simp; omega,bF]
   exact hE 15 _ (by unfold lV; rw[e1]; rw[show Nat.blt b.length 2048=true by rw[Nat.blt_eq]; exact hs]) (.inl rfl) k1
  ·rw[show decide ((b.length:Int)<2048)=false by simp; omega,bg]
   have:Nat.blt b.length 2048=false:=by
    cases h:Nat.blt b.length 2048
    ·rfl
    ·rw[Nat.blt_eq] at h; exact absurd h hs
   exact hE 2 _ (by unfold lV; rw[e1]; simp only[this]) (.inr rfl) k1
 ·have hal:a.length + 2 + r.length=min 2048 b.length - at':=by
   rw[← hwl,e3]; simp; omega
  rw[e2,dJ,show decide ((a.length:Int) ≥ 0)=true by simp,bF,addN (by omega)]
  refine hv1.sub (jX _ _ _) (jX _ _ _) (by omega) (by omega) fun v2 hv2 _=>?_
  have htk:(b.drop at').take (at' + a.length - at')=a:=by
   have:(b.drop at').take a.length=((b.take 2048).drop at').take a.length:=by
    rw[List.drop_take,List.take_take]; congr 1; omega
   rw[Nat.add_sub_cancel_left,this,e3]; simp
  rw[htk] at hv2
  rw[hv2.str,addN (by omega),show(N .i64 2)=(N .i64 ((2:Nat) : Int)) from rfl,addN (by omega)]
  exact hQ _ _ _ (by unfold lV; rw[e1]) (by omega) (by omega) (by omega) k1
def hloop (b:Str) : Nat→Nat→List Hd→Except Nat (List Hd × Nat)
 | f,at',l=>match lV b at' with
   | .error e=>.error e
   | .ok (s,n)=>match s with
     | []=>.ok (l,n)
     | _ :: _=>match f with
       | 0=>.error 2
       | f + 1=>match eO s with
         | none=>.error 14
         | some h=>hloop b f n (l++[h])
theorem jv (b:Str) (f at' : Nat) (l:List Hd) : hloop b f at' l=(match lV b at' with
  | .error e=>.error e
  | .ok (s,n)=>match s with
    | []=>.ok (l,n)
    | _ :: _=>match f with
      | 0=>.error 2
      | f + 1=>match eO s with
        | none=>.error 14
        | some h=>hloop b f n (l++[h])):=by rw[hloop.eq_def]
def headD (p:Str→Bool) (b:Str) : Except Nat (Str × List Hd × Nat):=match lV b 0 with
 | .error e=>.error e
 | .ok (s,n)=>match p s with
   | false=>.error 14
   | true=>match hloop b 32 n [] with
     | .error e=>.error e
     | .ok (l,at')=>.ok (s,l,at')
def BL (B:Base) (cv:FuncId→ai) (a1:AV) (p:Str→Bool) (br:Nat) (X0:RB) (X:Str→RB) : Prop:=∀ {M:RM} {s:Str} {K:ah},M.base=B→br<M.next→M.heap br=some X0→s.length≤2048 →
 (p s=false→∀ M',ae [br] M M'→K (Bo false) M')→(p s=true→∀ M',ae [br] M M'→M'.heap br=some (X s)→K (Bo true) M')→yV cv a1 [St s] M K
def EF (B:Base) (a1:AV) (p:Str→Bool) (br:Nat) (X0:RB) (X:Str→RB) (T:Nat) (c:ai) : Prop:=∀ {M:RM} {v:AV} {b:Str} {Q:ah},M.base=B→Bs M v b→b.length≤1000000000→br<M.next→br ∉ aP v→M.heap br=some X0 →
 (∀ (e:Nat) M',headD p b=.error e→(e=15∨e=2∨e=14)→ae [br] M M'→Q (.tup [aJ,N .i64 0,N .i64 (e:Int)]) M') →
 (∀ s l at' hv M',headD p b=.ok (s,l,at')→at'≤b.length→s.length≤2048→l.length≤32→ae [br] M M'→M'.heap br=some (X s)→Ow HD M' M.next T hv l→Q (.tup [hv,N .i64 (at' : Int),N .i64 0]) M')→c [v,a1] M Q
theorem LW {B:Base} {a1:AV} {p:Str→Bool} {br:Nat} {X0:RB} {X:Str→RB} {T:Nat} {cl ch:ai} {cv:FuncId→ai} (hL:I9 B cl) (hH:Di B ch) (hF:BL B cv a1 p br X0 X) :
  EF B a1 p br X0 X T fun args M Q=>∃ a0 a1,args=[a0,a1]∧mQ cl cv ch T a0 a1 M Q:=by
 intro M v b Q hB hv hl hbr hbv hX0 hE hQ
 refine⟨_,_,rfl, ?_⟩
 unfold mQ
 refine hL (at':=0) hB hv (Nat.zero_le _) (Nat.zero_le _) hl (fun s n M1 e1 n1 n2 hs k1=>?_) (fun e M1 e1 he k1=>?_)
 rotate_left
 ·simp only[aY,aZ,dW,fD]
  rw[show(((e:Nat) : Int) != 0)=true by rcases he with rfl | rfl <;> rfl,bF]
  exact hE e M1 (by unfold headD; rw[e1]) (by omega) (k1.mono (by simp))
 simp only[aY,aZ,dW,Ak,bg]
 have hX1:=k1.aO hX0 hbr (by simp)
 refine hF (k1.base.trans hB) (Nat.lt_of_lt_of_le hbr k1.next) hX1 hs (fun hp M2 k2=>?_) (fun hp M2 k2 hX2=>?_)
 ·simp only[di,Bool.not_false,bF]
  exact hE 14 M2 (by unfold headD; rw[e1]; simp only[hp]) (by omega) ((k1.mono (by simp)).trans k2)
 simp only[di,Bool.not_true,bg]
 have k12:ae [br] M M2:=(k1.mono (by simp)).trans k2
 have target:∀ r,hloop b 32 n []=r→headD p b=(match r with | .error e=>.error e | .ok (l,at')=>.ok (s,l,at')):=by
  rintro r rfl
  unfold headD; rw[e1]; simp only[hp]
 have hbM:∀ x,M.next≤x→x≠br:=fun x hx e=>by omega
 refine eG (fun m ys M3=>∃ (at' : Nat) (hv:AV) (l:List Hd),ys=[hv,N .i64 (at' : Int)]∧l.length + m=32∧at'≤b.length∧at'≤2048∧Ow HD M3 M.next T hv l∧ae [br] M M3∧M3.heap br=some (X s)∧hloop b m at' l=hloop b 32 n []) _
  ⟨n,aJ,[],rfl,rfl,n1,n2,.nil,k12,hX2,rfl⟩ ?_
 rintro next m ys M3 hnext ⟨at',hv',l,rfl,hlen,ha1,ha2,hO,k3,hX3,heq⟩
 simp only[bB,cO]
 have hv3:=hv.keep k3 (fun x hx hb=>by simp at hb; subst hb; exact hbv hx)
 refine hL (k3.base.trans hB) hv3 ha1 ha2 hl (fun t n' M4 e4 n41 n42 ht k4=>?_) (fun e M4 e4 he k4=>?_)
 rotate_left
 ·simp only[aY,aZ,dW,fD]
  rw[show(((e:Nat) : Int) != 0)=true by rcases he with rfl | rfl <;> rfl,bF]
  refine hE e M4 (target (.error e) ?_) (by omega) (k3.trans (k4.mono (by simp)))
  rw[← heq,jv,e4]
 simp only[aY,aZ,dW,Ak,bg,dS]
 have hO4:Ow HD M4 M.next T hv' l:=hO.keep k4 (by simp)
 have k34:ae [br] M M4:=k3.trans (k4.mono (by simp))
 have hX4:=k4.aO hX3 (Nat.lt_of_lt_of_le hbr k3.next) (by simp)
 cases t with
 | nil =>
   rw[show(([] : List UInt8) == [])=true from rfl,bF]
   refine hQ s l n' hv' M4 (target (.ok (l,n')) ?_) n41 hs (by omega) k34 hX4 hO4
   rw[← heq,jv,e4]
 | cons t0 ts =>
   rw[show((t0 :: ts:List UInt8) == [])=false from rfl,bg,hO4.kY.len,bI]
   cases m with
   | zero =>
     rw[show((l.length:Int) == 32)=true by simp; omega,bF]
     refine hE 2 M4 (target (.error 2) ?_) (by omega) k34
     rw[← heq,jv,e4]
   | succ m =>
     rw[show((l.length:Int) == 32)=false by simp; omega,bg]
     have tail:∀ (a c:Str) (ok:Bool) (M5:RM),ae [] M4 M5→((ok=true∧eO (t0 :: ts)=some (a,c))∨(ok=false∧eO (t0 :: ts)=none)) →
       (aC (.tup [.agg [St a,St c],Bo ok]) 0 fun t46=>aC (.tup [.agg [St a,St c],Bo ok]) 1 fun t47 =>
        bf (.row [(St []),(St [])] false T 0) (fun b=>.ptr b 0) M5 fun t8 M_4=>aH M_4 t8 t46 2 fun M_5=>fQ t47 fun t49=>au t49 ( Q (.tup [(.sc (.slice none 0 0)),(N .i64 0),(N .i64 14)]) M_5) ( bu M_5 t8 2 fun t51=>dE T 1 [(St []),(St [])] [(0,2,t51)] fun r f=>bf r f M_5 fun t52 M_6=>appW T 2 32 [(St []),(St [])] false hv' t52 M_6 fun t53 M_7=>next [t53,N .i64 (n' : Int)] M_7)):=by
      intro a c ok M5 k5 hr
      simp only[aY,aZ,aT]
      have n5:(M5.push (.row [St [],St []] false T 0)).heap M5.next=some (.row [St [],St []] false T 0):=by simp[RM.push]
      rw[jJ n5 (by rfl) (by rfl) (by rfl)]
      have k6:ae [] M5 ((M5.push (.row [St [],St []] false T 0)).put M5.next (.row [St a,St c] false T 0)):=((ae.refl _ _).push _).new _ (Nat.le_refl _)
      have n6:((M5.push (.row [St [],St []] false T 0)).put M5.next (.row [St a,St c] false T 0)).heap M5.next=some (.row [St a,St c] false T 0):=aN _
      generalize (M5.push (.row [St [],St []] false T 0)).put M5.next (.row [St a,St c] false T 0)=M6 at *
      have k46:ae [] M4 M6:=k5.trans k6
      rcases hr with⟨rfl,hh⟩ | ⟨rfl,hh⟩
      ·simp only[di,Bool.not_true,bg]
       rw[bJ n6 (by rfl),zB (by rfl) (by rfl) (by rfl)]
       simp only[aT]
       refine zD (E:=HD) (a:=(a,c)) (hO4.keep k46 (by simp)) (Nat.le_trans (Nat.le_trans k34.next k46.next) (Nat.le_refl _)) (by decide) (by omega) (by omega) fun v7 M7 o7 k7 _ _=>?_
       have hb7:∀ x∈aP hv',x≠br:=fun x hx=>hbM x (hO4.blk x hx).1
       refine hnext m _ _ (by omega) ⟨n',v7,l++[(a,c)],rfl,by simp; omega,n41,n42,o7, ?_, ?_, ?_⟩
       ·have:=(k34.trans (k46.mono (by simp)))
        refine⟨k7.base.trans this.base,Nat.le_trans this.next k7.next,fun x hx hb=>?_⟩
        have hlt:=Nat.lt_of_lt_of_le hx this.next
        rw[k7.heap x hlt (fun h=>by have:=(hO4.blk x h).1; omega),this.heap x hx hb]
       ·have h6:=k46.aO hX4 (Nat.lt_of_lt_of_le hbr k34.next) (by simp)
        exact k7.aO h6 (Nat.lt_of_lt_of_le hbr (Nat.le_trans k34.next k46.next)) (fun h=>hb7 _ h rfl)
       ·rw[← heq,jv b (m + 1),e4]
        simp only[hh]
      ·simp only[di,Bool.not_false,bF]
       refine hE 14 M6 (target (.error 14) ?_) (by omega) (k34.trans (k46.mono (by simp)))
       rw[← heq,jv,e4]
       simp only[hh]
     refine hH (k34.base.trans hB) (by omega) (fun h M5 hh k5=>?_) (fun a c M5 hh k5=>?_)
     ·exact tail h.1 h.2 true M5 k5 (.inl ⟨rfl,hh⟩)
     ·exact tail a c false M5 k5 (.inr ⟨rfl,hh⟩)
def isNamed (n:Str) (h:Hd) : Bool:=low h.1 == low n
def aX (l:List Hd) (n:Str) : List Str:=(l.filter (isNamed n)).map (·.2)
theorem JB {l:List Hd} {n:Str} {i:Nat} (hi:i<l.length) : aX (l.take (i + 1)) n=aX (l.take i) n++(if isNamed n l[i] then[l[i].2] else[]):=by
 unfold aX
 rw[List.take_succ_eq_append_getElem hi,List.filter_append,List.map_append]
 congr 1
 cases h:isNamed n l[i] <;> simp[h]
def BA (T:Nat) (c:ai) : Prop:=∀ {M:RM} {v:AV} {l:List Hd} {n:Str} {Q:ah},Sl HD M v l→l.length≤1000000→(∀ h∈l,h.1.length<4611686018427387904)→n.length<4611686018427387904 →
 (∀ v' M',Ow nE M' M.next T v' (aX l n)→ae [] M M'→Q v' M')→c [v,St n] M Q
theorem Jj {TH T:Nat} {cs:ai} (hs:Ah cs) : BA T fun args M Q=>∃ a0 a1,args=[a0,a1]∧mh TH cs T a0 a1 M Q:=by
 intro M v l n Q hv hl hnl hn hQ
 refine⟨_,_,rfl, ?_⟩
 unfold mh
 rw[aF.len hv]
 refine eG (fun m ys M3=>∃ (i:Nat) (o:AV),m=l.length - i∧ys=[o,N .i64 (i:Int)]∧i≤l.length∧Ow nE M3 M.next T o (aX (l.take i) n)∧ae [] M M3) _ ⟨0,aJ,rfl,rfl,Nat.zero_le _,.nil,ae.refl _ _⟩ ?_
 rintro next m ys M3 hnext ⟨i,o,rfl,rfl,hi,hO,k3⟩
 simp only[bB,cO,Au]
 refine dQ (fun h=>?_) fun h=>?_
 ·have hlt:i<l.length:=by simpa using h
  have hv3:Sl HD M3 v l:=aF.keep hv k3 (by simp)
  obtain⟨b,off,hb,_,hix,hld⟩:=hv3.at 2 (i:Int) hlt
  rw[oq,hix,wU]
  refine⟨_,hld, ?_⟩
  simp only[aT]
  have n4:(M3.push (.row [St [],St []] false TH 0)).heap M3.next=some (.row [St [],St []] false TH 0):=by simp[RM.push]
  rw[jJ n4 (by rfl) (by rfl) (by rfl)]
  have k4:ae [] M3 ((M3.push (.row [St [],St []] false TH 0)).put M3.next (.row (HD.cells l[i]) false TH 0)):=((ae.refl _ _).push _).new _ (Nat.le_refl _)
  have n5:((M3.push (.row [St [],St []] false TH 0)).put M3.next (.row (HD.cells l[i]) false TH 0)).heap M3.next=some (.row (HD.cells l[i]) false TH 0):=aN _
  have l5:M3.next<((M3.push (.row [St [],St []] false TH 0)).put M3.next (.row (HD.cells l[i]) false TH 0)).next:=by simp[RM.push,RM.put]
  generalize (M3.push (.row [St [],St []] false TH 0)).put M3.next (.row (HD.cells l[i]) false TH 0)=M4 at *
  rw[jb,aI n5 (by rfl:(HD.cells l[i])[0]?=some (St l[i].1))]
  refine hs (by have:=hnl l[i] (List.getElem_mem hlt); omega) fun M5 k5=>?_
  refine hs (by omega) fun M6 k6=>?_
  have k46:=k4.trans (k5.trans k6)
  have n6:=(k5.trans k6).aO n5 l5 (by simp)
  simp only[dS,add1 (show i<4611686018427387904 by omega)]
  have nt:=JB (n:=n) hlt
  refine dQ (fun h=>?_) fun h=>?_
  ·have hin:isNamed n l[i]=true:=h
   rw[hin,if_pos rfl] at nt
   rw[jb,aI n6 (by rfl:(HD.cells l[i])[1]?=some (St l[i].2)),zB (by rfl) (by rfl) (by rfl)]
   simp only[aT]
   have hO6:Ow nE M6 M.next T o (aX (l.take i) n):=hO.keep k46 (by simp)
   have hlen:(aX (l.take i) n).length≤1000000:=by
    unfold aX
    rw[List.length_map]
    refine Nat.le_trans (List.length_filter_le _ _) ?_
    simp; omega
   refine zD (E:=nE) (a:=l[i].2) hO6 (Nat.le_trans k3.next k46.next) (by decide) (by omega) (by omega) fun v7 M7 o7 k7 _ _=>?_
   refine hnext _ _ _ (by omega) ⟨i + 1,v7,rfl,rfl,by omega,by rw[nt]; exact o7, ?_⟩
   have kk:=k3.trans k46
   refine⟨k7.base.trans kk.base,Nat.le_trans kk.next k7.next,fun x hx hb=>?_⟩
   rw[k7.heap x (Nat.lt_of_lt_of_le hx kk.next) (fun h=>by have:=(hO6.blk x h).1; omega),kk.heap x hx hb]
  ·have hin:isNamed n l[i]=false:=h
   rw[hin,if_neg (by decide),List.append_nil] at nt
   exact hnext _ _ _ (by omega) ⟨i + 1,o,rfl,rfl,by omega,by rw[nt]; exact hO.keep k46 (by simp),k3.trans k46⟩
 ·have:i=l.length:=by simp at h; omega
  subst this
  rw[List.take_length] at hO
  exact hQ o M3 hO k3
def kP:List Str→AV
 | []=>.tup [St [],Bo false]
 | s :: _=>.tup [St s,Bo true]
def Kj (c:ai) : Prop:=∀ {M:RM} {v:AV} {l:List Hd} {n:Str} {Q:ah},Sl HD M v l→l.length≤1000000→(∀ h∈l,h.1.length<4611686018427387904)→n.length<4611686018427387904 →
 (∀ M',ae [] M M'→Q (kP (aX l n)) M')→c [v,St n] M Q
theorem Kg {T:Nat} {cn:ai} (hn:BA T cn) : Kj fun args M Q=>∃ a0 a1,args=[a0,a1]∧mE cn a0 a1 M Q:=by
 intro M v l n Q hv hl h1 h2 hQ
 refine⟨_,_,rfl, ?_⟩
 unfold mE
 refine hn hv hl h1 h2 fun v' M1 o k1=>?_
 have hs:Sl nE M1 v' (aX l n):=Own.kY o
 rw[hs.len,dI]
 have hQ:=hQ M1 k1
 generalize aX l n=xs at *
 cases xs with
 | nil =>
   rw[show decide ((([] : List Str).length:Int) > 0)=false from rfl,bg]
   exact hQ
 | cons x xs =>
   rw[show decide (((x :: xs).length:Int) > 0)=true by simp,bF]
   obtain⟨b,o',_,_,hix,hld⟩:=hs.at 1 0 (i:=0) (by simp)
   rw[hix,dU]
   exact⟨_,dX.1 hld,hQ⟩
theorem MG {T:Nat} {cf:ai} (hf:Kj cf) {M:RM} {x y v:AV} {tl:List AV} {l:List Hd} {n:Str} {Q:ah} (hv:Sl HD M v l) (hl:l.length≤1000000) (h1:∀ h∈l,h.1.length<4611686018427387904) (h2:n.length<4611686018427387904)
  (hc:(x :: y :: v :: tl).all oneCell=true) (hQ:∀ M',ae [] M M'→Q (kP (aX l n)) M') : iV T cf (.agg (x :: y :: v :: tl)) (St n) M Q:=by
 unfold iV
 rw[jr hc (by simp)]
 simp only[aT]
 have k1:ae [] M (M.push (.row (x :: y :: v :: tl) false T 0)):=(ae.refl _ _).push _
 have n1:(M.push (.row (x :: y :: v :: tl) false T 0)).heap M.next=some (.row (x :: y :: v :: tl) false T 0):=by simp[RM.push]
 rw[jb,aI n1 (by rfl:(x :: y :: v :: tl)[2]?=some v)]
 refine hf (aF.keep hv k1 (by simp)) hl h1 h2 fun M2 k2=>?_
 have:=hQ M2 (k1.trans k2)
 generalize aX l n=xs at *
 cases xs <;> simpa only[kP,aY,aZ] using this
theorem KL {T:Nat} {cf:ai} (hf:Kj cf) {M:RM} {x v:AV} {tl:List AV} {l:List Hd} {n:Str} {Q:ah} (hv:Sl HD M v l) (hl:l.length≤1000000) (h1:∀ h∈l,h.1.length<4611686018427387904) (h2:n.length<4611686018427387904)
  (hc:(x :: v :: tl).all oneCell=true) (hQ:∀ M',ae [] M M'→Q (kP (aX l n)) M') : iq T cf (.agg (x :: v :: tl)) (St n) M Q:=by
 unfold iq
 rw[jr hc (by simp)]
 simp only[aT]
 have k1:ae [] M (M.push (.row (x :: v :: tl) false T 0)):=(ae.refl _ _).push _
 have n1:(M.push (.row (x :: v :: tl) false T 0)).heap M.next=some (.row (x :: v :: tl) false T 0):=by simp[RM.push]
 rw[jb,aI n1 (by rfl:(x :: v :: tl)[1]?=some v)]
 refine hf (aF.keep hv k1 (by simp)) hl h1 h2 fun M2 k2=>?_
 have:=hQ M2 (k1.trans k2)
 generalize aX l n=xs at *
 cases xs <;> simpa only[kP,aY,aZ] using this
def JR (B:Base) (c:ai) : Prop:=∀ {M:RM} {v w:AV} {s:Str} {Q:ah},M.base=B→Bs M v s→Bs M w [13,10]→s.length≤1000000000 →
 (∀ a r v1 v2,crlf s=some (a,r)→Bs M v1 a→Q (.tup [v1,v2,Bo true]) M)→(crlf s=none→Q (.tup [v,aJ,Bo false]) M)→c [v,w] M Q
theorem qK {s a r:Str} (h:crlf s=some (a,r)) : s=a++13 :: 10 :: r∧a.length + 2 + r.length=s.length:=by
 rcases vD s with⟨h1,_⟩ | ⟨a',r',h1,_,h3⟩
 ·rw[h] at h1; cases h1
 ·rw[h] at h1; cases h1
  refine⟨h3, ?_⟩
  rw[h3]; simp; omega
theorem LC {B:Base} {ci:ai} (hi:BD B ci) : JR B fun args M Q=>∃ a0 a1,args=[a0,a1]∧uh ci a0 a1 M Q:=by
 intro M v w s Q hB hv hw hl hQ hN
 refine⟨_,_,rfl, ?_⟩
 unfold uh
 refine hi hB hv hw hl ?_
 rcases vD s with⟨e1,e2⟩ | ⟨a,r,e1,e2,e3⟩
 ·rw[e2,dJ,show decide ((-1:Int) ≥ 0)=false from rfl,bg]
  exact hN e1
 ·have hal:=(qK e1).2
  rw[e2,dJ,show decide ((a.length:Int) ≥ 0)=true by simp,bF]
  refine hv.sub (Dt 0) (jX _ _ _) (Nat.zero_le _) (by omega) fun v1 hv1 _=>?_
  rw[hw.len,addN (show a.length + ([13,10] : Str).length<4611686018427387904 by simp; omega)]
  refine hv.sub (jX _ _ _) (Dt _) (by simp; omega) (Nat.le_refl _) fun v2 hv2 _=>?_
  refine hQ a r v1 v2 e1 ?_
  have:(s.drop 0).take (a.length - 0)=a:=by rw[e3]; simp
  rw[this] at hv1; exact hv1
def jP (x:UInt8) : Nat:=if x.toNat≤57 then x.toNat - 48 else if x.toNat≤90 then x.toNat - 55 else x.toNat - 87
def iX (s:Str) : Nat:=s.foldl (fun n x=>n * 16 + jP x) 0
def gM (s:Str) : Nat:=s.foldl (fun n x=>n * 10 + (x.toNat - 48)) 0
def CP (c:ai) : Prop:=∀ {M:RM} {s:Str} {Q:ah},1≤s.length→s.length≤8→(low s).all jE=true→(∀ M',ae [] M M'→Q (.tup [N .u64 (iX s:Int),.sc .nilIface]) M')→c [St s,N .i64 16,N .i64 64] M Q
def Ky (c:ai) : Prop:=∀ {M:RM} {s:Str} {Q:ah},1≤s.length→s.length≤9→s.all dM=true→(∀ M',ae [] M M'→Q (.tup [N .i64 (gM s:Int),.sc .nilIface]) M')→c [St s] M Q
theorem I1 {x:UInt8} (h:jE (bU x)=true) : jP x<16:=by
 unfold jE dM at h
 unfold jP
 simp only[Bool.or_eq_true,Bool.and_eq_true,decide_eq_true_eq] at h
 have hx:=Cj x
 have hl:(bU x).toNat=x.toNat∨((bU x).toNat=x.toNat + 32∧65≤x.toNat∧x.toNat≤90):=by
  unfold bU
  split
  ·right
   refine⟨?_,by omega,by omega⟩
   rw[UInt8.toNat_add]
   show(x.toNat + 32) % 256=_
   omega
  ·exact .inl rfl
 split
 ·omega
 ·split <;> omega
theorem GK:∀ (s:Str) (n:Nat),(low s).all jE=true→s.foldl (fun n x=>n * 16 + jP x) n<(n + 1) * 16 ^ s.length
 | [],n,_=>by simp
 | x :: s,n,h=>by
   simp only[low,List.map_cons,List.all_cons,Bool.and_eq_true] at h
   have hd:=I1 h.1
   have:=GK s (n * 16 + jP x) h.2
   rw[List.foldl_cons]
   refine Nat.lt_of_lt_of_le this ?_
   rw[List.length_cons,Nat.pow_succ,Nat.mul_comm (16 ^ s.length) 16,← Nat.mul_assoc]
   exact Nat.mul_le_mul_right _ (by omega)
theorem Ir {s:Str} (h:(low s).all jE=true) (hl:s.length≤8) : iX s<4294967296:=by
 have:=GK s 0 h
 unfold iX
 refine Nat.lt_of_lt_of_le this ?_
 rw[Nat.zero_add,Nat.one_mul]
 exact Nat.le_trans (Nat.pow_le_pow_right (by decide) hl) (by decide)
def lQ (s:Str) : Bool:=gV s 1 8 && (low s).all jE
def lU (r:Str) : Except Nat (Nat × Str):=match crlf r with
 | none=>match Nat.blt 10 r.length with
   | true=>.error 14
   | false=>.error 15
 | some p=>match lQ p.1 with
   | true=>.ok (iX p.1,p.2)
   | false=>.error 14
def Jl (B:Base) (c:ai) : Prop:=∀ {M:RM} {v:AV} {b:Str} {at' : Nat} {Q:ah},M.base=B→Bs M v b→at'≤b.length→b.length≤1000000000 →
 (∀ n r at2 M',lU (b.drop at')=.ok (n,r)→at2≤b.length→at' + 2<at2→b.drop at2=r→n<4294967296→ae [] M M'→Q (.tup [N .i64 (n:Int),N .i64 (at2:Int),N .i64 0]) M') →
 (∀ (e:Nat) M',lU (b.drop at')=.error e→(e=14∨e=15)→ae [] M M'→Q (.tup [N .i64 0,N .i64 0,N .i64 (e:Int)]) M')→c [v,N .i64 (at' : Int)] M Q
theorem Ma {B:Base} {T g:Nat} {cc cw cs ca cp:ai} (hc:JR B cc) (hw:qB cw) (hs:Ah cs) (ha:lc jE (.fn (.func g) [] []) ca) (hp:CP cp) :
  Jl B fun args M Q=>∃ a0 a1,args=[a0,a1]∧ny T cc cw cs ca g cp a0 a1 M Q:=by
 intro M v b at' Q hB hv h1 hl hQ hE
 refine⟨_,_,rfl, ?_⟩
 unfold ny
 refine hv.sub (jX _ _ _) (Dt _) h1 (Nat.le_refl _) fun v1 hv1 _=>?_
 have hd:(b.drop at').take (b.length - at')=b.drop at':=List.take_of_length_le (by simp)
 rw[hd] at hv1
 refine FM fun w M1 hw1 k1=>?_
 have hv2:=hv1.keep k1 (by simp)
 have hdl:(b.drop at').length=b.length - at':=by simp
 refine hc (k1.base.trans hB) hv2 hw1 (by rw[hdl]; omega) (fun a r u1 u2 hcr hu1=>?_) (fun hcr=>?_)
 ·have hlen:=(qK hcr).2
  simp only[aY,aZ,dW,di,Bool.not_true,dx,jq,dF,bg]
  rw[hu1.str]
  refine hw ?_
  simp only[di]
  -- the two tests
  have tail:∀ M2,ae [] M M2→Bs M2 u1 a→((au (Bo (!lQ a)) (Q (.tup [(N .i64 0),(N .i64 0),(N .i64 14)]) M2) (
    cz M2 u1 fun t44=>cp [t44,(N .i64 16),(N .i64 64)] M2 fun t45 AP=>aC t45 0 fun t46=>aC t45 1 fun t47=>il .i64 t46 fun t49=>aR u1 fun t52=>af .add (N .i64 (at' : Int)) t52 fun t53=>af .add t53 (N .i64 2) fun t54=>Q (.tup [t49,t54,(N .i64 0)]) AP))):=by
   intro M2 k2 hu2
   refine dQ (fun h=>?_) fun h=>?_
   ·have hk:lQ a=false:=by simpa using h
    exact hE 14 M2 (by unfold lU; rw[hcr]; simp only[hk]) (.inl rfl) k2
   ·have hk:lQ a=true:=by simpa using h
    have hk':=hk
    unfold lQ gV at hk'
    simp only[Bool.and_eq_true,decide_eq_true_eq] at hk'
    rw[hu2.str]
    refine hp (by omega) (by omega) hk'.2 fun M3 k3=>?_
    have hlt:=Ir hk'.2 (by omega)
    simp only[aY,aZ,lS]
    rw[gT (by omega) (by omega),hu2.len,addN (by omega),show(N .i64 2)=(N .i64 ((2:Nat) : Int)) from rfl,addN (by omega)]
    refine hQ (iX a) r (at' + a.length + 2) M3 (by unfold lU; rw[hcr]; simp only[hk]) (by omega) (by omega) ?_ hlt (k2.trans k3)
    have e3:=(qK hcr).1
    rw[show at' + a.length + 2=at' + (a.length + 2) by omega,← List.drop_drop,e3,← List.drop_drop]
    simp
  cases hwi:gV a 1 8 with
  | false =>
    simp only[Bool.not_false,dH,bY]
    have:=tail M1 k1 hu1
    unfold lQ at this
    rw[hwi] at this
    simpa only[Bool.false_and,Bool.not_false] using this
  | true =>
    simp only[Bool.not_true,bR,dF]
    rw[hu1.str]
    refine hs (by omega) fun M2 k2=>?_
    refine ha (by rw[low,List.length_map]; omega) fun M3 k3=>?_
    have k23:=k2.trans k3
    have:=tail M3 (k1.trans k23) (hu1.keep k23 (by simp))
    unfold lQ at this
    rw[hwi] at this
    simpa only[di,Bool.true_and,dF] using this
 ·simp only[aY,aZ,dW,di,Bool.not_false,dx,cK,bY]
  rw[hv2.len,dI,hdl]
  by_cases h10:10<b.length - at'
  ·rw[show decide (((b.length - at' : Nat) : Int) > 10)=true by simp; omega,bF]
   exact hE 14 M1 (by unfold lU; rw[hcr]; simp only[hdl]; rw[show Nat.blt 10 (b.length - at')=true by rw[Nat.blt_eq]; exact h10]) (.inl rfl) k1
  ·rw[show decide (((b.length - at' : Nat) : Int) > 10)=false by simp; omega,bg,bF]
   refine hE 15 M1 ?_ (.inr rfl) k1
   unfold lU; rw[hcr]; simp only[hdl]
   have:Nat.blt 10 (b.length - at')=false:=by
    cases h:Nat.blt 10 (b.length - at')
    ·rfl
    ·rw[Nat.blt_eq] at h; exact absurd h h10
   rw[this]
end Go.Ab.Hw
namespace Go.Ab.Hw
open Go Go.Ab Go.Ab.Sm
theorem ae.own {bs:List Nat} {M M1 M2:RM} {v:AV} (k1:ae bs M M1) (k2:ae (aP v) M1 M2) (hv:∀ b∈aP v,M.next≤b) : ae bs M M2 :=
 ⟨k2.base.trans k1.base,Nat.le_trans k1.next k2.next,fun x hx hb=>by
  rw[k2.heap x (Nat.lt_of_lt_of_le hx k1.next) (fun h=>by have:=hv x h; omega),k1.heap x hx hb]⟩
def dz:Nat→Str→Str→Except Nat (Str × Str)
 | 0,_,_=>.error 99
 | f + 1,r,out=>match lU r with
   | .error e=>.error e
   | .ok (n,r1)=>match Nat.blt (16384 - out.length) n with
     | true=>.error 2
     | false=>match Nat.blt r1.length (n + 2) with
       | true=>.error 15
       | false=>match (r1.drop n).take 2 == [13,10] with
         | false=>.error 14
         | true=>match Nat.beq n 0 with
           | true=>.ok (out,r1.drop 2)
           | false=>dz f (r1.drop (n + 2)) (out++r1.take n)
theorem Cb {a b:Nat} (h:a<b) : Nat.blt a b=true:=by rw[Nat.blt_eq]; exact h
theorem iD {a b:Nat} (h:¬ a<b) : Nat.blt a b=false:=by
 cases e:Nat.blt a b
 ·rfl
 ·rw[Nat.blt_eq] at e; exact absurd e h
theorem PP {n:Nat} (h:n≠0) : Nat.beq n 0=false:=by cases n <;> first | exact absurd rfl h | rfl
theorem LZ {r r1:Str} {n:Nat} (h:lU r=.ok (n,r1)) : r1.length + 2<r.length:=by
 unfold lU at h
 split at h
 ·split at h <;> cases h
 ·rename_i p hp
  obtain⟨a,q⟩:=p
  have:=(qK hp).2
  split at h
  ·rename_i hk
   cases h
   unfold lQ gV at hk
   simp only[Bool.and_eq_true,decide_eq_true_eq] at hk
   show q.length + 2<r.length
   omega
  ·cases h
theorem wY:∀ (f g:Nat) (r out:Str),r.length<f→r.length<g→dz f r out=dz g r out
 | 0,_,_,_,h,_=>absurd h (by omega)
 | _,0,_,_,_,h=>absurd h (by omega)
 | f + 1,g + 1,r,out,h1,h2=>by
   rw[dz,dz]
   cases hs:lU r with
   | error e=>rfl
   | ok p =>
     obtain⟨n,r1⟩:=p
     have:=LZ hs
     dsimp only
     repeat' split
     all_goals first | rfl | skip
     exact wY f g _ _ (by simp; omega) (by simp; omega)
def Ap (B:Base) (T:Nat) (c:ai) : Prop:=∀ {M:RM} {v:AV} {b:Str} {at' : Nat} {Q:ah},M.base=B→Bs M v b→at'≤b.length→b.length≤1000000000 →
 (∀ out r at2 ov M',dz (b.length - at' + 1) (b.drop at') []=.ok (out,r)→at2≤b.length→at'≤at2→b.drop at2=r→out.length≤16384→ae [] M M'→Ow BY M' M.next T ov out→Q (.tup [ov,N .i64 (at2:Int),N .i64 0]) M') →
 (∀ (e:Nat) M',dz (b.length - at' + 1) (b.drop at') []=.error e→(e=14∨e=15∨e=2)→ae [] M M'→Q (.tup [aJ,N .i64 0,N .i64 (e:Int)]) M')→c [v,N .i64 (at' : Int)] M Q
theorem EX {B:Base} {T:Nat} {cs:ai} (hs:Jl B cs) : Ap B T fun args M Q=>∃ a0 a1,args=[a0,a1]∧jZ cs T a0 a1 M Q:=by
 intro M v b at0 Q hB hv h0 hl hQ hE
 refine⟨_,_,rfl, ?_⟩
 unfold jZ
 generalize hr0:dz (b.length - at0 + 1) (b.drop at0) []=target at *
 refine eG (fun m ys M3=>∃ (at' : Nat) (ov:AV) (out:Str),ys=[N .i64 (at' : Int),ov]∧at'≤b.length∧at0≤at'∧m=b.length - at'∧out.length≤16384∧Ow BY M3 M.next T ov out∧ae [] M M3∧dz (m + 1) (b.drop at') out=target) _
  ⟨at0,aJ,[],rfl,h0,Nat.le_refl _,rfl,by simp,.nil,ae.refl _ _,hr0⟩ ?_
 rintro next m ys M3 hnext ⟨at',ov,out,rfl,h1,h2,rfl,hol,hO,k3,heq⟩
 simp only[bB,cO]
 have hv3:=hv.keep k3 (by simp)
 refine hs (k3.base.trans hB) hv3 h1 hl (fun n r at2 M4 e4 a1 a2 hr hn k4=>?_) (fun e M4 e4 he k4=>?_)
 rotate_left
 ·simp only[aY,aZ,dW,fD]
  rw[show(((e:Nat) : Int) != 0)=true by rcases he with rfl | rfl <;> rfl,bF]
  refine hE e M4 ?_ (by omega) (k3.trans k4)
  rw[← heq,dz,e4]
 simp only[aY,aZ,dW,Ak,bg]
 have hO4:Ow BY M4 M.next T ov out:=hO.keep k4 (by simp)
 have k34:=k3.trans k4
 have hv4:=hv3.keep k4 (by simp)
 rw[hO4.kY.len,show(N .i64 16384)=N .i64 ((16384:Nat) : Int) from rfl,I7 hol (by omega),Ko]
 have hrl:r.length=b.length - at2:=by rw[← hr]; simp
 refine dQ (fun h=>?_) fun h=>?_
 ·have h:16384 - out.length<n:=by simpa using h
  refine hE 2 M4 ?_ (by omega) k34
  rw[← heq,dz,e4]
  simp only[Cb h]
 have hf1:¬ 16384 - out.length<n:=by simpa using h
 rw[show(N .i64 2)=N .i64 ((2:Nat) : Int) from rfl,addN (by omega),hv4.len,I7 a1 (by omega),Ko]
 refine dQ (fun h=>?_) fun h=>?_
 ·have h:b.length - at2<n + 2:=by simpa using h
  refine hE 15 M4 ?_ (by omega) k34
  rw[← heq,dz,e4]
  simp only[iD hf1,hrl,Cb h]
 have hf2:¬ b.length - at2<n + 2:=by simpa using h
 simp only[addN (show at2 + n<4611686018427387904 by omega),addN (show at2 + n + 2<4611686018427387904 by omega)]
 refine hv4.sub (jX _ _ _) (jX _ _ _) (by omega) (by omega) fun v5 hv5 _=>?_
 have hdr:(b.drop (at2 + n)).take (at2 + n + 2 - (at2 + n))=(r.drop n).take 2:=by
  rw[← hr,List.drop_drop,show at2 + n + 2 - (at2 + n)=2 by omega]
 rw[hdr] at hv5
 rw[hv5.str,uR]
 cases he2:(r.drop n).take 2 == [13,10] with
 | false =>
   rw[show((r.drop n).take 2 != [13,10])=true by unfold bne; rw[he2]; rfl,bF]
   refine hE 14 M4 ?_ (by omega) k34
   rw[← heq,dz,e4]
   simp only[iD hf1,hrl,iD hf2,he2]
 | true =>
   rw[show((r.drop n).take 2 != [13,10])=false by unfold bne; rw[he2]; rfl,bg]
   rw[show(N .i64 0)=N .i64 ((0:Nat) : Int) from rfl,Uf]
   refine dQ (fun h=>?_) fun h=>?_
   ·have h0:n=0:=by simpa using h
    subst h0
    refine hQ out (r.drop 2) (at2 + 0 + 2) ov M4 ?_ (by omega) (by omega) ?_ hol k34 hO4
    ·rw[← heq,dz,e4]
     simp only[iD hf1,hrl,iD hf2,he2]
     try rfl
    ·rw[← hr,List.drop_drop,Nat.add_zero]
   ·have hn0:n≠0:=by simpa using h
    refine hv4.sub (jX _ _ _) (jX _ _ _) (by omega) (by omega) fun v6 hv6 hsub6=>?_
    have htk:(b.drop at2).take (at2 + n - at2)=r.take n:=by rw[hr,Nat.add_sub_cancel_left]
    rw[htk] at hv6
    have htl:(r.take n).length=n:=by simp; omega
    refine mF (E:=BY) hO4 k34.next (by decide) hv6.sl (by rw[htl]; omega) (by rw[htl]; omega) fun v7 M7 o7 k7 _ _=>?_
    refine hnext _ _ _ (show b.length - (at2 + n + 2)<b.length - at' by omega) ⟨at2 + n + 2,v7,out++r.take n,rfl,by omega,by omega,rfl,by rw[List.length_append,htl]; omega,o7,ae.own k34 k7 (fun x hx=>(hO4.blk x hx).1), ?_⟩
    have hd:b.drop (at2 + n + 2)=r.drop (n + 2):=by rw[← hr,List.drop_drop,Nat.add_assoc]
    rw[← heq,hd]
    conv=>rhs; rw[dz,e4]
    simp only[iD hf1,hrl,iD hf2,he2,PP hn0]
    exact wY _ _ _ _ (by simp; omega) (by simp; omega)
end Go.Ab.Hw
set_option maxRecDepth 100000
namespace Go.Ab.Dot
open Go Go.Ab
def rF (p1:Nat) (a0:AV) (M0:RM) (Q:ah) : Prop:=gI false 2 a0 (.sc (.slice none 0 0)) fun h=>au h ( Q (.sc (.slice none 0 0)) M0) ( dE p1 0 [(N .u8 0)] [] fun g e=>bf g e M0 fun i c=>appW p1 1 1 [(N .u8 0)] false i a0 c fun j d=>Q j d)
end Go.Ab.Dot
set_option maxRecDepth 10000
namespace Go.Ab.Hw
open Go Go.Ab Go.Ab.Sm
def F9 (T:Nat) (c:ai) : Prop:=∀ {M:RM} {v:AV} {s:Str} {Q:ah},Sl BY M v s→s.length≤1000000000→(∀ v' M',Ow BY M' M.next T v' s→ae [] M M'→Q v' M')→c [v] M Q
theorem Jy {T:Nat} : F9 T fun args M Q=>∃ a0,args=[a0]∧Go.Ab.Dot.rF T a0 M Q:=by
 intro M v s Q hv hl hQ
 refine⟨_,rfl, ?_⟩
 unfold Go.Ab.Dot.rF
 rcases aF.uQ hv false with⟨rfl,he⟩ | ⟨hne,he⟩
 ·rw[he,show(!false)=true from rfl,bF]
  have:s=[]:=by
   unfold Sl at hv
   cases s with
   | nil=>rfl
   | cons x s=>generalize hcs:BY.row (x :: s)=cs at *; generalize hn:(x :: s).length=n at *; cases hv; cases hcs
  subst this
  exact hQ aJ M .nil (ae.refl _ _)
 ·rw[he,bg,EH]
  simp only[aT]
  have k1:ae [] M (M.push (.row [] false T 0)):=(ae.refl _ _).push _
  refine mF (E:=BY) (Ow.lit BY M) (by simp[RM.push]) (by decide) (aF.keep hv k1 (by simp)) (by simp; omega) (by simp; omega) fun v7 M7 o7 k7 _ _=>?_
  refine hQ v7 M7 (by simpa using o7) ?_
  refine ae.own k1 k7 (fun b hb=>?_)
  simp[aP] at hb; omega
abbrev pE:Str:=[116,114,97,110,115,102,101,114,45,101,110,99,111,100,105,110,103]
abbrev pu:Str:=[99,111,110,116,101,110,116,45,108,101,110,103,116,104]
abbrev rU:Str:=[99,104,117,110,107,101,100]
def sO (v:Str) : Bool:=gV v 1 9 && v.all dM
def oI (r:Str) (l:List Hd) : Except Nat (Str × Str):=match aX l pE with
 | x :: xs=>match xs with
   | _ :: _=>.error 14
   | []=>match low x == rU with
     | false=>.error 14
     | true=>match aX l pu with
       | _ :: _=>.error 14
       | []=>dz (r.length + 1) r []
 | []=>match aX l pu with
   | []=>.ok ([],r)
   | v :: vs=>match vs with
     | _ :: _=>.error 14
     | []=>match sO v with
       | false=>.error 14
       | true=>match Nat.blt 16384 (gM v) with
         | true=>.error 2
         | false=>match Nat.blt r.length (gM v) with
           | true=>.error 15
           | false=>.ok (r.take (gM v),r.drop (gM v))
def EW (B:Base) (T:Nat) (c:ai) : Prop:=∀ {M:RM} {v hv:AV} {b:Str} {l:List Hd} {at' : Nat} {Q:ah},M.base=B→Bs M v b→at'≤b.length→b.length≤1000000000→Sl HD M hv l→l.length≤1000000→(∀ h∈l,h.1.length<4611686018427387904∧h.2.length<4611686018427387904) →
 (∀ out r at2 ov M',oI (b.drop at') l=.ok (out,r)→at2≤b.length→at'≤at2→b.drop at2=r→out.length≤16384→ae [] M M'→Ow BY M' M.next T ov out→Q (.tup [ov,N .i64 (at2:Int),N .i64 0]) M') →
 (∀ (e:Nat) M',oI (b.drop at') l=.error e→(e=14∨e=15∨e=2)→ae [] M M'→Q (.tup [aJ,N .i64 0,N .i64 (e:Int)]) M')→c [v,N .i64 (at' : Int),hv] M Q
theorem K6 {l:List Hd} {n s:Str} (h:s∈aX l n) : ∃ x∈l,x.2=s:=by
 unfold aX at h
 rw[List.mem_map] at h
 obtain⟨x,hx,e⟩:=h
 exact⟨x,(List.mem_filter.1 hx).1,e⟩
theorem Gl:∀ (s:Str) (n:Nat),s.all dM=true→s.foldl (fun n x=>n * 10 + (x.toNat - 48)) n<(n + 1) * 10 ^ s.length
 | [],n,_=>by simp
 | x :: s,n,h=>by
   simp only[List.all_cons,Bool.and_eq_true] at h
   have hd:x.toNat - 48<10:=by
    have:=h.1
    unfold dM at this
    simp only[Bool.and_eq_true,decide_eq_true_eq] at this
    omega
   have:=Gl s (n * 10 + (x.toNat - 48)) h.2
   rw[List.foldl_cons]
   refine Nat.lt_of_lt_of_le this ?_
   rw[List.length_cons,Nat.pow_succ,Nat.mul_comm (10 ^ s.length) 10,← Nat.mul_assoc]
   exact Nat.mul_le_mul_right _ (by omega)
theorem OO {s:Str} (h:s.all dM=true) (hl:s.length≤9) : gM s<1000000000:=by
 have:=Gl s 0 h
 unfold gM
 refine Nat.lt_of_lt_of_le this ?_
 rw[Nat.zero_add,Nat.one_mul]
 exact Nat.le_trans (Nat.pow_le_pow_right (by decide) hl) (by decide)
theorem KZ {B:Base} {T TS g:Nat} {cn cs cc cw ca ci cl:ai} (hn:BA TS cn) (hs:Ah cs) (hc:Ap B T cc) (hw:qB cw) (ha:lc dM (.fn (.func g) [] []) ca) (hi:Ky ci) (hcl:F9 T cl) :
  EW B T fun args M Q=>∃ a0 a1 a2,args=[a0,a1,a2]∧nD cn cs cc cw ca g ci cl a0 a1 a2 M Q:=by
 intro M v hv b l at' Q hB hb h1 hl hh hll hnl hQ hE
 refine⟨_,_,_,rfl, ?_⟩
 unfold nD
 have hval:∀ {n s},s∈aX l n→s.length<4611686018427387904:=fun hm=>by
  obtain⟨x,hx,rfl⟩:=K6 hm
  exact(hnl x hx).2
 have hrl:(b.drop at').length=b.length - at':=by simp
 refine hn hh hll (fun h hx=>(hnl h hx).1) (by decide) fun v1 M1 o1 k1=>?_
 refine hn (aF.keep hh k1 (by simp)) hll (fun h hx=>(hnl h hx).1) (by decide) fun v2 M2 o2 k2=>?_
 have k12:=k1.trans k2
 have s1:Sl nE M2 v1 (aX l pE):=aF.keep (Own.kY o1) k2 (by simp)
 have s2:Sl nE M2 v2 (aX l pu):=Own.kY o2
 have Rt := @hval pE
 have Rh := @hval pu
 unfold oI at hQ hE
 rw[hrl] at hQ hE
 change Sl nE M2 v1 (aX l pE) at s1
 generalize aX l pE=xs at *
 generalize aX l pu=ys at *
 rw[s1.len,dI]
 cases xs with
 | cons x xs =>
   rw[show decide (((x :: xs).length:Int) > 0)=true by simp,bF,s1.len,dI]
   simp only[dx]
   cases xs with
   | cons x2 xs =>
     rw[show decide (((x :: x2 :: xs).length:Int) > 1)=true by simp; omega]
     simp only[dH,bY,bF]
     exact hE 14 M2 rfl (.inl rfl) k12
   | nil =>
     rw[show decide ((([x] : List Str).length:Int) > 1)=false from rfl]
     simp only[bR,dF]
     obtain⟨b0,o0,_,_,hix,hld⟩:=s1.at 1 0 (i:=0) (by simp)
     rw[hix,dU]
     refine⟨_,dX.1 hld, ?_⟩
     refine hs (by have:=Rt (List.mem_singleton.2 rfl); simpa using (by omega:x.length<9223372036854775807)) fun M3 k3=>?_
     simp only[List.getElem_cons_zero,uR]
     cases hlow:low x == rU with
     | false =>
       rw[show(low x != rU)=true by unfold bne; rw[hlow]; rfl]
       simp only[dH,bY,bF]
       exact hE 14 M3 (by simp only[hlow]) (.inl rfl) (k12.trans k3)
     | true =>
       rw[show(low x != rU)=false by unfold bne; rw[hlow]; rfl]
       simp only[bR,dF]
       have s23:Sl nE M3 v2 ys:=aF.keep s2 k3 (by simp)
       rw[s23.len,dI]
       cases ys with
       | cons y ys =>
         rw[show decide (((y :: ys).length:Int) > 0)=true by simp,bF]
         exact hE 14 M3 (by simp only[hlow]) (.inl rfl) (k12.trans k3)
       | nil =>
         rw[show decide ((([] : List Str).length:Int) > 0)=false from rfl,bg]
         have k13:=k12.trans k3
         refine hc (k13.base.trans hB) (hb.keep k13 (by simp)) h1 hl (fun out r at2 ov M4 e4 a1 a2 hr ho k4 o4=>?_) (fun e M4 e4 he k4=>?_)
         ·simp only[aY,aZ,dW]
          exact hQ out r at2 ov M4 (by simp only[hlow]; exact e4) a1 a2 hr ho (k13.trans k4) (Own.mono o4 k13.next)
         ·simp only[aY,aZ,dW]
          exact hE e M4 (by simp only[hlow]; exact e4) he (k13.trans k4)
 | nil =>
   rw[show decide ((([] : List Str).length:Int) > 0)=false from rfl,bg,s2.len,bI]
   cases ys with
   | nil =>
     rw[show((([] : List Str).length:Int) == 0)=true from rfl,bF]
     exact hQ [] (b.drop at') at' aJ M2 rfl h1 (Nat.le_refl _) rfl (by simp) k12 .nil
   | cons y ys =>
     rw[show(((y :: ys).length:Int) == 0)=false by simp; omega,bg,s2.len,dI]
     simp only[dx]
     cases ys with
     | cons y2 ys =>
       rw[show decide (((y :: y2 :: ys).length:Int) > 1)=true by simp; omega]
       simp only[dH,bY,bF]
       exact hE 14 M2 rfl (.inl rfl) k12
     | nil =>
       rw[show decide ((([y] : List Str).length:Int) > 1)=false from rfl]
       simp only[bR,dF]
       obtain⟨b0,o0,hb0,hb0v,hix,hld⟩:=s2.at 1 0 (i:=0) (by simp)
       have hc0:=dX.1 hld
       have hyl:y.length<4611686018427387904:=Rh (List.mem_singleton.2 rfl)
       rw[hix,dU]
       refine⟨_,hc0, ?_⟩
       refine hw ?_
       simp only[List.getElem_cons_zero,di]
       have tail:∀ M3,ae [] M2 M3→au (Bo (!sO y)) (Q (.tup [(.sc (.slice none 0 0)),(N .i64 0),(N .i64 14)]) M3) (
         dO v2 (N .i64 0) 1 fun t67=>aj M3 t67 fun t68=>ci [t68] M3 fun t69 NM=>aC t69 0 fun t70=>aC t69 1 fun t71=>af .gtr t70 (N .i64 16384) fun t74=>au t74 ( Q (.tup [(.sc (.slice none 0 0)),(N .i64 0),(N .i64 2)]) NM) ( aR v fun t78=>af .sub t78 (N .i64 (at' : Int)) fun t80=>af .gtr t70 t80 fun t81=>au t81 ( Q (.tup [(.sc (.slice none 0 0)),(N .i64 0),(N .i64 15)]) NM) ( af .add (N .i64 (at' : Int)) t70 fun t86=>bH (dD 1 v (some (N .i64 (at' : Int))) (some t86) none) fun t87=>cl [t87] NM fun t88 Tn=>af .add (N .i64 (at' : Int)) t70 fun t91=>Q (.tup [t88,t91,(N .i64 0)]) Tn))):=by
        intro M3 k3
        cases hok:sO y with
        | false =>
          simp only[Bool.not_false,bF]
          exact hE 14 M3 (by simp only[hok]) (.inl rfl) (k12.trans k3)
        | true =>
          have hok':=hok
          unfold sO gV at hok'
          simp only[Bool.and_eq_true,decide_eq_true_eq] at hok'
          simp only[Bool.not_true,bg]
          have s23:Sl nE M3 v2 [y]:=aF.keep s2 k3 (by simp)
          obtain⟨b3,o3,hb3,_,Uj,Tu⟩:=s23.at 1 0 (i:=0) (by simp)
          rw[Uj,dU]
          refine⟨_,dX.1 Tu, ?_⟩
          simp only[List.getElem_cons_zero]
          refine hi (by omega) (by omega) hok'.2 fun M4 k4=>?_
          have hlt:=OO hok'.2 (by omega)
          have k14:=k12.trans (k3.trans k4)
          have hb4:=hb.keep k14 (by simp)
          simp only[aY,aZ]
          rw[show(N .i64 16384)=N .i64 ((16384:Nat) : Int) from rfl,Ko]
          refine dQ (fun h=>?_) fun h=>?_
          ·have h:16384<gM y:=by simpa using h
           exact hE 2 M4 (by simp only[hok,Cb h]) (by omega) k14
          have hf1:¬ 16384<gM y:=by simpa using h
          rw[hb4.len,I7 h1 (by omega),Ko]
          refine dQ (fun h=>?_) fun h=>?_
          ·have h:b.length - at'<gM y:=by simpa using h
           exact hE 15 M4 (by simp only[hok,iD hf1,Cb h]) (by omega) k14
          have hf2:¬ b.length - at'<gM y:=by simpa using h
          simp only[addN (show at' + gM y<4611686018427387904 by omega)]
          refine hb4.sub (jX _ _ _) (jX _ _ _) (by omega) (by omega) fun v5 hv5 _=>?_
          rw[Nat.add_sub_cancel_left] at hv5
          refine hcl hv5.sl (by simp; omega) fun v6 M6 o6 k6=>?_
          exact hQ ((b.drop at').take (gM y)) ((b.drop at').drop (gM y)) (at' + gM y) v6 M6 (by simp only[hok,iD hf1,iD hf2]) (by omega) (by omega) (by rw[List.drop_drop]) (by simp; omega) (k14.trans k6) (Own.mono o6 k14.next)
       cases hwi:gV y 1 9 with
       | false =>
         simp only[Bool.not_false,dH,bY]
         have:=tail M2 (ae.refl _ _)
         unfold sO at this
         rw[hwi] at this
         simpa only[Bool.false_and,Bool.not_false] using this
       | true =>
         simp only[Bool.not_true,bR,dF]
         rw[hix,dU]
         refine⟨_,hc0, ?_⟩
         simp only[List.getElem_cons_zero]
         refine ha hyl fun M3 k3=>?_
         have:=tail M3 k3
         unfold sO at this
         rw[hwi] at this
         simpa only[di,Bool.true_and,dF] using this
end Go.Ab.Hw
namespace Go.Ab.Hw
open Go Go.Ab Go.Ab.Sm
open Go.Ab.Vl (brk kV pR gD fO iJ gQ Aq qy)
def JN (c:UInt8) : List Str→List Str
 | []=>[[c]]
 | w :: ws=>(c :: w) :: ws
def words (x:UInt8) : Str→List Str
 | []=>[[]]
 | c :: t=>match c == x with
   | true=>[] :: words x t
   | false=>JN c (words x t)
theorem MJ (x:UInt8) (s:Str) : words x s≠[]:=by
 cases s with
 | nil=>simp[words]
 | cons c t =>
   unfold words
   split
   ·simp
   ·cases words x t <;> simp[JN]
theorem pg (x:UInt8) : ∀ s:Str,words x s=(match brk x s with | none=>[s] | some p=>p.1 :: words x p.2)
 | []=>rfl
 | c :: t=>by
   rw[words,brk]
   cases h:c == x
   ·have hc:¬ c=x:=by simpa using h
    rw[if_neg hc]
    dsimp only
    rw[pg x t]
    cases brk x t with
    | none=>rfl
    | some p=>rfl
   ·have hc:c=x:=by simpa using h
    rw[if_pos hc]
theorem sI {x:UInt8} : ∀ {s a b:Str},brk x s=some (a,b)→s.count x=b.count x + 1
 | [],_,_,h=>by simp[brk] at h
 | c :: t,a,b,h=>by
   rw[brk] at h
   split at h
   ·rename_i e; subst e; cases h; simp
   ·rename_i e
    cases hb:brk x t with
    | none=>rw[hb] at h; simp at h
    | some p =>
      rw[hb] at h
      simp only[Option.map_some,Option.some.injEq,Prod.mk.injEq] at h
      obtain⟨_,rfl⟩:=h
      rw[List.count_cons_of_ne e]
      exact sI (a:=p.1) (b:=p.2) hb
theorem CO {x:UInt8} {s:Str} (h:brk x s=none) : s.count x=0:=by
 rcases Vl.uz x s with⟨_,_,h3⟩ | ⟨a,b,h1,_⟩
 ·exact List.count_eq_zero.2 h3
 ·rw[h] at h1; cases h1
theorem xO (x:UInt8) : ∀ (k:Nat) (s:Str),s.count x=k→Lib.splitK [x] 0 k s=words x s
 | 0,s,h=>by
   rw[pg]
   cases hb:brk x s with
   | none=>rfl
   | some p=>have:=sI (a:=p.1) (b:=p.2) hb; omega
 | k + 1,s,h=>by
   rw[pg,Lib.splitK,Lib.index_one]
   rcases Vl.uz x s with⟨h1,h2,_⟩ | ⟨a,b,h1,h2,h3,_⟩
   ·have:=CO h1; omega
   ·have hn:((a.length:Int) == -1)=false:=by simp
    have hc:=sI h1
    rw[h1,h2,hn]
    simp only[Int.toNat_natCast,Nat.add_zero,List.length_cons,List.length_nil]
    rw[← xO x k b (by omega)]
    have e1:s.take a.length=a:=by rw[h3]; simp
    have e2:s.drop (a.length + (0 + 1))=b:=by rw[h3,← List.drop_drop]; simp
    rw[e1,e2]
    rfl
theorem tq {x:UInt8} : ∀ {s w:Str},w∈words x s→w.length≤s.length
 | [],w,h=>by simp[words] at h; subst h; simp
 | c :: t,w,h=>by
   rw[words] at h
   split at h
   ·rcases List.mem_cons.1 h with rfl | h
    ·simp
    ·have:=tq h; simp; omega
   ·cases hw:words x t with
    | nil=>exact absurd hw (MJ x t)
    | cons v vs =>
      rw[hw] at h
      simp only[JN] at h
      rcases List.mem_cons.1 h with rfl | h
      ·have:=tq (x:=x) (s:=t) (w:=v) (by rw[hw]; simp); simp; omega
      ·have:=tq (x:=x) (s:=t) (w:=w) (by rw[hw]; simp[h]); simp; omega
def GI (B:Base) (T:Nat) (c:ai) : Prop:=∀ {M:RM} {s:Str} {Q:ah},M.base=B→s.length≤1000000→(∀ v M',Ow nE M' M.next T v (words 32 s)→ae [] M M'→Q v M')→c [St s,St [32]] M Q
abbrev Fh:Str:=[72,84,84,80,47,49,46,49]
def pV (m p v:Str) : Bool:=fK m && ic p && (v == Fh)
def iL (s:Str) : Option (Str × Str):=match words 32 s with
 | [m,p,v]=>match pV m p v with
   | true=>some (m,p)
   | false=>none
 | _=>none
def qJ (s:Str) : Bool:=(iL s).isSome
abbrev ji (T:Nat) (m p:Str) : RB:=.row [St m,St p,aJ,aJ] false T 0
def Gg (T:Nat) (s:Str) : RB:=match iL s with
 | some (m,p)=>ji T m p
 | none=>ji T [] []
theorem Qt (l:List Str) : (∃ a b c,l=[a,b,c])∨l.length≠3:=by
 rcases l with _ | ⟨a,_ | ⟨b,_ | ⟨c,_ | ⟨d,l⟩⟩⟩⟩ <;> simp
theorem KT {B:Base} {T TS br:Nat} {cs cm cp:ai} (hs:GI B TS cs) (hm:lW fK cm) (hp:lW ic cp) {M:RM} {s:Str} {K:ah} (hB:M.base=B) (hbr:br<M.next) (hX:M.heap br=some (ji T [] []))
  (hl:s.length≤2048) (h0:qJ s=false→∀ M',ae [br] M M'→K (Bo false) M') (h1:qJ s=true→∀ M',ae [br] M M'→M'.heap br=some (Gg T s)→K (Bo true) M') : gY cs cm cp (St s) (.ptr br 0) M K:=by
 unfold gY
 refine hs hB (by omega) fun v M1 o1 k1=>?_
 have s1:Sl nE M1 v (words 32 s):=Own.kY o1
 have hwl:∀ w∈words 32 s,w.length≤2048:=fun w hw=>Nat.le_trans (tq hw) hl
 have kb:∀ {M'},ae [] M M'→ae [br] M M':=fun k=>k.mono (by simp)
 rw[s1.len]
 simp only[fD,dx]
 rcases Qt (words 32 s) with⟨a,b,c,hw⟩ | hne
 ·have hq:iL s=if pV a b c then some (a,b) else none:=by
   unfold iL; rw[hw]; dsimp only; cases pV a b c <;> rfl
  rw[hw] at s1 hwl ⊢
  rw[show((([a,b,c] : List Str).length:Int) != 3)=false from rfl]
  simp only[bR,dF]
  have at_:∀ {M2:RM} (k:ae [] M1 M2) {K' : AV→Prop},(∀ x:AV,(dO v (N .i64 0) 1 fun t=>aj M2 t fun u=>K' u)=K' (St a))∧(∀ x:AV,(dO v (N .i64 1) 1 fun t=>aj M2 t fun u=>K' u)=K' (St b))∧(∀ x:AV,(dO v (N .i64 2) 1 fun t=>aj M2 t fun u=>K' u)=K' (St c)):=by
   intro M2 k K'
   have s2:Sl nE M2 v [a,b,c]:=aF.keep s1 k (by simp)
   obtain⟨b0,o0,_,_,hix,hld⟩:=s2.at 1 0 (i:=0) (by simp)
   obtain⟨b1,o1',_,_,Nh,JC⟩:=s2.at 1 1 (i:=1) (by simp)
   obtain⟨b2,o2,_,_,Uc,Ul⟩:=s2.at 1 2 (i:=2) (by simp)
   refine⟨fun _=>?_,fun _=>?_,fun _=>?_⟩
   ·rw[hix,dU,dX.1 hld]; exact Dm _ _
   ·rw[Nh,dU,dX.1 JC]; exact Dm _ _
   ·rw[Uc,dU,dX.1 Ul]; exact Dm _ _
  have tail:∀ M2,ae [] M1 M2→(au (Bo (!pV a b c)) (K (Bo false) M2) (
    dO v (N .i64 0) 1 fun t31=>aj M2 t31 fun t32=>dO v (N .i64 1) 1 fun t34=>aj M2 t34 fun t35=>aQ (.ptr br 0) 0 fun t36=>aH M2 t36 t32 1 fun Qy=>aj Qy t34 fun P7=>(P7=t35∧aQ (.ptr br 0) 1 fun t37=>aH Qy t37 t35 1 fun Ug=>K (Bo true) Ug))):=by
   intro M2 k2
   have k02:ae [] M M2:=k1.trans k2
   refine dQ (fun h=>?_) fun h=>?_
   ·have hk:pV a b c=false:=by simpa using h
    exact h0 (by unfold qJ; rw[hq,hk]; rfl) M2 (kb k02)
   ·have hk:pV a b c=true:=by simpa using h
    have X2:=k02.aO hX hbr (by simp)
    have s2:Sl nE M2 v [a,b,c]:=aF.keep s1 k2 (by simp)
    rw[((at_ k2).1 aJ)]
    obtain⟨b1,o1',hb1,Ta,Nh,JC⟩:=s2.at 1 1 (i:=1) (by simp)
    have hvn:=(o1.blk b1 Ta).1
    rw[Nh,dU]
    refine⟨_,dX.1 JC, ?_⟩
    simp only[List.getElem_cons_succ,List.getElem_cons_zero]
    rw[jb,fT [St a,St [],aJ,aJ] X2 (by simp) rfl rfl rfl,dU]
    have k3:ae [br] M2 (M2.put br (.row [St a,St [],aJ,aJ] false T 0)):=(ae.refl _ _).put _ (.inr (by simp))
    have hne:b1≠br:=fun e=>by omega
    refine⟨St b, ?_,rfl, ?_⟩
    ·have hcell:M2.cell b1 o1'=some (St b):=dX.1 JC
     rw[← hcell]
     unfold RM.cell
     rw[RM.qP,RM.qP,k3.heap b1 hb1 (by simpa using hne)]
     rfl
    rw[jb,fT [St a,St b,aJ,aJ] (aN _) (by simp) rfl rfl rfl]
    refine h1 (by unfold qJ; rw[hq,hk]; rfl) _ ((kb k02).trans (k3.trans ((ae.refl _ _).put _ (.inr (by simp))))) ?_
    rw[aN]
    unfold Gg; rw[hq,hk]; rfl
  have ha:=hwl a (by simp)
  have hb:=hwl b (by simp)
  rw[((at_ (ae.refl _ _)).1 aJ)]
  refine hm (by omega) fun M2 k2=>?_
  simp only[di]
  unfold pV at tail
  cases hgm:fK a with
  | false =>
    simp only[Bool.not_false,dH,bY]
    have:=tail M2 k2
    simpa only[hgm,Bool.false_and,Bool.not_false] using this
  | true =>
    simp only[Bool.not_true,bR,dF]
    rw[((at_ k2).2.1 aJ)]
    refine hp (by omega) fun M3 k3=>?_
    have k13:=k2.trans k3
    simp only[di]
    cases hgp:ic b with
    | false =>
      simp only[Bool.not_false,dH,bY]
      have:=tail M3 k13
      simpa only[hgm,hgp,Bool.false_and,Bool.and_false,Bool.not_false] using this
    | true =>
      simp only[Bool.not_true,bR,dF]
      rw[((at_ k13).2.2 aJ),uR]
      have:=tail M3 k13
      simpa only[hgm,hgp,Bool.true_and,bne] using this
 ·have hq:iL s=none:=by
   unfold iL
   split
   ·rename_i m p v hw; rw[hw] at hne; exact absurd rfl hne
   ·rfl
  rw[show(((words 32 s).length:Int) != 3)=true by
   simp only[bne_iff_ne,ne_eq]
   omega]
  simp only[dH,bY,bF]
  exact h0 (by unfold qJ; rw[hq]; rfl) M1 (kb k1)
abbrev Fu:Str:=[72,84,84,80,47,49,46,49,32]
def ow (s:Str) : Str:=if pre Fu s then s.drop 9 else s
def FZ (s:Str) : Bool:=!pre Fu s || decide (((ow s).length:Int)<4)
def JL (s:Str) : Bool:=FZ s || !((ow s).take 3).all dM
def Jk (s:Str) : Bool:=JL s || ((((ow s).getD 3 0).toNat:Int) != 32)
def Mr (s:Str) : Bool:=Jk s || !((ow s).drop 3).all p32
def codeOf (s:Str) : Nat:=gM ((ow s).take 3)
def pY (s:Str) : Bool:=!Mr s && (decide ((codeOf s:Int) ≥ 100) && decide ((codeOf s:Int)≤599))
abbrev gK (T:Nat) (n:Int) : RB:=.row [N .i64 n,aJ,aJ] false T 0
def EM (T:Nat) (s:Str) : RB:=gK T (codeOf s)
theorem Jb {T br g1 g2:Nat} {cc ca ci:ai} (hc:qD cc) (ha1:lc dM (.fn (.func g1) [] []) ca) (ha2:lc p32 (.fn (.func g2) [] []) ca) (hi:Ky ci) {M:RM} {s:Str} {K:ah} (hbr:br<M.next)
  (hX:M.heap br=some (gK T 0)) (hl:s.length≤2048) (h0:pY s=false→∀ M',ae [br] M M'→K (Bo false) M') (h1:pY s=true→∀ M',ae [br] M M'→M'.heap br=some (EM T s)→K (Bo true) M') :
  gJ cc ca g1 g2 ci (St s) (.ptr br 0) M K:=by
 unfold gJ
 refine hc ?_
 have kb:∀ {M'},ae [] M M'→ae [br] M M':=fun k=>k.mono (by simp)
 have hrl:(ow s).length≤s.length:=by unfold ow; split <;> simp
 have e9:xU Fu s=.tup [St (ow s),Bo (pre Fu s)]:=by
  unfold xU ow; cases pre Fu s <;> rfl
 rw[e9]
 simp only[aY,aZ,di,dx]
 generalize hr:ow s=r at *
 have hb1:FZ s=(!pre Fu s || decide ((r.length:Int)<4)):=by unfold FZ; rw[hr]
 have hb2:JL s=(FZ s || !(r.take 3).all dM):=by unfold JL; rw[hr]
 have hb3:Jk s=(JL s || (((r.getD 3 0).toNat:Int) != 32)):=by unfold Jk; rw[hr]
 have hb4:Mr s=(Jk s || !(r.drop 3).all p32):=by unfold Mr; rw[hr]
 have Jr:FZ s=false→4≤r.length:=fun h=>by
  rw[hb1] at h
  simp only[Bool.or_eq_false_iff,decide_eq_false_iff_not] at h
  omega
 refine Ae (P:=ae [] M) (p:=decide ((r.length:Int)<4)) (ae.refl _ _) (fun _ k hk=>?_) fun M1 k1=>?_
 ·simpa only[go_sem] using hk M (ae.refl _ _)
 rw[← hb1]
 refine Ae (P:=ae [] M) (p:=!(r.take 3).all dM) k1 (fun hf k hk=>?_) fun M2 k2=>?_
 ·have:=Jr hf
  rw[show(N .i64 3)=N .i64 ((3:Nat) : Int) from rfl,gQ (by omega)]
  simp only[eP]
  refine ha1 (by simp; omega) fun M2 k2=>?_
  simp only[di]
  exact hk M2 (k1.trans k2)
 rw[← hb2]
 refine Ae (P:=ae [] M) (p:=(((r.getD 3 0).toNat:Int) != 32)) k2 (fun hf k hk=>?_) fun M3 k3=>?_
 ·have:=Jr (by rw[hb2,Bool.or_eq_false_iff] at hf; exact hf.1)
  rw[show(N .i64 3)=N .i64 ((3:Nat) : Int) from rfl,qy (by omega),fD]
  have:r.getD 3 0=r[3]:=by simp[List.getD_eq_getElem?_getD,List.getElem?_eq_getElem (show 3<r.length by omega)]
  rw[this] at hk
  exact hk _ k2
 rw[← hb3]
 refine Ae (P:=ae [] M) (p:=!(r.drop 3).all p32) k3 (fun hf k hk=>?_) fun M4 k4=>?_
 ·have:=Jr (by
   rw[hb3,Bool.or_eq_false_iff] at hf
   have:=hf.1
   rw[hb2,Bool.or_eq_false_iff] at this; exact this.1)
  rw[show(N .i64 3)=N .i64 ((3:Nat) : Int) from rfl,fO (by omega)]
  simp only[eP]
  refine ha2 (by simp; omega) fun M2 k2=>?_
  simp only[di]
  exact hk M2 (k3.trans k2)
 rw[← hb4]
 refine dQ (fun h=>?_) fun h=>?_
 ·exact h0 (by unfold pY; rw[h]; rfl) M4 (kb k4)
 ·have h':=h
  rw[hb4,Bool.or_eq_false_iff] at h'
  have h'':=h'.1
  rw[hb3,Bool.or_eq_false_iff] at h''
  have h3:=h''.1
  rw[hb2,Bool.or_eq_false_iff] at h3
  have hd:(r.take 3).all dM=true:=by simpa using h3.2
  have l4:=Jr h3.1
  rw[show(N .i64 3)=N .i64 ((3:Nat) : Int) from rfl,gQ (by omega)]
  simp only[eP]
  refine hi (by simp; omega) (by simp; omega) hd fun M5 k5=>?_
  have X5:=(k4.trans k5).aO hX hbr (by simp)
  have hcode:codeOf s=gM (r.take 3):=by unfold codeOf; rw[hr]
  rw[← hcode]
  simp only[aY,aZ]
  rw[jb,fT [N .i64 (codeOf s:Int),aJ,aJ] X5 (by simp) rfl rfl rfl]
  have k6:ae [br] M (M5.put br (.row [N .i64 (codeOf s:Int),aJ,aJ] false T 0)):=(kb (k4.trans k5)).put _ (.inr (by simp))
  have X6:(M5.put br (.row [N .i64 (codeOf s:Int),aJ,aJ] false T 0)).heap br=some (EM T s):=aN _
  generalize M5.put br (.row [N .i64 (codeOf s:Int),aJ,aJ] false T 0)=M6 at *
  have ld:∀ {K' : AV→Prop},aj M6 (.ptr br 0) K'=K' (N .i64 (codeOf s:Int)):=fun {K'} => aI X6 rfl
  rw[jb,ld,dJ]
  try simp only[dx]
  refine oH (p:=decide ((codeOf s:Int)≤599)) (fun _ k hk=>?_) ?_
  ·rw[jb,ld]
   simpa only[go_sem] using hk
  ·have hp:pY s=(decide ((codeOf s:Int) ≥ 100) && decide ((codeOf s:Int)≤599)):=by unfold pY; rw[h]; rfl
   rw[← hp]
   cases hv:pY s with
   | false=>exact h0 hv _ k6
   | true=>exact h1 hv _ k6 X6
theorem Hf {s:Str} {h:Hd} (e:eO s=some h) : h.1.length≤s.length∧h.2.length≤s.length:=by
 unfold eO at e
 split at e
 ·cases e
 ·rename_i a b hb
  have:=IV hb
  have:=DT b
  split at e
  ·cases e; exact⟨by show a.length≤_; omega,by show(trimB b).length≤_; omega⟩
  ·cases e
theorem K4 {b s:Str} {at' n:Nat} (e:lV b at'=.ok (s,n)) : s.length≤2048:=by
 unfold lV at e
 split at e
 ·rename_i p hp
  cases e
  obtain⟨a,r⟩:=p
  have:=(qK hp).2
  simp at this
  show a.length≤2048
  omega
 ·split at e <;> cases e
theorem Ld (b:Str) : ∀ (f at' : Nat) (l l' : List Hd) (n:Nat),(∀ h∈l,h.1.length≤2048∧h.2.length≤2048)→hloop b f at' l=.ok (l',n)→∀ h∈l',h.1.length≤2048∧h.2.length≤2048:=by
 intro f
 induction f with
 | zero =>
   intro at' l l' n hl e
   rw[jv] at e
   split at e
   ·cases e
   ·split at e
    ·cases e; exact hl
    ·cases e
 | succ f ih =>
   intro at' l l' n hl e
   rw[jv] at e
   split at e
   ·cases e
   ·rename_i s n' hL
    split at e
    ·cases e; exact hl
    ·dsimp only at e
     split at e
     ·cases e
     ·rename_i h hh
      refine ih _ _ _ _ (fun x hx=>?_) e
      rcases List.mem_append.1 hx with hx | hx
      ·exact hl x hx
      ·have:x=h:=by simpa using hx
       subst this
       have h1:=Hf hh
       have h2:=K4 hL
       exact⟨by omega,by omega⟩
theorem DV {p:Str→Bool} {b s:Str} {l:List Hd} {n:Nat} (e:headD p b=.ok (s,l,n)) : (∀ h∈l,h.1.length≤2048∧h.2.length≤2048)∧p s=true:=by
 unfold headD at e
 split at e
 ·cases e
 ·split at e
  ·cases e
  ·split at e
   ·cases e
   ·rename_i hh
    cases e
    exact⟨Ld b _ _ _ _ _ (by simp) hh,by assumption⟩
def gz (b:Str) : Except Nat ((Str × Str × List Hd × Str) × Str):=match headD qJ b with
 | .error e=>.error e
 | .ok (s,l,at')=>match oI (b.drop at') l with
   | .error e=>.error e
   | .ok (out,r)=>match iL s with
     | some (m,p)=>.ok ((m,p,l,out),r)
     | none=>.error 14
def Gu (B:Base) (TH T8:Nat) (c:ai) : Prop:=∀ {M:RM} {v:AV} {b:Str} {Q:ah},M.base=B→Bs M v b→b.length≤1000000000 →
 (∀ m p l out r at2 hv ov M',gz b=.ok ((m,p,l,out),r)→at2≤b.length→b.drop at2=r→out.length≤16384→l.length≤32→(∀ h∈l,h.1.length≤2048∧h.2.length≤2048)→ae [] M M'→Ow HD M' M.next TH hv l→Ow BY M' M.next T8 ov out →
  Q (.tup [.agg [St m,St p,hv,ov],N .i64 (at2:Int),N .i64 0]) M') →
 (∀ (e:Nat) M',gz b=.error e→(e=14∨e=15∨e=2)→ae [] M M'→Q (.tup [.agg [St [],St [],aJ,aJ],N .i64 0,N .i64 (e:Int)]) M')→c [v] M Q
theorem qW {br:Nat} {M M0 M1:RM} (k0:ae [] M M0) (h:ae [br] M0 M1) (hb:M.next≤br) : ae [] M M1 :=
 ⟨h.base.trans k0.base,Nat.le_trans k0.next h.next,fun x hx _=>by rw[h.heap x (Nat.lt_of_lt_of_le hx k0.next) (fun e=>by simp at e; omega),k0.heap x hx (by simp)]⟩
theorem Bs.lt {M:RM} {v:AV} {b:Str} (h:Bs M v b) : ∀ x∈aP v,x<M.next:=aF.lt h.sl
theorem GJ {B:Base} {T TH T8 g:Nat} {ch cb:ai} (hH:∀ br,EF B (.fn (.func g) [] [.ptr br 0]) qJ br (ji T [] []) (Gg T) TH ch) (hb:EW B T8 cb) : Gu B TH T8 fun args M Q=>∃ a0,args=[a0]∧iY T g ch cb a0 M Q:=by
 intro M v b Q hB hv hl hQ hE
 refine⟨_,rfl, ?_⟩
 unfold iY
 simp only[aT]
 have k0:ae [] M ((M.push (ji T [] [])).push (ji T [] [])):=((ae.refl _ _).push _).push _
 have a2:((M.push (ji T [] [])).push (ji T [] [])).heap M.next=some (ji T [] []):=by simp[RM.push]
 have a5:((M.push (ji T [] [])).push (ji T [] [])).heap (M.push (ji T [] [])).next=some (ji T [] []):=by simp[RM.push]
 have e5:(M.push (ji T [] [])).next=M.next + 1:=rfl
 have n0:((M.push (ji T [] [])).push (ji T [] [])).next=M.next + 2:=rfl
 rw[e5] at a5 ⊢
 generalize (M.push (ji T [] [])).push (ji T [] [])=M0 at *
 have hv0:=hv.keep k0 (by simp)
 have err:∀ (e:Nat) (M1:RM),ae [M.next + 1] M0 M1→gz b=.error e→(e=14∨e=15∨e=2) →
   gH [(St []),(St []),(.sc (.slice none 0 0)),(.sc (.slice none 0 0))] [] fun t18=>aH M1 (.ptr M.next 0) t18 4 fun M_2=>bu M_2 (.ptr M.next 0) 4 fun res=>Q (.tup [res,(N .i64 0),N .i64 (e:Int)]) M_2:=by
  intro e M1 k1 he1 he
  rw[jl]
  refine⟨_,rfl, ?_⟩
  have n1:=k1.aO a2 (by omega) (by simp)
  rw[jJ n1 (by rfl) (by rfl) (by rfl),bJ (aN _) (by rfl)]
  exact hE e _ he1 he ((qW k0 k1 (by omega)).new _ (Nat.le_refl _))
 refine hH (M.next + 1) (k0.base.trans hB) hv0 hl (by omega) (fun hx=>by have:=hv.lt _ hx; omega) a5 (fun e M1 h1 he k1=>?_) (fun s l at' hv' M1 h1 hat hs hll k1 X1 o1=>?_)
 ·simp only[aY,aZ,dW,fD]
  rw[show(((e:Nat) : Int) != 0)=true by rcases he with rfl | rfl | rfl <;> rfl,bF]
  exact err e M1 k1 (by unfold gz; rw[h1]) (by omega)
 obtain⟨hlen,hp⟩:=DV h1
 simp only[aY,aZ,dW,Ak,bg,jD]
 obtain⟨⟨m,p⟩,hmp⟩ : ∃ q,iL s=some q:=by unfold qJ at hp; exact Option.isSome_iff_exists.1 hp
 have X1' : M1.heap (M.next + 1)=some (ji T m p):=by rw[X1]; unfold Gg; rw[hmp]
 have hone:oneCell hv'=true:=Own.one o1
 have hcell:hv'.cells=[hv']:=Own.cells o1
 simp only[Nat.zero_add]
 rw[fT [St m,St p,hv',aJ] X1' (by simp) hcell hone rfl]
 have k2:ae [M.next + 1] M0 (M1.put (M.next + 1) (.row [St m,St p,hv',aJ] false T 0)):=k1.put _ (.inr (by simp))
 have X2:(M1.put (M.next + 1) (.row [St m,St p,hv',aJ] false T 0)).heap (M.next + 1)=some (.row [St m,St p,hv',aJ] false T 0):=aN _
 have o2:Ow HD (M1.put (M.next + 1) (.row [St m,St p,hv',aJ] false T 0)) M0.next TH hv' l:=Own.keep o1 ((ae.refl [M.next + 1] M1).put _ (.inr (by simp))) (fun x hx hm=>by
  have:=(Own.blk o1 x hx).1
  simp at hm; omega)
 generalize M1.put (M.next + 1) (.row [St m,St p,hv',aJ] false T 0)=M2 at *
 have k02:=qW k0 k2 (by omega)
 refine hb (k02.base.trans hB) (hv.keep k02 (by simp)) hat hl (Own.kY o2) (by omega) (fun h hx=>by have:=hlen h hx; omega) (fun out r at2 ov M3 e3 ha2 ha3 hr ho k3 o3=>?_) (fun e M3 e3 he k3=>?_)
 ·simp only[aY,aZ,dW,Ak,bg,jD,Nat.zero_add]
  have X3:=k3.aO X2 (Nat.lt_of_lt_of_le (by omega) k2.next) (by simp)
  rw[fT [St m,St p,hv',ov] X3 (by simp) (Own.cells o3) (Own.one o3) rfl]
  have n3:=(k2.trans (k3.mono (by simp))).aO a2 (by omega) (by simp)
  rw[bJ (aN _) (by rfl),jJ (tL n3 (by omega)) (by rfl) (by rfl) (by have:=Own.one o3; simp only[List.all_cons,List.all_nil,hone,this]; rfl),bJ (aN _) (by rfl)]
  have k4:ae [] M (((M3.put (M.next + 1) (.row [St m,St p,hv',ov] false T 0))).put M.next (.row [St m,St p,hv',ov] false T 0)):=((k02.trans k3).new _ (by omega)).new _ (Nat.le_refl _)
  have k34:ae [M.next,M.next + 1] M3 (((M3.put (M.next + 1) (.row [St m,St p,hv',ov] false T 0))).put M.next (.row [St m,St p,hv',ov] false T 0)):=((ae.refl _ _).put _ (.inr (by simp))).put _ (.inr (by simp))
  refine hQ m p l out r at2 hv' ov _ (by unfold gz; rw[h1]; dsimp only; rw[e3,hmp]) ha2 hr ho hll hlen k4 ?_ ?_
  ·have o2' : Ow HD M3 M0.next TH hv' l:=Own.keep o2 k3 (by simp)
   refine Own.mono (Own.keep o2' k34 (fun x hx hm=>?_)) k0.next
   have:=(Own.blk o2' x hx).1
   simp at hm; omega
  ·refine Own.mono (Own.keep o3 k34 (fun x hx hm=>?_)) k02.next
   have:=(Own.blk o3 x hx).1
   have:=k2.next
   simp at hm; omega
 ·simp only[aY,aZ,dW,jD,Nat.zero_add]
  have X3:=k3.aO X2 (Nat.lt_of_lt_of_le (by omega) k2.next) (by simp)
  rw[fT [St m,St p,hv',aJ] X3 (by simp) rfl rfl rfl,fD,show(((e:Nat) : Int) != 0)=true by rcases he with rfl | rfl | rfl <;> rfl,bF]
  exact err e _ ((k2.trans (k3.mono (by simp))).put _ (.inr (by simp))) (by unfold gz; rw[h1]; dsimp only; rw[e3]) (by omega)
def mr (b:Str) : Except Nat ((Nat × List Hd × Str) × Str):=match headD pY b with
 | .error e=>.error e
 | .ok (s,l,at')=>match oI (b.drop at') l with
   | .error e=>.error e
   | .ok (out,r)=>.ok ((codeOf s,l,out),r)
def Ef (B:Base) (TH T8:Nat) (c:ai) : Prop:=∀ {M:RM} {v:AV} {b:Str} {Q:ah},M.base=B→Bs M v b→b.length≤1000000000 →
 (∀ n l out r at2 hv ov M',mr b=.ok ((n,l,out),r)→at2≤b.length→b.drop at2=r→out.length≤16384→l.length≤32→(∀ h∈l,h.1.length≤2048∧h.2.length≤2048)→ae [] M M'→Ow HD M' M.next TH hv l→Ow BY M' M.next T8 ov out →
  Q (.tup [.agg [N .i64 (n:Int),hv,ov],N .i64 (at2:Int),N .i64 0]) M') →
 (∀ (e:Nat) M',mr b=.error e→(e=14∨e=15∨e=2)→ae [] M M'→Q (.tup [.agg [N .i64 0,aJ,aJ],N .i64 0,N .i64 (e:Int)]) M')→c [v] M Q
theorem EB {B:Base} {T TH T8 g:Nat} {ch cb:ai} (hH:∀ br,EF B (.fn (.func g) [] [.ptr br 0]) pY br (gK T 0) (EM T) TH ch) (hb:EW B T8 cb) : Ef B TH T8 fun args M Q=>∃ a0,args=[a0]∧iw T g ch cb a0 M Q:=by
 intro M v b Q hB hv hl hQ hE
 refine⟨_,rfl, ?_⟩
 unfold iw
 simp only[aT]
 have k0:ae [] M ((M.push (gK T 0)).push (gK T 0)):=((ae.refl _ _).push _).push _
 have a2:((M.push (gK T 0)).push (gK T 0)).heap M.next=some (gK T 0):=by simp[RM.push]
 have a5:((M.push (gK T 0)).push (gK T 0)).heap (M.push (gK T 0)).next=some (gK T 0):=by simp[RM.push]
 have e5:(M.push (gK T 0)).next=M.next + 1:=rfl
 have n0:((M.push (gK T 0)).push (gK T 0)).next=M.next + 2:=rfl
 rw[e5] at a5 ⊢
 generalize (M.push (gK T 0)).push (gK T 0)=M0 at *
 have hv0:=hv.keep k0 (by simp)
 have err:∀ (e:Nat) (M1:RM),ae [M.next + 1] M0 M1→mr b=.error e→(e=14∨e=15∨e=2) →
   gH [(N .i64 0),(.sc (.slice none 0 0)),(.sc (.slice none 0 0))] [] fun t18=>aH M1 (.ptr M.next 0) t18 3 fun M_2=>bu M_2 (.ptr M.next 0) 3 fun res=>Q (.tup [res,(N .i64 0),N .i64 (e:Int)]) M_2:=by
  intro e M1 k1 he1 he
  rw[jl]
  refine⟨_,rfl, ?_⟩
  have n1:=k1.aO a2 (by omega) (by simp)
  rw[jJ n1 (by rfl) (by rfl) (by rfl),bJ (aN _) (by rfl)]
  exact hE e _ he1 he ((qW k0 k1 (by omega)).new _ (Nat.le_refl _))
 refine hH (M.next + 1) (k0.base.trans hB) hv0 hl (by omega) (fun hx=>by have:=hv.lt _ hx; omega) a5 (fun e M1 h1 he k1=>?_) (fun s l at' hv' M1 h1 hat hs hll k1 X1 o1=>?_)
 ·simp only[aY,aZ,dW,fD]
  rw[show(((e:Nat) : Int) != 0)=true by rcases he with rfl | rfl | rfl <;> rfl,bF]
  exact err e M1 k1 (by unfold mr; rw[h1]) (by omega)
 obtain⟨hlen,hp⟩:=DV h1
 simp only[aY,aZ,dW,Ak,bg,jD]
 have X1' : M1.heap (M.next + 1)=some (gK T (codeOf s)):=X1
 have hone:oneCell hv'=true:=Own.one o1
 have hcell:hv'.cells=[hv']:=Own.cells o1
 simp only[Nat.zero_add]
 rw[fT [N .i64 (codeOf s:Int),hv',aJ] X1' (by simp) hcell hone rfl]
 have k2:ae [M.next + 1] M0 (M1.put (M.next + 1) (.row [N .i64 (codeOf s:Int),hv',aJ] false T 0)):=k1.put _ (.inr (by simp))
 have X2:(M1.put (M.next + 1) (.row [N .i64 (codeOf s:Int),hv',aJ] false T 0)).heap (M.next + 1)=some (.row [N .i64 (codeOf s:Int),hv',aJ] false T 0):=aN _
 have o2:Ow HD (M1.put (M.next + 1) (.row [N .i64 (codeOf s:Int),hv',aJ] false T 0)) M0.next TH hv' l:=Own.keep o1 ((ae.refl [M.next + 1] M1).put _ (.inr (by simp))) (fun x hx hm=>by
  have:=(Own.blk o1 x hx).1
  simp at hm; omega)
 generalize M1.put (M.next + 1) (.row [N .i64 (codeOf s:Int),hv',aJ] false T 0)=M2 at *
 have k02:=qW k0 k2 (by omega)
 refine hb (k02.base.trans hB) (hv.keep k02 (by simp)) hat hl (Own.kY o2) (by omega) (fun h hx=>by have:=hlen h hx; omega) (fun out r at2 ov M3 e3 ha2 ha3 hr ho k3 o3=>?_) (fun e M3 e3 he k3=>?_)
 ·simp only[aY,aZ,dW,Ak,bg,jD,Nat.zero_add]
  have X3:=k3.aO X2 (Nat.lt_of_lt_of_le (by omega) k2.next) (by simp)
  rw[fT [N .i64 (codeOf s:Int),hv',ov] X3 (by simp) (Own.cells o3) (Own.one o3) rfl]
  have n3:=(k2.trans (k3.mono (by simp))).aO a2 (by omega) (by simp)
  rw[bJ (aN _) (by rfl),jJ (tL n3 (by omega)) (by rfl) (by rfl) (by have:=Own.one o3; simp only[List.all_cons,List.all_nil,hone,this]; rfl),bJ (aN _) (by rfl)]
  have k4:ae [] M (((M3.put (M.next + 1) (.row [N .i64 (codeOf s:Int),hv',ov] false T 0))).put M.next (.row [N .i64 (codeOf s:Int),hv',ov] false T 0)):=((k02.trans k3).new _ (by omega)).new _ (Nat.le_refl _)
  have k34:ae [M.next,M.next + 1] M3 (((M3.put (M.next + 1) (.row [N .i64 (codeOf s:Int),hv',ov] false T 0))).put M.next (.row [N .i64 (codeOf s:Int),hv',ov] false T 0)):=((ae.refl _ _).put _ (.inr (by simp))).put _ (.inr (by simp))
  refine hQ (codeOf s) l out r at2 hv' ov _ (by unfold mr; rw[h1]; dsimp only; rw[e3]) ha2 hr ho hll hlen k4 ?_ ?_
  ·have o2' : Ow HD M3 M0.next TH hv' l:=Own.keep o2 k3 (by simp)
   refine Own.mono (Own.keep o2' k34 (fun x hx hm=>?_)) k0.next
   have:=(Own.blk o2' x hx).1
   simp at hm; omega
  ·refine Own.mono (Own.keep o3 k34 (fun x hx hm=>?_)) k02.next
   have:=(Own.blk o3 x hx).1
   have:=k2.next
   simp at hm; omega
 ·simp only[aY,aZ,dW,jD,Nat.zero_add]
  have X3:=k3.aO X2 (Nat.lt_of_lt_of_le (by omega) k2.next) (by simp)
  rw[fT [N .i64 (codeOf s:Int),hv',aJ] X3 (by simp) rfl rfl rfl,fD,show(((e:Nat) : Int) != 0)=true by rcases he with rfl | rfl | rfl <;> rfl,bF]
  exact err e _ ((k2.trans (k3.mono (by simp))).put _ (.inr (by simp))) (by unfold mr; rw[h1]; dsimp only; rw[e3]) (by omega)
end Go.Ab.Hw
namespace Go.Ab.Hw
open Go Go.Ab Go.Ab.Sm
def qR (h:Hd) : Bool:=!(!dP h.1 || !bQ h.2 || low h.1 == pE || low h.1 == pu)
def dC (h:Hd) : Str:=h.1++[58,32]++h.2++[13,10]
def sS (first:Str) (l:List Hd) : Str:=first++[13,10]++l.flatMap dC
def lv (first:Str) (l:List Hd) (more:Hd) : Str:=sS first l++(dC more++[13,10])
def qA (l:List Hd) (s:Str) (sz:Nat) : Bool:=decide (((l.length + 1:Nat) : Int) > 32) || decide ((s.length:Int) > 2048) || decide ((sz:Int) > 16384)
def fG (first:Str) (l:List Hd) (more:Hd) (sz:Nat) (body:Str) : Except Nat Str:=match l.all qR with
 | false=>.error 1
 | true=>match qA l (lv first l more) sz with
   | true=>.error 2
   | false=>.ok (lv first l more++body)
theorem Fq:∀ (l:List Hd) (k:Nat),(∀ h∈l,h.1.length≤k∧h.2.length≤k)→(l.flatMap dC).length≤l.length * (2 * k + 4)
 | [],k,_=>by simp
 | h :: l,k,hk=>by
   have:=Fq l k fun x hx=>hk x (.tail _ hx)
   have h0:=hk h (.head _)
   rw[List.flatMap_cons,List.length_append,List.length_cons,Nat.succ_mul]
   have:(dC h).length=h.1.length + h.2.length + 4:=by unfold dC; simp; omega
   omega
def rR (B:Base) (T:Nat) (c:ai) : Prop:=∀ {M:RM} {v bv:AV} {first body:Str} {l:List Hd} {more:Hd} {sz:Nat} {Q:ah},M.base=B→Sl HD M v l→l.length≤1000→(∀ h∈l,h.1.length≤281474976710656∧h.2.length≤281474976710656) →
 first.length≤1000000→more.1.length≤1000000→more.2.length≤1000000→Sl BY M bv body→body.length≤1000000000 →
 (∀ s v' M',fG first l more sz body=.ok s→s.length≤2048 + body.length→ae [] M M'→Ow BY M' M.next T v' s→Q (.tup [v',N .i64 0]) M')→(∀ (e:Nat) M',fG first l more sz body=.error e→(e=1∨e=2)→ae [] M M'→Q (.tup [aJ,N .i64 (e:Int)]) M') →
 c [St first,v,.agg [St more.1,St more.2],N .i64 (sz:Int),bv] M Q
theorem Fw {B:Base} {TH T:Nat} {cn cv cs:ai} (hn:lW dP cn) (hg:Cq B bQ cv) (hs:Ah cs) :
  rR B T fun args M Q=>∃ a0 a1 a2 a3 a4,args=[a0,a1,a2,a3,a4]∧kJ TH cn cv cs T a0 a1 a2 a3 a4 M Q:=by
 intro M v bv first body l more sz Q hB hv hll hle hf hm1 hm2 hbv hbl hQ hE
 refine⟨_,_,_,_,_,rfl, ?_⟩
 unfold kJ
 rw[jr rfl (by simp)]
 simp only[aT]
 have k0:ae [] M (M.push (.row [St more.1,St more.2] false TH 0)):=(ae.refl _ _).push _
 have n0:(M.push (.row [St more.1,St more.2] false TH 0)).heap M.next=some (.row [St more.1,St more.2] false TH 0):=by simp[RM.push]
 have l0:M.next<(M.push (.row [St more.1,St more.2] false TH 0)).next:=by simp[RM.push]
 generalize M.push (.row [St more.1,St more.2] false TH 0)=M0 at *
 rw[bN]
 refine⟨by simp; omega, ?_⟩
 rw[aF.len hv]
 refine eG (fun m ys M3=>∃ i:Nat,m=l.length - i∧ys=[St (sS first (l.take i)),N .i64 (i:Int)]∧i≤l.length∧(l.take i).all qR=true∧ae [] M0 M3) _
  ⟨0,rfl,by simp[sS],Nat.zero_le _,rfl,ae.refl _ _⟩ ?_
 rintro next m ys M3 hnext ⟨i,rfl,rfl,hi,hA,k3⟩
 simp only[bB,cO,Au]
 have k03:=k0.trans k3
 have hv3:Sl HD M3 v l:=aF.keep hv k03 (by simp)
 have hlen:(sS first (l.take i)).length≤1000002 + 1000 * (2 * 281474976710656 + 4):=by
  have:=Fq (l.take i) 281474976710656 fun h hh=>hle h (List.mem_of_mem_take hh)
  have h2:(l.take i).length≤1000:=by simp; omega
  have h3:=Nat.mul_le_mul_right (2 * 281474976710656 + 4) h2
  unfold sS
  simp only[List.length_append,List.length_cons,List.length_nil]
  omega
 refine dQ (fun h=>?_) fun h=>?_
 ·have hlt:i<l.length:=by simpa using h
  obtain⟨b,off,hb,_,hix,hld⟩:=hv3.at 2 (i:Int) hlt
  have hhl:=hle l[i] (List.getElem_mem hlt)
  rw[hix,wU]
  refine⟨_,hld, ?_⟩
  try simp only[aT]
  have n4:(M3.push (.row [St [],St []] false TH 0)).heap M3.next=some (.row [St [],St []] false TH 0):=by simp[RM.push]
  rw[jJ n4 (by rfl) (by rfl) (by rfl)]
  have k4:ae [] M3 ((M3.push (.row [St [],St []] false TH 0)).put M3.next (.row (HD.cells l[i]) false TH 0)):=((ae.refl _ _).push _).new _ (Nat.le_refl _)
  have n5:((M3.push (.row [St [],St []] false TH 0)).put M3.next (.row (HD.cells l[i]) false TH 0)).heap M3.next=some (.row (HD.cells l[i]) false TH 0):=aN _
  have l5:M3.next<((M3.push (.row [St [],St []] false TH 0)).put M3.next (.row (HD.cells l[i]) false TH 0)).next:=by simp[RM.push,RM.put]
  generalize (M3.push (.row [St [],St []] false TH 0)).put M3.next (.row (HD.cells l[i]) false TH 0)=M4 at *
  have ld0:∀ {M' : RM} (k:ae [] M4 M') {K' : AV→Prop},aj M' (.ptr M3.next 0) K'=K' (St l[i].1):=fun k=>aI (k.aO n5 l5 (by simp)) rfl
  have ld1:∀ {M' : RM} (k:ae [] M4 M') {K' : AV→Prop},aj M' (.ptr M3.next 1) K'=K' (St l[i].2):=fun k=>aI (k.aO n5 l5 (by simp)) rfl
  simp only[jb,dx]
  rw[ld0 (ae.refl _ _)]
  have kM4:ae [] M M4:=k03.trans k4
  refine hn (by omega) fun M5 k5=>?_
  simp only[di]
  refine Ae (P:=ae [] M4) (p:=!bQ l[i].2) k5 (fun _ k hk=>?_) fun M6 k6=>?_
  ·rw[ld1 k5]
   refine hg ((kM4.trans k5).base.trans hB) (by omega) fun M6 k6=>?_
   simp only[di]
   exact hk M6 (k5.trans k6)
  refine Ae (P:=ae [] M4) (p:=low l[i].1 == pE) k6 (fun _ k hk=>?_) fun M7 k7=>?_
  ·rw[ld0 k6]
   refine hs (by omega) fun M7 k7=>?_
   simp only[dS]
   exact hk M7 (k6.trans k7)
  refine Ae (P:=ae [] M4) (p:=low l[i].1 == pu) k7 (fun _ k hk=>?_) fun M8 k8=>?_
  ·rw[ld0 k7]
   refine hs (by omega) fun M8 k8=>?_
   simp only[dS]
   exact hk M8 (k7.trans k8)
  have hok:qR l[i]=!(!dP l[i].1 || !bQ l[i].2 || low l[i].1 == pE || low l[i].1 == pu):=rfl
  have htk:(l.take (i + 1)).all qR=qR l[i]:=by
   rw[List.take_succ_eq_append_getElem hlt,List.all_append,hA]; simp
  refine dQ (fun h=>?_) fun h=>?_
  ·have hbad:qR l[i]=false:=by rw[hok,h]; rfl
   refine hE 1 M8 ?_ (.inl rfl) (kM4.trans k8)
   have:l.all qR=false:=by
    rw[← List.take_append_drop (i + 1) l,List.all_append,htk,hbad]; rfl
   unfold fG; rw[this]
  ·have hgd:qR l[i]=true:=by rw[hok,h]; rfl
   rw[ld0 k8,bN]
   refine⟨by simp; omega, ?_⟩
   rw[ld1 k8,bN]
   refine⟨by simp; omega, ?_⟩
   rw[bN]
   refine⟨by simp; omega, ?_⟩
   rw[bN]
   refine⟨by simp; omega, ?_⟩
   rw[add1 (by omega)]
   refine hnext _ _ _ (by omega) ⟨i + 1,rfl, ?_,by omega,by rw[htk,hgd],k3.trans (k4.trans k8)⟩
   congr 2
   unfold sS
   rw[List.take_succ_eq_append_getElem hlt,List.flatMap_append]
   simp[dC]
 ·have:i=l.length:=by simp at h; omega
  subst this
  rw[List.take_length] at hA hlen
  have n3:=k3.aO n0 l0 (by simp)
  simp only[List.take_length,jb,dx]
  rw[aI n3 rfl,bN]
  refine⟨by simp; omega, ?_⟩
  rw[aI n3 (by rfl:([St more.1,St more.2] : List AV)[1]?=some (St more.2)),bN]
  refine⟨by simp; omega, ?_⟩
  rw[bN]
  refine⟨by simp; omega, ?_⟩
  rw[bN]
  refine⟨by simp; omega, ?_⟩
  rw[bN]
  refine⟨by simp; omega, ?_⟩
  have hs:sS first l++(more.1++[58,32]++more.2++[13,10]++[13,10])=lv first l more:=rfl
  rw[hs,aF.len hv,add1 (by omega),show(N .i64 32)=N .i64 ((32:Nat) : Int) from rfl,dI]
  refine CL (p:=decide (((lv first l more).length:Int) > 2048)) (fun _ k hk=>by simpa only[go_sem] using hk) ?_
  refine CL (p:=decide ((sz:Int) > 16384)) (fun _ k hk=>by simpa only[go_sem] using hk) ?_
  have ht:(decide (((l.length + 1:Nat) : Int) > ((32:Nat) : Int)) || decide (((lv first l more).length:Int) > 2048) || decide ((sz:Int) > 16384))=qA l (lv first l more) sz:=rfl
  rw[ht]
  refine dQ (fun h=>?_) fun h=>?_
  ·exact hE 2 M3 (by unfold fG; rw[hA]; simp only[h]) (.inr rfl) k03
  ·rw[iB]
   simp only[aT]
   have k4:ae [] M3 (M3.push (.row (BY.row (lv first l more)) true T 0)):=(ae.refl _ _).push _
   have hal:(lv first l more).length≤2048:=by
    have h':=h
    unfold qA at h'
    simp only[Bool.or_eq_false_iff,decide_eq_false_iff_not] at h'
    omega
   have o4:Ow BY (M3.push (.row (BY.row (lv first l more)) true T 0)) M3.next T (.slc M3.next 0 (lv first l more).length (.op 1)) (lv first l more) :=
    Own.op _ _ _ (Nat.le_refl _) (by simp[RM.push]) (RM.mo _) (by rw[Enc.fH])
   refine mF (E:=BY) o4 k4.next (by decide) (aF.keep (aF.keep hbv k03 (by simp)) k4 (by simp)) (by omega) (by omega) fun v7 M7 o7 k7 _ _=>?_
   refine hQ _ v7 M7 (by unfold fG; rw[hA]; simp only[h]) (by simp; omega) ?_ (Own.mono o7 k03.next)
   refine ae.own (k03.trans k4) k7 (fun x hx=>?_)
   have:=k03.next
   simp[aP] at hx; omega
def lH (base:Nat) : Nat→Nat→Str
 | 0,_=>[]
 | f + 1,n=>match Nat.blt n base with
   | true=>[if n<10 then UInt8.ofNat (48 + n) else UInt8.ofNat (87 + n)]
   | false=>lH base f (n / base)++[if n % base<10 then UInt8.ofNat (48 + n % base) else UInt8.ofNat (87 + n % base)]
def dY (n:Nat) : Str:=lH 10 20 n
def eD (n:Nat) : Str:=lH 16 20 n
def Kb (B:Base) (c:ai) : Prop:=∀ {M:RM} {n:Nat} {Q:ah},M.base=B→n<1000000000000→(∀ M',ae [] M M'→Q (St (dY n)) M')→c [N .i64 (n:Int)] M Q
def CU (B:Base) (c:ai) : Prop:=∀ {M:RM} {n:Nat} {Q:ah},M.base=B→n<4294967296→(∀ M',ae [] M M'→Q (St (eD n)) M')→c [N .i64 (n:Int),N .i64 16] M Q
theorem rW:∀ (base f n:Nat),(lH base f n).length≤f
 | _,0,_=>by simp[lH]
 | base,f + 1,n=>by
   rw[lH]
   split
   ·simp
   ·have:=rW base f (n / base); simp; omega
abbrev kH:Str:=[67,111,110,116,101,110,116,45,76,101,110,103,116,104]
abbrev yE:Str:=[84,114,97,110,115,102,101,114,45,69,110,99,111,100,105,110,103]
def vR (B:Base) (c:ai) : Prop:=∀ {M:RM} {n:Nat} {Q:ah},M.base=B→n<1000000000000→(∀ M',ae [] M M'→Q (.agg [St kH,St (dY n)]) M')→c [N .i64 (n:Int)] M Q
theorem F3 {B:Base} {T:Nat} {ci:ai} (hi:Kb B ci) : vR B fun args M Q=>∃ a0,args=[a0]∧kI T ci a0 M Q:=by
 intro M n Q hB hn hQ
 refine⟨_,rfl, ?_⟩
 unfold kI
 simp only[aT]
 have k0:ae [] M (M.push (.row [St [],St []] false T 0)):=(ae.refl _ _).push _
 have n0:(M.push (.row [St [],St []] false T 0)).heap M.next=some (.row [St [],St []] false T 0):=by simp[RM.push]
 have l0:M.next<(M.push (.row [St [],St []] false T 0)).next:=by simp[RM.push]
 generalize M.push (.row [St [],St []] false T 0)=M0 at *
 refine hi (k0.base.trans hB) hn fun M1 k1=>?_
 rw[jl]
 refine⟨_,Bi rfl rfl rfl rfl, ?_⟩
 rw[jJ (k1.aO n0 l0 (by simp)) (by rfl) (by rfl) (by rfl),bJ (aN _) (by rfl)]
 exact hQ _ ((k0.trans k1).new _ (Nat.le_refl _))
def mP (m p:Str) : Bool:=fK m && ic p
def vN (c:ai) : Prop:=∀ {M:RM} {m p:Str} {x y:AV} {Q:ah},oneCell x=true→oneCell y=true→m.length<4611686018427387904→p.length<4611686018427387904→(∀ M',ae [] M M'→Q (Bo (mP m p)) M')→c [.agg [St m,St p,x,y]] M Q
theorem FB {T:Nat} {cm cp:ai} (hm:lW fK cm) (hp:lW ic cp) : vN fun args M Q=>∃ a0,args=[a0]∧iN T cm cp a0 M Q:=by
 intro M m p x y Q hx hy h1 h2 hQ
 refine⟨_,rfl, ?_⟩
 unfold iN
 rw[jr (by simp only[List.all_cons,List.all_nil,hx,hy]; rfl) (by simp)]
 simp only[aT,dx]
 have k0:ae [] M (M.push (.row [St m,St p,x,y] false T 0)):=(ae.refl _ _).push _
 have n0:(M.push (.row [St m,St p,x,y] false T 0)).heap M.next=some (.row [St m,St p,x,y] false T 0):=by simp[RM.push]
 have l0:M.next<(M.push (.row [St m,St p,x,y] false T 0)).next:=by simp[RM.push]
 generalize M.push (.row [St m,St p,x,y] false T 0)=M0 at *
 rw[jb,aI n0 rfl]
 refine hm h1 fun M1 k1=>?_
 refine BU (P:=ae [] M) (p:=ic p) (k0.trans k1) (fun _ k hk=>?_) hQ
 rw[jb,aI (k1.aO n0 l0 (by simp)) rfl]
 exact hp h2 fun M2 k2=>hk M2 (k0.trans (k1.trans k2))
def jw (m p:Str) : Str:=m++[32]++p++[32]++Fh
def iR (m p:Str) (l:List Hd) (body:Str) : Except Nat Str:=match mP m p with
 | false=>.error 1
 | true=>fG (jw m p) l (kH,dY body.length) body.length body
theorem Fa {m p:Str} (h:mP m p=true) : m.length≤8∧p.length≤201:=by
 unfold mP fK ic gV at h
 simp only[Bool.and_eq_true,decide_eq_true_eq] at h
 omega
def DZ (B:Base) (T:Nat) (c:ai) : Prop:=∀ {M:RM} {hv bv:AV} {m p body:Str} {l:List Hd} {Q:ah},M.base=B→Sl HD M hv l→l.length≤1000→(∀ h∈l,h.1.length≤281474976710656∧h.2.length≤281474976710656) →
 m.length≤281474976710656→p.length≤281474976710656→Sl BY M bv body→body.length≤1000000000 →
 (∀ s v' M',iR m p l body=.ok s→s.length≤2048 + body.length→ae [] M M'→Ow BY M' M.next T v' s→Q (.tup [v',N .i64 0]) M')→(∀ (e:Nat) M',iR m p l body=.error e→(e=1∨e=2)→ae [] M M'→Q (.tup [aJ,N .i64 (e:Int)]) M') →
 c [.agg [St m,St p,hv,bv]] M Q
theorem Er {B:Base} {T T8:Nat} {cg cc cp:ai} (hg:vN cg) (hc:vR B cc) (hp:rR B T8 cp) : DZ B T8 fun args M Q=>∃ a0,args=[a0]∧ik T cg cc cp a0 M Q:=by
 intro M hv bv m p body l Q hB hh hll hle hm hpl hb hbl hQ hE
 refine⟨_,rfl, ?_⟩
 unfold ik
 have ohv:=aF.one hh
 have obv:=aF.one hb
 rw[jr (by simp only[List.all_cons,List.all_nil,ohv,obv]; rfl) (by simp)]
 simp only[aT]
 have k0:ae [] M (M.push (.row [St m,St p,hv,bv] false T 0)):=(ae.refl _ _).push _
 have n0:(M.push (.row [St m,St p,hv,bv] false T 0)).heap M.next=some (.row [St m,St p,hv,bv] false T 0):=by simp[RM.push]
 have l0:M.next<(M.push (.row [St m,St p,hv,bv] false T 0)).next:=by simp[RM.push]
 generalize M.push (.row [St m,St p,hv,bv] false T 0)=M0 at *
 rw[bJ n0 (by rfl)]
 refine hg ohv obv (by omega) (by omega) fun M1 k1=>?_
 have n1:=k1.aO n0 l0 (by simp)
 have l1:=Nat.lt_of_lt_of_le l0 k1.next
 have k01:=k0.trans k1
 simp only[di]
 refine dQ (fun h=>?_) fun h=>?_
 ·have hk:mP m p=false:=by simpa using h
  exact hE 1 M1 (by unfold iR; rw[hk]) (.inl rfl) k01
 have hk:mP m p=true:=by simpa using h
 obtain⟨q1,q2⟩:=Fa hk
 have e:iR m p l body=fG (jw m p) l (kH,dY body.length) body.length body:=by unfold iR; rw[hk]
 rw[e] at hQ hE
 have ld0:∀ {M' : RM} (k:ae [] M1 M') {K' : AV→Prop},aj M' (.ptr M.next 0) K'=K' (St m):=fun k=>aI (k.aO n1 l1 (by simp)) rfl
 have ld1:∀ {M' : RM} (k:ae [] M1 M') {K' : AV→Prop},aj M' (.ptr M.next 1) K'=K' (St p):=fun k=>aI (k.aO n1 l1 (by simp)) rfl
 have ld2:∀ {M' : RM} (k:ae [] M1 M') {K' : AV→Prop},aj M' (.ptr M.next 2) K'=K' hv:=fun k=>aI (k.aO n1 l1 (by simp)) rfl
 have ld3:∀ {M' : RM} (k:ae [] M1 M') {K' : AV→Prop},aj M' (.ptr M.next 3) K'=K' bv:=fun k=>aI (k.aO n1 l1 (by simp)) rfl
 simp only[jb,ld0 (ae.refl _ M1),ld1 (ae.refl _ M1),ld2 (ae.refl _ M1),ld3 (ae.refl _ M1)]
 rw[bN]
 refine⟨by simp; omega, ?_⟩
 rw[bN]
 refine⟨by simp; omega, ?_⟩
 rw[bN]
 refine⟨by simp; omega, ?_⟩
 rw[bN]
 refine⟨by simp; omega, ?_⟩
 rw[aF.len hb,aF.len hb]
 refine hc (n:=body.length) (k01.base.trans hB) (by omega) fun M2 k2=>?_
 have k02:=k01.trans k2
 rw[ld0 k2]; refine⟨rfl, ?_⟩
 rw[ld1 k2]; refine⟨rfl, ?_⟩
 rw[ld2 k2]; refine⟨rfl, ?_⟩
 rw[ld3 k2]; refine⟨rfl, ?_⟩
 rw[ld3 k2]; refine⟨rfl, ?_⟩
 have hil:(dY body.length).length≤20:=rW _ _ _
 refine hp (more:=(kH,dY body.length)) (k02.base.trans hB) (aF.keep hh k02 (by simp)) hll hle (by simp; omega) (by simp) (by simpa using (by omega:(dY body.length).length≤1000000)) (aF.keep hb k02 (by simp)) hbl (fun s v' M3 e3 hl3 k3 o3=>?_) (fun e' M3 e3 he k3=>?_)
 ·simp only[aY,aZ]
  exact hQ s v' M3 e3 hl3 (k02.trans k3) (Own.mono o3 k02.next)
 ·simp only[aY,aZ]
  exact hE e' M3 e3 he (k02.trans k3)
def CJ (n:Int) : Bool:=decide (n<100) || decide (n > 599)
def yB (n:Int) : Str:=if (n.tdiv 100 == 2)=true then[79,75] else[78,111]
def EU (n:Int) : Str:=Fu++dY n.toNat++[32]++yB n
def jW (n:Int) (l:List Hd) (body:Str) : Except Nat Str:=match CJ n with
 | true=>.error 1
 | false=>fG (EU n) l (kH,dY body.length) body.length body
def BI (B:Base) (T:Nat) (c:ai) : Prop:=∀ {M:RM} {hv bv:AV} {n:Int} {body:Str} {l:List Hd} {Q:ah},M.base=B→Sl HD M hv l→l.length≤1000→(∀ h∈l,h.1.length≤281474976710656∧h.2.length≤281474976710656) →
 Sl BY M bv body→body.length≤1000000000 →
 (∀ s v' M',jW n l body=.ok s→s.length≤2048 + body.length→ae [] M M'→Ow BY M' M.next T v' s→Q (.tup [v',N .i64 0]) M')→(∀ (e:Nat) M',jW n l body=.error e→(e=1∨e=2)→ae [] M M'→Q (.tup [aJ,N .i64 (e:Int)]) M') →
 c [.agg [N .i64 n,hv,bv]] M Q
theorem CY {B:Base} {T T8:Nat} {ci cc cp:ai} (hi:Kb B ci) (hc:vR B cc) (hp:rR B T8 cp) : BI B T8 fun args M Q=>∃ a0,args=[a0]∧gX T ci cc cp a0 M Q:=by
 intro M hv bv n body l Q hB hh hll hle hb hbl hQ hE
 refine⟨_,rfl, ?_⟩
 unfold gX
 have ohv:=aF.one hh
 have obv:=aF.one hb
 rw[jr (by simp only[List.all_cons,List.all_nil,ohv,obv]; rfl) (by simp)]
 simp only[aT]
 have k0:ae [] M (M.push (.row [N .i64 n,hv,bv] false T 0)):=(ae.refl _ _).push _
 have n0:(M.push (.row [N .i64 n,hv,bv] false T 0)).heap M.next=some (.row [N .i64 n,hv,bv] false T 0):=by simp[RM.push]
 have l0:M.next<(M.push (.row [N .i64 n,hv,bv] false T 0)).next:=by simp[RM.push]
 generalize M.push (.row [N .i64 n,hv,bv] false T 0)=M1 at *
 have ld0:∀ {M' : RM} (k:ae [] M1 M') {K' : AV→Prop},aj M' (.ptr M.next 0) K'=K' (N .i64 n):=fun k=>aI (k.aO n0 l0 (by simp)) rfl
 have ld1:∀ {M' : RM} (k:ae [] M1 M') {K' : AV→Prop},aj M' (.ptr M.next 1) K'=K' hv:=fun k=>aI (k.aO n0 l0 (by simp)) rfl
 have ld2:∀ {M' : RM} (k:ae [] M1 M') {K' : AV→Prop},aj M' (.ptr M.next 2) K'=K' bv:=fun k=>aI (k.aO n0 l0 (by simp)) rfl
 simp only[jb,dx,ld0 (ae.refl _ M1),ld1 (ae.refl _ M1),ld2 (ae.refl _ M1),iI]
 refine CL (p:=decide (n > 599)) (fun _ k hk=>?_) ?_
 ·simpa only[dI,ld0 (ae.refl _ M1)] using hk
 have hbc:(decide (n<100) || decide (n > 599))=CJ n:=rfl
 rw[hbc]
 refine dQ (fun h=>?_) fun h=>?_
 ·exact hE 1 M1 (by unfold jW; rw[h]) (.inl rfl) k0
 have h':=h
 unfold CJ at h'
 simp only[Bool.or_eq_false_iff,decide_eq_false_iff_not] at h'
 have e:jW n l body=fG (EU n) l (kH,dY body.length) body.length body:=by unfold jW; rw[h]
 rw[e] at hQ hE
 rw[oq,ld0 (ae.refl _ M1),Ni]
 refine⟨by decide, ?_⟩
 have hdv:1≤n.tdiv 100∧n.tdiv 100≤5:=by
  rw[Int.tdiv_eq_ediv_of_nonneg (by omega)]; omega
 rw[gT (by omega) (by omega),bI]
 have tail:∀ w:Str,w=yB n→((aj M1 (.ptr M.next 0) fun t18=>aj M1 (.ptr M.next 1) fun t25=>aj M1 (.ptr M.next 2) fun t27=>aR t27 fun t28=>aj M1 (.ptr M.next 2) fun t31=>aR t31 fun t32=>aj M1 (.ptr M.next 2) fun t34=>ci [t18] M1 fun t19 M_9=>aj M_9 (.ptr M.next 1) fun Qw=>(Qw=t25∧aj M_9 (.ptr M.next 2) fun Qu=>(Qu=t27∧aj M_9 (.ptr M.next 2) fun Qs=>(Qs=t31∧aj M_9 (.ptr M.next 2) fun PG=>(PG=t34∧aV .add (St [72,84,84,80,47,49,46,49,32]) t19 fun t20=>aV .add t20 (St [32]) fun t21=>aV .add t21 (St w) fun t23=>cc [t28] M_9 fun t29 Ja=>aj Ja (.ptr M.next 1) fun Pq=>(Pq=t25∧aj Ja (.ptr M.next 2) fun Py=>(Py=t31∧aj Ja (.ptr M.next 2) fun PV=>(PV=t34∧cp [t23,t25,t29,t32,t34] Ja fun t35 NH=>aC t35 0 fun t36=>aC t35 1 fun t37=>Q (.tup [t36,t37]) NH)))))))) : Prop):=by
  intro w hw
  rw[ld0 (ae.refl _ M1),ld1 (ae.refl _ M1),ld2 (ae.refl _ M1),aF.len hb,ld2 (ae.refl _ M1),aF.len hb,ld2 (ae.refl _ M1)]
  obtain⟨m,rfl⟩ : ∃ m:Nat,n=(m:Int):=⟨n.toNat,by omega⟩
  refine hi (k0.base.trans hB) (by omega) fun M2 k2=>?_
  rw[ld1 k2]; refine⟨rfl, ?_⟩
  rw[ld2 k2]; refine⟨rfl, ?_⟩
  rw[ld2 k2]; refine⟨rfl, ?_⟩
  rw[ld2 k2]; refine⟨rfl, ?_⟩
  have hl1:(dY m).length≤20:=rW _ _ _
  have hl2:(dY body.length).length≤20:=rW _ _ _
  have hwl:w.length≤2:=by rw[hw]; unfold yB; split <;> simp
  rw[bN]
  refine⟨by simp; omega, ?_⟩
  rw[bN]
  refine⟨by simp; omega, ?_⟩
  rw[bN]
  refine⟨by simp; omega, ?_⟩
  have k02:=k0.trans k2
  refine hc (n:=body.length) (k02.base.trans hB) (by omega) fun M3 k3=>?_
  have k23:=k2.trans k3
  rw[ld1 k23]; refine⟨rfl, ?_⟩
  rw[ld2 k23]; refine⟨rfl, ?_⟩
  rw[ld2 k23]; refine⟨rfl, ?_⟩
  have k03:=k0.trans k23
  have NT:[72,84,84,80,47,49,46,49,32]++dY m++[32]++w=EU (m:Int):=by rw[hw]; rfl
  rw[NT]
  have Uo:(EU (m:Int)).length≤1000000:=by rw[← NT]; simp; omega
  refine hp (more:=(kH,dY body.length)) (k03.base.trans hB) (aF.keep hh k03 (by simp)) hll hle Uo (by simp) (by simpa using (by omega:(dY body.length).length≤1000000)) (aF.keep hb k03 (by simp)) hbl (fun s v' M4 e4 hl4 k4 o4=>?_) (fun e' M4 e4 he k4=>?_)
  ·simp only[aY,aZ]
   exact hQ s v' M4 e4 hl4 (k03.trans k4) (Own.mono o4 k03.next)
  ·simp only[aY,aZ]
   exact hE e' M4 e4 he (k03.trans k4)
 refine dQ (fun h=>?_) fun h=>?_
 ·exact tail [79,75] (by unfold yB; rw[if_pos h])
 ·exact tail [78,111] (by unfold yB; rw[if_neg (by rw[h]; decide)])
abbrev ZB:List AV:=[N .u8 0]
theorem uZ (n:Nat) : (cB ZB n).length=n∧(cB ZB n).all oneCell=true:=by
 induction n with
 | zero=>simp[cB]
 | succ n ih=>rw[cB,List.length_append,List.all_append,ih.1,ih.2]; simp[oneCell]; omega
theorem Gn:∀ (a b:Nat),cB ZB (a + b)=cB ZB a++cB ZB b
 | 0,b=>by simp[cB]
 | a + 1,b=>by rw[show a + 1 + b=(a + b) + 1 by omega,cB,cB,Gn a b]; simp
theorem kG (s:Str) : (BY.row s).length=s.length:=by rw[Enc.fH]; simp[BY]
theorem QX {M:RM} {b T k:Nat} {ps ys:Str} {u:AV} {zs:List AV} {K:ah} (hb:M.heap b=some (.row (BY.row ps++cB ZB k) true T 0)) (hu:Sl BY M u ys) (hk:ys.length≤k) (hl:ps.length + ys.length≤1000000000)
  (hK:∀ M',M'.heap b=some (.row (BY.row (ps++ys)++cB ZB (k - ys.length)) true T 0)→ae [b] M M'→M'.next=M.next→K (.slc b 0 (ps++ys).length (.op 1)) M') :
  appW T 1 1 zs false (.slc b 0 ps.length (.op 1)) u M K:=by
 have hn:=aF.ni hu zs
 refine⟨ys.length,BY.row ys,hn,by omega,by omega, ?_⟩
 by_cases h0:ys.length=0
 ·have:ys=[]:=List.length_eq_zero_iff.1 h0
  subst this
  refine⟨.slc b 0 ps.length (.op 1),M,by simp[rq], ?_⟩
  have:=hK M (by simpa using hb) (ae.refl _ _) rfl
  simpa using this
 ·have hfit:0 + (ps.length + ys.length) * 1≤(BY.row ps++cB ZB k).length:=by
   rw[List.length_append,kG,(uZ k).1]; omega
  refine⟨.slc b 0 (ps.length + ys.length) (.op 1),M.put b (.row (BY.row (ps++ys)++cB ZB (k - ys.length)) true T 0), ?_, ?_⟩
  ·simp only[rq,if_neg h0,hb]
   rw[if_pos (by simp),if_pos hfit,RM.xI hb,rZ (by rw[kG,List.length_append,kG,(uZ k).1]; omega) (by omega) (BY.qC ys)]
   simp only[Option.map_some]
   congr 4
   rw[Enc.nG]
   have e1:(BY.row ps++cB ZB k).take (0 + ps.length * 1)=BY.row ps:=by rw[List.take_left' (by rw[kG]; omega)]
   have e2:(BY.row ps++cB ZB k).drop (0 + ps.length * 1 + (BY.row ys).length)=cB ZB (k - ys.length):=by
    rw[show cB ZB k=cB ZB ys.length++cB ZB (k - ys.length) by rw[← Gn]; congr 1; omega,← List.append_assoc,List.drop_left' (by rw[List.length_append,kG,(uZ _).1,kG]; omega)]
   rw[e1,e2]
  ·have:=hK _ (aN _) ((ae.refl _ _).put _ (.inr (by simp))) rfl
   rw[List.length_append] at this
   exact this
theorem Ot {M:RM} {base T n:Nat} {v:AV} {cs:List AV} (h:Own M base T 1 v cs n) (hn:0<n) : ∃ b,v=.slc b 0 n (.op 1)∧base≤b∧b<M.next∧M.heap b=some (.row cs true T 0):=by
 cases h with
 | nil=>omega
 | ex0 b o _ _ _=>omega
 | op b n cs h1 h2 h3 h4=>exact⟨b,rfl,h1,h2,h3⟩
def Gx (T:Nat) (c:ai) : Prop:=∀ {M:RM} {n:Nat} {Q:ah},n≤1000000000→0<n →
 (∀ b M',M.next≤b→b<M'.next→M'.heap b=some (.row (cB ZB n) true T 0)→ae [] M M'→Q (.slc b 0 0 (.op 1)) M')→c [aJ,N .i64 (n:Int)] M Q
theorem Jn {TS T:Nat} : Gx T fun args M Q=>∃ a0 a1,args=[a0,a1]∧tZ TS T a0 a1 M Q:=by
 intro M n Q hn hz h1
 refine⟨_,_,rfl, ?_⟩
 unfold tZ
 rw[oq,iI,show decide ((n:Int)<0)=false by simp,bg]
 dsimp only
 rw[oq]
 have hcap:∀ K:AV→Prop,uY aJ K=K (N .i64 0):=fun K=>by
  unfold uY
  exact propext ⟨fun⟨m,h,k⟩=>by cases h; exact k,fun k=>⟨0,rfl,k⟩⟩
 rw[hcap,AU,ku,show IntKind.wrap .i64 ((0:Int) - 0)=0 from by rw[gT] <;> decide,ku,Int.sub_zero,gT (by omega) (by omega),dI]
 dsimp only[ax]
 rw[show decide ((n:Int) > 0)=true by simp; omega,bF,hcap,show dD 1 aJ none (some (N .i64 0)) none=some aJ by simp[dD,bnd],eP]
 have hr:=uZ n
 refine yL (base:=M.next) (m:=n) (ds:=cB ZB n) .nil (Nat.le_refl _) (Nat.le_refl _) (by simp[ni]) (by rw[hr.1,Nat.mul_one]) hr.2 (by omega) (by omega) ?_
 intro v' M' o k _ _
 rw[Nat.zero_add] at o
 obtain⟨b,rfl,q1,q2,q3⟩:=Ot o (by omega)
 rw[AU,show dD 1 (.slc b 0 n (.op 1)) none (some (N .i64 0)) none=some (.slc b 0 0 (.op 1)) by simp[dD,bnd]; omega,eP]
 exact h1 b M' q1 q2 (by simpa using q3) (by simpa [aP] using k)
def AY (T:Nat) (c:ai) : Prop:=∀ {M:RM} {bb TB:Nat} {vs:List AV} {xss:List Str} {Q:ah},M.heap bb=some (.row vs false TB 0)→bb<M.next→vs.length=xss.length→vs.length≤1000→(∀ (i:Nat) (v:AV) (x:Str),vs[i]?=some v→xss[i]?=some x→Sl BY M v x) →
 0<xss.flatten.length→xss.flatten.length≤1000000000→(∀ r M',Ow BY M' M.next T r xss.flatten→ae [] M M'→Q r M')→c [.slc bb 0 vs.length (.ex vs.length)] M Q
theorem Gj {TS T:Nat} {cg:ai} (hg:Gx T cg) : AY T fun args M Q=>∃ a0,args=[a0]∧pI TS cg T a0 M Q:=by
 intro M bb TB vs xss Q hb hbl hlen hvl hv hpos hmax hQ
 refine⟨_,rfl, ?_⟩
 unfold pI
 simp only[oq]
 have at_:∀ (i:Nat) (K:AV→Prop),i<vs.length→dO (.slc bb 0 vs.length (.ex vs.length)) (N .i64 (i:Int)) 1 K=K (.ptr bb i):=fun i K hi=>by
  rw[rH]
  simp only[Int.toNat_natCast,Nat.mul_one,Nat.zero_add]
  exact propext ⟨fun h=>h.2.2,fun h=>⟨by omega,by omega,h⟩⟩
 have hfl:∀ i,i≤xss.length→(xss.take i).flatten.length≤xss.flatten.length:=fun i _=>by
  have e:xss.flatten=(xss.take i).flatten++(xss.drop i).flatten:=by rw[← List.flatten_append,List.take_append_drop]
  rw[e,List.length_append]; omega
 have hst:∀ i (hi:i<xss.length),(xss.take (i + 1)).flatten=(xss.take i).flatten++xss[i]:=fun i hi=>by
  rw[List.take_succ_eq_append_getElem hi,List.flatten_append,List.flatten_cons,List.flatten_nil,List.append_nil]
 rw[kC]
 refine eG (fun m zs M3=>∃ i:Nat,m=vs.length - i∧i≤vs.length∧zs=[N .i64 ((xss.take i).flatten.length:Int),N .i64 (i:Int)]∧M3=M) _ ⟨0,rfl,Nat.zero_le _,rfl,rfl⟩ ?_
 rintro next m zs M3 hnext ⟨i,rfl,hi,rfl,rfl⟩
 simp only[bB,cO,Au]
 refine dQ (fun h=>?_) fun h=>?_
 ·have hlt:i<vs.length:=by simpa using h
  have hlx:i<xss.length:=by omega
  have sl:=hv i vs[i] xss[i] (List.getElem?_eq_getElem hlt) (List.getElem?_eq_getElem hlx)
  have h1:=hfl (i + 1) (by omega)
  have h2:=congrArg List.length (hst i hlx)
  rw[List.length_append] at h2
  rw[at_ i _ hlt,aI hb (List.getElem?_eq_getElem hlt),aF.len sl,addN (by omega),iI,show decide ((((xss.take i).flatten.length + xss[i].length:Nat) : Int)<0)=false by simp; omega,bg]
  try simp only[bB]
  rw[add1 (by omega)]
  exact hnext _ _ _ (by omega) ⟨i + 1,rfl,by omega,by rw[h2],rfl⟩
 ·have:i=vs.length:=by simp at h; omega
  subst this
  rw[hlen,List.take_length]
  refine hg hmax hpos fun b M4 hb0 hb1 hrow k4=>?_
  rw[← hlen,kC]
  have hbb:bb≠b:=by omega
  refine eG (fun m zs M5=>∃ i:Nat,m=vs.length - i∧i≤vs.length∧zs=[.slc b 0 (xss.take i).flatten.length (.op 1),N .i64 (i:Int)]∧ae [b] M4 M5∧M5.next=M4.next ∧
    M5.heap b=some (.row (BY.row (xss.take i).flatten++cB ZB (xss.flatten.length - (xss.take i).flatten.length)) true T 0)) _
   ⟨0,rfl,Nat.zero_le _,rfl,ae.refl _ _,rfl,by simpa [Enc.row] using hrow⟩ ?_
  rintro next2 m zs M5 PT ⟨i,rfl,hi2,rfl,k5,n5,ER⟩
  simp only[bB,cO,Au]
  refine dQ (fun h=>?_) fun h=>?_
  ·have hlt:i<vs.length:=by simpa using h
   have hlx:i<xss.length:=by omega
   have sl:=hv i vs[i] xss[i] (List.getElem?_eq_getElem hlt) (List.getElem?_eq_getElem hlx)
   have hb4:=k4.aO hb hbl (by simp)
   have hb5:=k5.aO hb4 (by omega) (by simp; exact hbb)
   have sl5:Sl BY M5 vs[i] xss[i]:=aF.keep (aF.keep sl k4 (by simp)) k5 (fun d hd hm=>by have:=aF.lt sl d hd; simp at hm; omega)
   have h1:=hfl (i + 1) (by omega)
   have h2:=congrArg List.length (hst i hlx)
   rw[List.length_append] at h2
   rw[at_ i _ hlt,aI hb5 (List.getElem?_eq_getElem hlt)]
   refine QX ER sl5 (by omega) (by omega) fun M6 Q0 k6 n6=>?_
   rw[add1 (by omega)]
   refine PT _ _ _ (by omega) ⟨i + 1,rfl,by omega,by rw[hst i hlx],k5.trans k6,by rw[n6,n5], ?_⟩
   rw[Q0,hst i hlx,List.length_append,Nat.sub_sub]
  ·have:i=vs.length:=by simp at h; omega
   subst this
   rw[hlen,List.take_length] at ER ⊢
   rw[Nat.sub_self] at ER
   have PN:M5.heap b=some (.row (BY.row xss.flatten) true T 0):=by simpa [cB] using ER
   refine hQ _ M5 (Own.op _ _ _ hb0 (by omega) PN (by rw[Enc.fH])) ?_
   exact⟨k5.base.trans k4.base,by rw[n5]; exact k4.next,fun x hx _=>by rw[k5.heap x (Nat.lt_of_lt_of_le hx k4.next) (by simp; omega),k4.heap x hx (by simp)]⟩
def Dl (T:Nat) (c:ai) : Prop:=∀ {M:RM} {v:AV} {s:List Int} {Q:ah},Sl INT M v s→s.length≤1000000→(∀ v' M',Ow INT M' M.next T v' s→ae [] M M'→Q v' M')→c [v] M Q
theorem Hy {T:Nat} : Dl T fun args M Q=>∃ a0,args=[a0]∧uf T a0 M Q:=by
 intro M v s Q hv hl hQ
 refine⟨_,rfl, ?_⟩
 unfold uf
 rcases aF.uQ hv false with⟨rfl,he⟩ | ⟨hne,he⟩
 ·rw[he,show(!false)=true from rfl,bF]
  have:s=[]:=by
   unfold Sl at hv
   cases s with
   | nil=>rfl
   | cons x s=>generalize hcs:INT.row (x :: s)=cs at *; generalize hn:(x :: s).length=n at *; cases hv; cases hcs
  subst this
  exact hQ aJ M .nil (ae.refl _ _)
 ·rw[he,bg,EH]
  simp only[aT]
  have k1:ae [] M (M.push (.row [] false T 0)):=(ae.refl _ _).push _
  refine mF (E:=INT) (Ow.lit INT M) (by simp[RM.push]) (by decide) (aF.keep hv k1 (by simp)) (by simp; omega) (by simp; omega) fun v7 M7 o7 k7 _ _=>?_
  refine hQ v7 M7 (by simpa using o7) ?_
  refine ae.own k1 k7 (fun b hb=>?_)
  simp[aP] at hb; omega
theorem IU {M:RM} {base T:Nat} {v:AV} {xs s:Str} {zs:List AV} {K:ah} (ho:Ow BY M base T v xs) (hb:base≤M.next) (hn:xs.length + s.length≤1000000000)
  (hK:∀ v' M',Ow BY M' base T v' (xs++s)→ae (aP v) M M'→K v' M') : appW T 1 1 zs false v (St s) M K:=by
 have e:ni M 1 zs false (St s)=some (s.length,BY.row s):=by simp[ni,Ch]
 refine yL ho hb (by decide) e (by rw[kG,Nat.mul_one]) (BY.qC s) (by omega) (by omega) fun v' M' h1 h2 _ _=>?_
 refine hK v' M' ?_ h2
 rw[← Enc.nG] at h1
 unfold Ow; rw[List.length_append]; exact h1
def iQ (n:Int) (rest:Str) : Int:=if (rest.length:Int)<n then(rest.length:Int) else n
def df (s:Str) : Str:=eD s.length++[13,10]++s++[13,10]
def bV:List Int→Str→Str→Str × Str
 | [],acc,rest=>(acc,rest)
 | n :: ns,acc,rest=>match decide (iQ n rest<1) with
   | true=>bV ns acc rest
   | false=>bV ns (acc++df (rest.take (iQ n rest).toNat)) (rest.drop (iQ n rest).toNat)
theorem CB:∀ (a b:List Int) (acc rest:Str),bV (a++b) acc rest=bV b (bV a acc rest).1 (bV a acc rest).2
 | [],b,acc,rest=>rfl
 | n :: a,b,acc,rest=>by
   rw[List.cons_append,bV,bV]
   split <;> exact CB a b _ _
abbrev lh:Str:=[48,13,10,13,10]
def fe (m p:Str) (l:List Hd) (body:Str) (sizes:List Int) : Except Nat Str:=match mP m p with
 | false=>.error 1
 | true=>fG (jw m p) l (yE,rU) body.length ((bV (sizes++[(body.length:Int)]) [] body).1++lh)
theorem Q4 {T:Nat} {zs:List AV} {a b c d z:AV} {K:RB→(Nat→AV)→Prop} (ha:a.cells=[a]) (hb:b.cells=[b]) (hc:c.cells=[c]) (hd:d.cells=[d]) (ha1:oneCell a=true) (hb1:oneCell b=true) (hc1:oneCell c=true) (hd1:oneCell d=true) :
  dE T 4 [z] [(0,1,a),(1,1,b),(2,1,c),(3,1,d)] K=K (.row [a,b,c,d] false T 0) (fun b=>.slc b 0 4 (.ex 4)):=by
 have:oC (cB [z] 4) [(0,1,a),(1,1,b),(2,1,c),(3,1,d)]=some [a,b,c,d]:=by
  simp[oC,cB,ha,hb,hc,hd,ha1,hb1,hc1,hd1]
 apply propext; unfold dE
 constructor
 ·rintro⟨l,h,hk⟩; rw[this] at h; cases h; exact hk
 ·intro hk; exact⟨_,this,hk⟩
theorem Bs.new (M:RM) (T:Nat) (s:Str) : Bs (M.push (.row (BY.row s) true T 0)) (.slc M.next 0 s.length (.op 1)) s:=⟨(Rw.new M s).sl,rfl⟩
def zO (B:Base) (T:Nat) (c:ai) : Prop:=∀ {M:RM} {hv bv sv:AV} {m p body:Str} {l:List Hd} {sizes:List Int} {Q:ah},M.base=B→Sl HD M hv l→l.length≤1000→(∀ h∈l,h.1.length≤281474976710656∧h.2.length≤281474976710656) →
 m.length≤281474976710656→p.length≤281474976710656→Bs M bv body→body.length≤1000000→Sl INT M sv sizes→sizes.length≤1000 →
 (∀ s v' M',fe m p l body sizes=.ok s→s.length≤100000000→ae [] M M'→Ow BY M' M.next T v' s→Q (.tup [v',N .i64 0]) M')→(∀ (e:Nat) M',fe m p l body sizes=.error e→(e=1∨e=2)→ae [] M M'→Q (.tup [aJ,N .i64 (e:Int)]) M') →
 c [.agg [St m,St p,hv,bv],sv] M Q
theorem BX {B:Base} {T TI T8 TB:Nat} {cg ck cf cc cp:ai} (hg:vN cg) (hk:Dl TI ck) (hf:CU B cf) (hc:AY T8 cc) (hp:rR B T8 cp) :
  zO B T8 fun args M Q=>∃ a0 a1,args=[a0,a1]∧jY T cg ck TI T8 cf TB cc cp a0 a1 M Q:=by
 intro M hv bv sv m p body l sizes Q hB hh hll hle hm hpl hb hbl hsv hsl hQ hE
 refine⟨_,_,rfl, ?_⟩
 unfold jY
 have ohv:=aF.one hh
 have obv:=aF.one hb.sl
 rw[jr (by simp only[List.all_cons,List.all_nil,ohv,obv]; rfl) (by simp)]
 simp only[aT]
 have k0:ae [] M (M.push (.row [St m,St p,hv,bv] false T 0)):=(ae.refl _ _).push _
 have n0:(M.push (.row [St m,St p,hv,bv] false T 0)).heap M.next=some (.row [St m,St p,hv,bv] false T 0):=by simp[RM.push]
 have l0:M.next<(M.push (.row [St m,St p,hv,bv] false T 0)).next:=by simp[RM.push]
 generalize M.push (.row [St m,St p,hv,bv] false T 0)=M0 at *
 rw[bJ n0 (by rfl)]
 refine hg ohv obv (by omega) (by omega) fun M1 k1=>?_
 have n1:=k1.aO n0 l0 (by simp)
 have l1:=Nat.lt_of_lt_of_le l0 k1.next
 have k01:=k0.trans k1
 simp only[di]
 refine dQ (fun h=>?_) fun h=>?_
 ·have hk:mP m p=false:=by simpa using h
  exact hE 1 M1 (by unfold fe; rw[hk]) (.inl rfl) k01
 have hok:mP m p=true:=by simpa using h
 obtain⟨q1,q2⟩:=Fa hok
 have e:fe m p l body sizes=fG (jw m p) l (yE,rU) body.length ((bV (sizes++[(body.length:Int)]) [] body).1++lh):=by unfold fe; rw[hok]
 rw[e] at hQ hE
 have ld:∀ {M' : RM} (k:ae [] M1 M') (i:Nat) (x:AV),([St m,St p,hv,bv] : List AV)[i]?=some x→∀ {K' : AV→Prop},aj M' (.ptr M.next i) K'=K' x:=fun k i x hx=>aI (k.aO n1 l1 (by simp)) hx
 simp only[jb]
 rw[ld (ae.refl _ _) 3 bv rfl]
 refine hk (aF.keep hsv k01 (by simp)) (by omega) fun v2 M2 o2 k2=>?_
 rw[hb.len,zB (by rfl) (by rfl) (by rfl)]
 simp only[aT]
 have k02:=k01.trans k2
 refine zD (E:=INT) (a:=(body.length:Int)) (Own.mono o2 k01.next) k02.next (by decide) (by omega) (by omega) fun v3 M3 o3 k3 _ _=>?_
 have k03:ae [] M M3:=ae.own k02 k3 (fun x hx=>by have:=(Own.blk o2 x hx).1; have:=k01.next; omega)
 have k13:ae [] M1 M3:=ae.own k2 k3 (fun x hx=>(Own.blk o2 x hx).1)
 generalize hns:sizes++[(body.length:Int)]=ns at *
 have hnl:ns.length≤1001:=by rw[← hns]; simp; omega
 have s3:Sl INT M3 v3 ns:=Own.kY o3
 rw[aF.len s3]
 refine eG (fun z ys M4=>∃ (i:Nat) (av rv:AV) (acc rest:Str),z=ns.length - i∧ys=[av,rv,N .i64 (i:Int)]∧i≤ns.length∧ae [] M3 M4∧Ow BY M4 M1.next T8 av acc∧Bs M4 rv rest∧(∀ x∈aP rv,x∈aP bv) ∧
   bV ns [] body=bV (ns.drop i) acc rest∧acc.length + rest.length≤i * 30 + body.length) _
  ⟨0,aJ,bv,[],body,rfl,rfl,Nat.zero_le _,ae.refl _ _,.nil,hb.keep k03 (by simp),fun x hx=>hx,rfl,by simp⟩ ?_
 rintro next z ys M4 hnext ⟨i,av,rv,acc,rest,rfl,rfl,hi,k4,oa,hr,hrb,hch,hal⟩
 simp only[bB,cO,Au]
 have k34:=k03.trans k4
 have k14:=k13.trans k4
 refine dQ (fun h=>?_) fun h=>?_
 ·have hlt:i<ns.length:=by simpa using h
  have s4:Sl INT M4 v3 ns:=aF.keep s3 k4 (by simp)
  obtain⟨b0,o0,_,_,hix,hld⟩:=s4.at 1 (i:Int) hlt
  have hdr:ns.drop i=ns[i] :: ns.drop (i + 1):=List.drop_eq_getElem_cons hlt
  rw[oq,hix,dU]
  refine⟨_,dX.1 hld, ?_⟩
  rw[hr.len,Ll]
  have hcut:(if false=true then(if (rest.length:Int) > ns[i] then(rest.length:Int) else ns[i]) else if (rest.length:Int)<ns[i] then(rest.length:Int) else ns[i])=iQ ns[i] rest:=by
   unfold iQ; simp
  rw[hcut,iI]
  refine dQ (fun h=>?_) fun h=>?_
  ·simp only[bB,cO]
   rw[add1 (by omega)]
   refine hnext _ _ _ (by omega) ⟨i + 1,av,rv,acc,rest,rfl,rfl,by omega,k4,oa,hr,hrb, ?_,by omega⟩
   rw[hch,hdr,bV,h]
  ·obtain⟨k,hk,hkl,hk1⟩ : ∃ k:Nat,iQ ns[i] rest=(k:Int)∧k≤rest.length∧1≤k:=by
    have h1:¬ iQ ns[i] rest<1:=by simpa using h
    refine⟨(iQ ns[i] rest).toNat,by omega, ?_,by omega⟩
    have:iQ ns[i] rest≤rest.length:=by unfold iQ; split <;> omega
    omega
   have hstep:bV (ns.drop i) acc rest=bV (ns.drop (i + 1)) (acc++df (rest.take k)) (rest.drop k):=by
    rw[hdr,bV,h,hk,Int.toNat_natCast]
   have htl:(rest.take k).length=k:=by simp; omega
   have hcb:df (rest.take k)=eD k++[13,10]++rest.take k++[13,10]:=by unfold df; rw[htl]
   have hxl:(eD k).length≤20:=rW _ _ _
   rw[hk]
   obtain⟨t39,e39,h39,hsub39⟩ : ∃ v',dD 1 rv none (some (N .i64 (k:Int))) none=some v'∧Bs M4 v' (rest.take k)∧(∀ x∈aP v',x∈aP rv):=by
    have:=hr.sub (Dt 0) (jX _ k .i64) (Nat.zero_le _) hkl (K:=fun v'=>Bs M4 v' (rest.take k)∧(∀ x∈aP v',x∈aP rv)) (fun v' h1 h2=>⟨by simpa using h1,h2⟩)
    obtain⟨v',h1,h2⟩:=this
    exact⟨v',h1,h2.1,h2.2⟩
   obtain⟨t46,e46,h46,Qf⟩ : ∃ v',dD 1 rv (some (N .i64 (k:Int))) none none=some v'∧Bs M4 v' (rest.drop k)∧(∀ x∈aP v',x∈aP rv):=by
    have:=hr.sub (jX 0 k .i64) (Dt _) hkl (Nat.le_refl _) (K:=fun v'=>Bs M4 v' (rest.drop k)∧(∀ x∈aP v',x∈aP rv)) (fun v' h1 h2=>⟨by rw[List.take_of_length_le (by simp)] at h1; exact h1,h2⟩)
    obtain⟨v',h1,h2⟩:=this
    exact⟨v',h1,h2.1,h2.2⟩
   -- put together
   have fin:∀ (M5:RM) (t36 t41:AV),ae [] M4 M5→Bs M5 t36 (eD k++[13,10])→Bs M5 t41 [13,10] →
     (dE TB 4 [(.sc (.slice none 0 0))] [(0,1,av),(1,1,t36),(2,1,t39),(3,1,t41)] fun Td SK=>uW Td SK M5 fun t42 ME b_19=>cc [t42] ME fun t43 J7=>bH (dD 1 rv (some (N .i64 (k:Int))) none none) fun t46=>af .add (N .i64 (i:Int)) (N .i64 1) fun t47=>next [(ax [t43,t46] 0),(ax [t43,t46] 1),t47] J7):=by
    intro M5 t36 t41 k5 h36 h41
    have a5:=oa.keep k5 (by simp)
    have b5:=h39.keep k5 (by simp)
    rw[Q4 (z:=.sc (.slice none 0 0)) (zs:=[]) (Own.cells a5) (aF.cells h36.sl) (aF.cells b5.sl) (aF.cells h41.sl) (Own.one a5) (aF.one h36.sl) (aF.one b5.sl) (aF.one h41.sl)]
    simp only[DJ]
    have k6:ae [] M5 (M5.push (.row [av,t36,t39,t41] false TB 0)):=(ae.refl _ _).push _
    have n6:(M5.push (.row [av,t36,t39,t41] false TB 0)).heap M5.next=some (.row [av,t36,t39,t41] false TB 0):=by simp[RM.push]
    have l6:M5.next<(M5.push (.row [av,t36,t39,t41] false TB 0)).next:=by simp[RM.push]
    generalize M5.push (.row [av,t36,t39,t41] false TB 0)=M6 at *
    have hfl:([acc,eD k++[13,10],rest.take k,[13,10]] : List Str).flatten=acc++df (rest.take k):=by rw[hcb]; simp
    have hfll:(acc++df (rest.take k)).length≤acc.length + 24 + k:=by
     rw[hcb]; simp only[List.length_append,List.length_cons,List.length_nil,htl]; omega
    have TV:0<(acc++df (rest.take k)).length:=by
     rw[hcb]; simp only[List.length_append,List.length_cons,List.length_nil]; omega
    refine hc (vs:=[av,t36,t39,t41]) (xss:=[acc,eD k++[13,10],rest.take k,[13,10]]) n6 l6 rfl (by simp) (fun j v x hv hx=>?_) (by rw[hfl]; exact TV) (by
      rw[hfl]
      have:i * 30≤1001 * 30:=Nat.mul_le_mul_right _ (by omega)
      omega) fun r M7 o7 k7=>?_
    ·rcases j with _ | _ | _ | _ | j
     ·cases hv; cases hx; exact aF.keep (Own.kY a5) k6 (by simp)
     ·cases hv; cases hx; exact aF.keep h36.sl k6 (by simp)
     ·cases hv; cases hx; exact aF.keep b5.sl k6 (by simp)
     ·cases hv; cases hx; exact aF.keep h41.sl k6 (by simp)
     ·cases hv
    rw[hfl] at o7
    have k47:=k5.trans (k6.trans k7)
    rw[e46,eP]
    simp only[bB,cO]
    rw[add1 (by omega)]
    refine hnext _ _ _ (by omega) ⟨i + 1,r,t46,acc++df (rest.take k),rest.drop k,rfl,rfl,by omega,k4.trans k47,Own.mono o7 (Nat.le_trans (k14.trans k5).next k6.next),h46.keep k47 (by simp),fun x hx=>hrb x (Qf x hx),by rw[hch,hstep], ?_⟩
    have:(rest.drop k).length=rest.length - k:=by simp
    omega
   refine⟨?_, ?_⟩
   ·rw[e39,eP]
    refine⟨[N .u8 13,N .u8 10],rfl, ?_⟩
    simp only[DJ]
    have k5:ae [] M4 (M4.push (.row [N .u8 13,N .u8 10] false T8 0)):=(ae.refl _ _).push _
    have n5:(M4.push (.row [N .u8 13,N .u8 10] false T8 0)).heap M4.next=some (.row [N .u8 13,N .u8 10] false T8 0):=by simp[RM.push]
    have l5:M4.next<(M4.push (.row [N .u8 13,N .u8 10] false T8 0)).next:=by simp[RM.push]
    generalize M4.push (.row [N .u8 13,N .u8 10] false T8 0)=M5 at *
    refine hf ((k34.trans k5).base.trans hB) (by omega) fun M6 k6=>?_
    have n6:=k6.aO n5 l5 (by simp)
    have l6:=Nat.lt_of_lt_of_le l5 k6.next
    rw[eP]
    refine⟨rfl,[N .u8 13,N .u8 10],rfl,⟨n6,rfl⟩, ?_⟩
    rw[bN]
    refine⟨by simp; omega, ?_⟩
    rw[iB]
    have b7:=Bs.new M6 T8 (eD k++[13,10])
    have k7:ae [] M6 (M6.push (.row (BY.row (eD k++[13,10])) true T8 0)):=(ae.refl _ _).push _
    have n7:=k7.aO n6 l6 (by simp)
    have m7:(M6.push (.row (BY.row (eD k++[13,10])) true T8 0)).heap M6.next=some (.row (BY.row (eD k++[13,10])) true T8 0):=by simp[RM.push]
    have l7:M4.next<(M6.push (.row (BY.row (eD k++[13,10])) true T8 0)).next:=by simp[RM.push]; omega
    have l7' : M6.next<(M6.push (.row (BY.row (eD k++[13,10])) true T8 0)).next:=by simp[RM.push]
    generalize hM7:M6.push (.row (BY.row (eD k++[13,10])) true T8 0)=M7 at *
    refine⟨M4.next,0,2,2,[N .u8 13,N .u8 10],T8,rfl,n7, ?_⟩
    have k47:ae [] M4 M7:=k5.trans (k6.trans k7)
    have k8:ae [] M4 (M7.put M4.next (.row [N .u8 13,N .u8 10] false T8 (([N .u8 13,N .u8 10] : List AV).length + 1))):=k47.new _ (Nat.le_refl _)
    have m8:(M7.put M4.next (.row [N .u8 13,N .u8 10] false T8 (([N .u8 13,N .u8 10] : List AV).length + 1))).heap M6.next=some (.row (BY.row (eD k++[13,10])) true T8 0):=tL m7 (by omega)
    dsimp only
    rw[iB]
    refine⟨⟨m8,rfl⟩, ?_⟩
    rw[eP]
    refine⟨rfl, ?_⟩
    refine fin _ _ _ k8 ⟨?_,rfl⟩ ⟨?_,Nat.le_refl _⟩
    ·exact aF.slc _ _ _ _ _ (by rw[FI]; exact l7') (by rw[RM.gU m8 (by rw[Enc.fH]; simp[BY]),List.drop_zero,List.take_of_length_le (by rw[Enc.fH]; simp[BY])])
    ·refine aF.slc _ _ _ _ _ (by rw[FI]; exact l7) ?_
     rw[RM.gU (aN _) (by decide)]
     rfl
   ·refine⟨[N .u8 13,N .u8 10],rfl, ?_⟩
    simp only[DJ]
    rw[e39,eP]
    refine⟨M4.next,0,2,2,[N .u8 13,N .u8 10],T8,rfl,by simp[RM.push], ?_⟩
    have k5:ae [] M4 ((M4.push (.row [N .u8 13,N .u8 10] false T8 0)).put M4.next (.row [N .u8 13,N .u8 10] false T8 (([N .u8 13,N .u8 10] : List AV).length + 1))):=((ae.refl _ _).push _).new _ (Nat.le_refl _)
    have b5:Bs ((M4.push (.row [N .u8 13,N .u8 10] false T8 0)).put M4.next (.row [N .u8 13,N .u8 10] false T8 (([N .u8 13,N .u8 10] : List AV).length + 1))) (.slc M4.next 0 2 (.ex 2)) [13,10]:=⟨by
     refine aF.slc _ _ _ _ _ (by simp[RM.push,RM.put]) ?_
     rw[RM.gU (aN _) (by decide)]
     rfl,Nat.le_refl _⟩
    dsimp only
    rw[eP]
    refine⟨rfl, ?_⟩
    refine hf ((k34.trans k5).base.trans hB) (by omega) fun M6 k6=>?_
    rw[eP]
    refine⟨rfl, ?_⟩
    rw[bN]
    refine⟨by simp; omega, ?_⟩
    rw[iB]
    have k7:ae [] M6 (M6.push (.row (BY.row (eD k++[13,10])) true T8 0)):=(ae.refl _ _).push _
    exact fin _ _ _ (k5.trans (k6.trans k7)) (Bs.new M6 T8 _) (b5.keep (k6.trans k7) (by simp))
 ·have:i=ns.length:=by simp at h; omega
  subst this
  rw[List.drop_length] at hch
  have hch' : bV ns [] body=(acc,rest):=hch
  rw[hch'] at hQ hE
  have:ns.length * 30≤1001 * 30:=Nat.mul_le_mul_right _ hnl
  refine IU oa k14.next (by simp; omega) fun v5 M5 o5 k5=>?_
  have k15:ae [] M1 M5:=ae.own k14 k5 (fun x hx=>(Own.blk oa x hx).1)
  have k05:ae [] M M5:=k01.trans k15
  rw[ld k15 0 (St m) rfl,bN]
  refine⟨by simp; omega, ?_⟩
  rw[ld k15 1 (St p) rfl,bN]
  refine⟨by simp; omega, ?_⟩
  rw[bN]
  refine⟨by simp; omega, ?_⟩
  rw[bN]
  refine⟨by simp; omega, ?_⟩
  rw[ld k15 2 hv rfl,jl]
  refine⟨_,Bi rfl rfl rfl rfl, ?_⟩
  rw[ld k15 3 bv rfl,hb.len]
  have hl5:(acc++lh).length≤100000000 - 2048:=by simp; omega
  refine hp (more:=(yE,rU)) (body:=acc++lh) (sz:=body.length) (k05.base.trans hB) (aF.keep hh k05 (by simp)) hll hle (by simp; omega) (by simp) (by simp) (Own.kY o5) (by omega) (fun s v' M6 e6 hl6 k6 o6=>?_) (fun e' M6 e6 he k6=>?_)
  ·simp only[aY,aZ]
   exact hQ s v' M6 e6 (by omega) (k05.trans k6) (Own.mono o6 k05.next)
  ·simp only[aY,aZ]
   exact hE e' M6 e6 he (k05.trans k6)
end Go.Ab.Hw
set_option maxRecDepth 20000
namespace Go.Ab.Hw
open Go Go.Ab Go.Ab.Sm
open Go.Ab.Vl (qy)
theorem ko {f:(List AV→RM→Prop)→Prop} {g:List AV→RM→Prop} (x:List AV) (N:RM) (hf:∀ J:List AV→RM→Prop,J x N→f J) (hg:g x N) : dN f g:=hf g hg
def vZ (n:Nat) : Int:=Sa .u8 (n:Int) 32
def Gz (c:ai) : Prop:=∀ {M:RM} {x:UInt8} {Q:ah},Q (N .u8 (vZ x.toNat)) M→c [By x] M Q
theorem Kt:Gz fun args M Q=>∃ a0,args=[a0]∧gZ a0 M Q:=by
 intro M x Q hQ
 refine⟨_,rfl, ?_⟩
 unfold gZ
 rw[OH]
 exact hQ
def Kn (n:Nat) : Bool:=!(jE (bU (UInt8.ofNat n)) && !dM (UInt8.ofNat n)) || (decide (97≤vZ n) && decide (vZ n≤122) && decide (vZ n - 97 + 10=(jP (UInt8.ofNat n) : Int)) && !decide (n=95))
theorem Mf:(List.range 256).all Kn=true:=by decide +kernel
theorem Nr (x:UInt8) : Kn x.toNat=true:=List.all_eq_true.1 Mf x.toNat (List.mem_range.2 x.toNat_lt)
theorem Ii {x:UInt8} (h:jE (bU x)=true) (hd:dM x=false) : 97≤vZ x.toNat∧vZ x.toNat≤122∧vZ x.toNat - 97 + 10=(jP x:Int)∧x.toNat≠95:=by
 have:=Nr x
 unfold Kn at this
 rw[UInt8.ofNat_toNat,h,hd] at this
 simp only[Bool.not_false,Bool.and_self,Bool.not_true,Bool.false_or,Bool.and_eq_true,decide_eq_true_eq,Bool.not_eq_true',decide_eq_false_iff_not] at this
 exact⟨this.1.1.1,this.1.1.2,this.1.2,this.2⟩
theorem Ml {s:Str} {i:Nat} (hi:i<s.length) : iX (s.take (i + 1))=iX (s.take i) * 16 + jP s[i]:=by
 unfold iX
 rw[List.take_succ_eq_append_getElem hi,List.foldl_append]
 rfl
theorem A9 {n:Int} (h0:0≤n) (h1:n<18446744073709551616) : IntKind.wrap .u64 n=n:=by
 simp only[IntKind.wrap,show(2:Int) ^ IntKind.u64.bits=18446744073709551616 from by decide]
 simp[IntKind.signed]
 omega
theorem Ck {TE T8:Nat} {cl cu:ai} (hl:Gz cl) : CP fun args M Q=>∃ a0 a1 a2,args=[a0,a1,a2]∧fI TE cl T8 cu a0 a1 a2 M Q:=by
 intro M s Q h1 h8 hx hQ
 refine⟨_,_,_,rfl, ?_⟩
 unfold fI
 have hne:(s == [])=false:=by cases s with | nil=>simp at h1 | cons a b=>rfl
 rw[dS,hne,bg,bI,show((16:Int) == 0)=false from rfl]
 refine ko (x:=[St s,N .i64 16]) (N:=M) (fun J hJ=>?_) ?_
 ·rw[rG,show decide ((2:Int)≤16)=true from rfl]
  simp only[cK,rG]
  rw[show decide ((16:Int)≤36)=true from rfl]
  simp only[bY,bF]
  exact hJ
 simp only[bB,cO]
 refine ko (x:=[N .i64 64]) (N:=M) (fun J hJ=>?_) ?_
 ·rw[bI,show((64:Int) == 0)=false from rfl,bg,iI,show decide ((64:Int)<0)=false from rfl]
  simp only[bR,dI]
  rw[show decide ((64:Int) > 64)=false from rfl]
  simp only[dF,bg]
  exact hJ
 simp only[bB,cO]
 refine ko (x:=[N .u64 1152921504606846976]) (N:=M) (fun J hJ=>?_) ?_
 ·rw[bI,show((16:Int) == 10)=false from rfl,bg,bI,show((16:Int) == 16)=true from rfl,bF]
  exact hJ
 simp only[bB,cO]
 rw[lS,O1]
 refine⟨by decide, ?_⟩
 rw[ku,iB]
 simp only[aT,kC]
 have hmax:IntKind.wrap .u64 (QI .u64 1 (IntKind.wrap .u64 64) - 1)=18446744073709551615:=by decide +kernel
 rw[hmax]
 have hk1:ae [] M (M.push (.row (BY.row s) true T8 0)):=(ae.refl _ _).push _
 have hr1:Rw BY (M.push (.row (BY.row s) true T8 0)) M.next true T8 s:=Rw.new M s
 generalize M.push (.row (BY.row s) true T8 0)=M1 at *
 refine eG (fun m ys M3=>∃ i:Nat,m=s.length - i∧ys=[Bo false,N .u64 (iX (s.take i) : Int),N .i64 (i:Int)]∧i≤s.length∧M3=M1) _ ⟨0,rfl,rfl,Nat.zero_le _,rfl⟩ ?_
 rintro next m ys M3 hnext ⟨i,rfl,rfl,hi,rfl⟩
 simp only[bB,cO,Au]
 refine dQ (fun h=>?_) fun h=>?_
 ·have hlt:i<s.length:=by simpa using h
  have hc:=hr1.aj hlt
  have cb:=Cj s[i]
  have hmem:jE (bU s[i])=true:=by
   unfold low at hx
   rw[List.all_map] at hx
   exact List.all_eq_true.1 hx s[i] (List.getElem_mem hlt)
  have hdv:=I1 hmem
  have hall:(low (s.take i)).all jE=true:=by
   rw[List.all_eq_true]
   intro y hy
   unfold low at hy
   rw[List.mem_map] at hy
   obtain⟨z,hz,rfl⟩:=hy
   unfold low at hx
   rw[List.all_map] at hx
   exact List.all_eq_true.1 hx z (List.mem_of_mem_take hz)
  have hlt2:=Ir hall (by simp; omega)
  have ht:=Ml hlt
  refine ko (x:=[Bo false,N .u64 (iX (s.take (i + 1)) : Int)]) (N:=M3) (fun J hJ=>?_) ?_
  rotate_left
  ·simp only[bB,cO]
   rw[add1 (by omega)]
   exact hnext _ _ _ (by omega) ⟨i + 1,rfl,rfl,by omega,rfl⟩
  rw[rH]
  refine⟨by omega,by omega, ?_⟩
  rw[dU]
  refine⟨By s[i],by simpa using hc, ?_⟩
  refine ko (x:=[Bo false,N .u8 (jP s[i] : Int)]) (N:=M3) (fun J2 hJ2=>?_) ?_
  rotate_left
  ·simp only[bB,cO]
   rw[lS,show IntKind.wrap .u8 16=16 by decide,dJ,show decide ((jP s[i] : Int) ≥ 16)=false by simp; omega,bg,dJ,show decide ((iX (s.take i) : Int) ≥ 1152921504606846976)=false by simp; omega,bg,lS,show IntKind.wrap .u64 16=16 by decide,
    MF,A9 (by omega) (by omega),lS,A9 (by omega) (by omega),vH,A9 (by omega) (by omega),iI,show decide ((iX (s.take i) : Int) * 16 + (jP s[i] : Int)<(iX (s.take i) : Int) * 16)=false from decide_eq_false (by omega)]
   simp only[bR,dI]
   rw[show decide ((iX (s.take i) : Int) * 16 + (jP s[i] : Int) > 18446744073709551615)=false by simp; omega]
   simp only[dF,bg]
   have e:((iX (s.take (i + 1)) : Nat) : Int)=(iX (s.take i) : Int) * 16 + (jP s[i] : Int):=by rw[ht]; omega
   rw[e] at hJ
   exact hJ
  rw[bI]
  have h95:((s[i].toNat:Int) == 95)=false:=by
   cases hd:dM s[i] with
   | true =>
     unfold dM at hd
     simp only[Bool.and_eq_true,decide_eq_true_eq] at hd
     simp; omega
   | false =>
     have:=(Ii hmem hd).2.2.2
     simp; omega
  rw[h95]
  simp only[jq,dF,bg,dx,bB,rG]
  cases hd:dM s[i] with
  | true =>
    have hd':=hd
    unfold dM at hd'
    simp only[Bool.and_eq_true,decide_eq_true_eq] at hd'
    rw[show decide ((48:Int)≤(s[i].toNat:Int))=true by simp; omega]
    simp only[cK]
    rw[show decide ((s[i].toNat:Int)≤57)=true by simp; omega]
    simp only[bY,bF]
    rw[ku,jB (by omega) (by omega)]
    have hv:(s[i].toNat:Int) - 48=(jP s[i] : Int):=by unfold jP; rw[if_pos (by omega)]; omega
    rw[hv]
    exact hJ2
  | false =>
    obtain⟨q1,q2,q3,_⟩:=Ii hmem hd
    have hno:(decide ((48:Int)≤(s[i].toNat:Int)) && decide ((s[i].toNat:Int)≤57))=false:=by
     rw[← hd]; unfold dM; rfl
    refine oH (p:=decide ((s[i].toNat:Int)≤57)) (fun _ k hk=>hk) ?_
    rw[hno,bg]
    refine hl ?_
    rw[rG,show decide ((97:Int)≤vZ s[i].toNat)=true by simpa using q1]
    simp only[cK]
    refine hl ?_
    rw[rG,show decide (vZ s[i].toNat≤(122:Int))=true by simpa using q2]
    simp only[bY,bF]
    refine hl ?_
    rw[ku,jB (by omega) (by omega),vH,jB (by omega) (by omega),q3]
    exact hJ2
 ·have:i=s.length:=by simp at h; omega
  subst this
  simp only[jq,dF,bg]
  rw[List.take_length]
  exact hQ _ hk1
theorem CV {cp ct:ai} (hp:CP cp) : CP fun args M Q=>∃ a0 a1 a2,args=[a0,a1,a2]∧jM cp ct a0 a1 a2 M Q:=by
 intro M s Q h1 h8 hx hQ
 refine⟨_,_,_,rfl, ?_⟩
 unfold jM
 refine hp h1 h8 hx fun M1 k1=>?_
 simp only[aY,aZ]
 refine .inr ⟨rfl,rfl, ?_⟩
 dsimp only
 rw[show(!true)=false from rfl,bg]
 exact hQ M1 k1
def eX (n:Nat) : UInt8:=if n<10 then UInt8.ofNat (48 + n) else UInt8.ofNat (87 + n)
theorem qh {base f n:Nat} (h:n<base) : lH base (f + 1) n=[eX n]:=by
 rw[lH,Cb h]; rfl
theorem vO {base f n:Nat} (h:¬ n<base) : lH base (f + 1) n=lH base f (n / base)++[eX (n % base)]:=by
 rw[lH,iD h]; rfl
abbrev Ar:Str:=[48,49,50,51,52,53,54,55,56,57,97,98,99,100,101,102,103,104,105,106,107,108,109,110,111,112,113,114,115,116,117,118,119,120,121,122]
theorem NL:∀ m:Fin 16,Ar[m.val]?=some (eX m.val):=by decide
theorem Ig {n:Nat} (h:n<16) {K:AV→Prop} : dZ (St Ar) (N .u64 (n:Int)) K=K (By (eX n)):=by
 have hl:n<Ar.length:=Nat.lt_of_lt_of_le h (by decide)
 rw[qy hl]
 have:=NL ⟨n,h⟩
 rw[List.getElem?_eq_getElem hl] at this
 rw[Option.some.inj this]
def Sg (B:Base) (c:ai) : Prop:=∀ {M:RM} {Q:ah},M.base=B→Q (N .i64 4) M→c [N .u64 16] M Q
def Jm (c:ai) : Prop:=∀ {M:RM} {Q:ah},Q (Bo true) M→c [N .i64 16] M Q
theorem MX:Jm fun args M Q=>∃ a0,args=[a0]∧eU a0 M Q:=by
 intro M Q hQ
 refine⟨_,rfl, ?_⟩
 unfold eU
 rw[ku,F7,show JZ .i64 16 (IntKind.wrap .i64 (16 - 1))=0 by decide +kernel,bI,show((0:Int) == 0)=true from rfl]
 exact hQ
def JP (B:Base) (c:ai) : Prop:=∀ {M:RM} {n:Nat} {Q:ah},M.base=B→n<4294967296→(∀ M',ae [] M M'→Q (.tup [aJ,St (eD n)]) M')→c [aJ,N .u64 (n:Int),N .i64 16,Bo false,Bo false] M Q
theorem KW {B:Base} {TA n:Nat} {cp ct:ai} (hp:Jm cp) (ht:Sg B ct) {M M0:RM} {zs:List AV} (hB:M.base=B) (hn:n<4294967296) (hzl:zs.length=65) (k0:ae [] M M0) (n0:M0.heap M.next=some (.row zs false TA 0)) (l0:M.next<M0.next) :
  ∀ J13:List AV→RM→Prop,(∀ (i:Nat) (M3:RM) (X:List AV),M3.heap M.next=some (.row (X++BY.row (eD n)) false TA 0)→X.length=i→i + (eD n).length=65→ae [] M M3→M.next<M3.next→J13 [N .i64 (i:Int)] M3) →
    dN (fun J13=>cp [N .i64 16] M0 fun t34 Qm=>au t34 ( il .u64 (N .i64 16) fun t36=>ct [t36] Qm fun t37 Tj=>il .u64 t37 fun t38=>il .u64 (N .i64 16) fun t40=>il .u64 (N .i64 16) fun t42=>af .sub t42 (N .u64 1) fun t43=>gu (fun next yP QP=>af .geq (ax yP 0) t40 fun t46=>au t46 ( af .sub (ax yP 1) (N .i64 1) fun t48=>af .and (ax yP 0) t43 fun t52=>dZ (St Ar) t52 fun t53=>mV (.ptr M.next 0) t48 65 1 fun t54=>aH QP t54 t53 1 fun ME=>zU .shr (ax yP 0) t38 fun t57=>next [t57,t48] ME) ( af .sub (ax yP 1) (N .i64 1) fun t59=>dZ (St Ar) (ax yP 0) fun t62=>mV (.ptr M.next 0) t59 65 1 fun t63=>aH QP t63 t62 1 fun TM=>J13 [t59] TM)) [N .u64 (n:Int),(N .i64 65)] Tj) ( il .u64 (N .i64 16) fun t65=>gu (fun OI yU PE=>af .geq (ax yU 0) t65 fun t68=>au t68 ( af .sub (ax yU 1) (N .i64 1) fun t70=>af .quo (ax yU 0) t65 fun t73=>af .mul t73 t65 fun t78=>af .sub (ax yU 0) t78 fun t79=>dZ (St Ar) t79 fun t80=>mV (.ptr M.next 0) t70 65 1 fun t81=>aH PE t81 t80 1 fun Nq=>OI [t73,t70] Nq) ( af .sub (ax yU 1) (N .i64 1) fun t84=>dZ (St Ar) (ax yU 0) fun t87=>mV (.ptr M.next 0) t84 65 1 fun t88=>aH PE t88 t87 1 fun Te=>J13 [t84] Te)) [N .u64 (n:Int),(N .i64 65)] Qm)) J13:=by
 intro J13 hJ
 refine(show ∀ (f:(List AV→RM→Prop)→Prop) (g:List AV→RM→Prop),f g→dN f g from fun _ _ h=>h) _ _ ?_
 refine hp ?_
 rw[bF,lS,show IntKind.wrap .u64 16=16 by decide]
 refine ht (k0.base.trans hB) ?_
 rw[lS,show IntKind.wrap .u64 4=4 by decide,lS,show IntKind.wrap .u64 16=16 by decide,lS,show IntKind.wrap .u64 16=16 by decide,ku,show IntKind.wrap .u64 (16 - 1)=15 by decide]
 refine eG (fun m ys M3=>∃ (u f:Nat) (X:List AV) (ds:Str),u=m∧ys=[N .u64 (u:Int),N .i64 (X.length:Int)]∧X.length + ds.length=65∧f + ds.length=20∧1≤f∧u<16 ^ f∧u<4294967296∧eD n=lH 16 f u++ds∧M3.heap M.next=some (.row (X++BY.row ds) false TA 0)∧ae [] M M3∧M.next<M3.next) _
  ⟨n,20,zs,[],rfl,by rw[hzl]; rfl,by rw[hzl]; rfl,rfl,by decide,Nat.lt_of_lt_of_le hn (by decide),hn,by unfold eD; rw[List.append_nil],by rw[Enc.O9,List.append_nil]; exact n0,k0,l0⟩ ?_
 rintro next m ys M3 hnext ⟨u,f,X,ds,rfl,rfl,hXl,hf,hf1,huf,hu,PM,hrow,k3,l3⟩
 simp only[bB,cO]
 have hXp:1≤X.length:=by omega
 obtain⟨Y,y,rfl⟩ : ∃ Y y,X=Y++[y]:=⟨X.dropLast,X.getLast (by intro e; rw[e] at hXp; simp at hXp),(List.dropLast_concat_getLast _).symm⟩
 simp only[List.length_append,List.length_cons,List.length_nil,Nat.zero_add] at hXl
 have hsub:∀ K:AV→Prop,af .sub (N .i64 (((Y++[y]).length:Nat) : Int)) (N .i64 1) K=K (N .i64 (Y.length:Int)):=fun K=>by
  rw[show(N .i64 1)=N .i64 ((1:Nat) : Int) from rfl,I7 (by simp) (by simp; omega)]
  simp
 have hidx:∀ K:AV→Prop,mV (.ptr M.next 0) (N .i64 (Y.length:Int)) 65 1 K=K (.ptr M.next Y.length):=fun K=>by
  rw[Nb]
  simp only[Int.toNat_natCast,Nat.mul_one,Nat.zero_add]
  exact propext ⟨fun h=>h.2.2,fun h=>⟨by omega,by omega,h⟩⟩
 have hset:∀ d:UInt8,((Y++[y])++BY.row ds).set Y.length (By d)=Y++BY.row (d :: ds):=fun d=>by
  rw[List.append_assoc,List.set_append_right _ _ (Nat.le_refl _),Nat.sub_self]
  rfl
 have hput:∀ (d:UInt8) (K:RM→Prop),aH M3 (.ptr M.next Y.length) (By d) 1 K=K (M3.put M.next (.row (Y++BY.row (d :: ds)) false TA 0)):=fun d K =>
  fT _ hrow (by simp) rfl rfl (hset d)
 have QJ:∀ d:UInt8,ae [] M (M3.put M.next (.row (Y++BY.row (d :: ds)) false TA 0)):=fun d=>k3.new _ (Nat.le_refl _)
 rw[dJ]
 refine dQ (fun h=>?_) fun h=>?_
 ·have h16:¬ u<16:=by simp at h; omega
  obtain⟨g,rfl⟩ : ∃ g,f=g + 1:=⟨f - 1,by omega⟩
  have hg1:1≤g:=by
   rcases Nat.eq_zero_or_pos g with e | e
   ·subst e; simp at huf; omega
   ·exact e
  rw[hsub,F7,show(15:Int)=((15:Nat) : Int) from rfl,Nl rfl]
  have hand:(u &&& 15) % 2 ^ BR .u64=u % 16:=by
   rw[show(15:Nat)=2 ^ 4 - 1 from rfl,Nat.and_two_pow_sub_one_eq_mod]
   exact Nat.mod_eq_of_lt (Nat.lt_of_lt_of_le (Nat.mod_lt _ (by decide)) (by decide))
  rw[hand,Ig (Nat.mod_lt _ (by decide)),hidx,hput,OP]
  refine⟨by decide, ?_⟩
  have T9:MB .u64 (u:Int) 4=((u / 16:Nat) : Int):=by
   unfold MB
   rw[show(2:Int) ^ min (Int.toNat 4) IntKind.u64.bits=16 by decide,Int.fdiv_eq_ediv_of_nonneg _ (by decide)]
   omega
  rw[T9]
  refine hnext (u / 16) _ _ (by omega) ⟨u / 16,g,Y,eX (u % 16) :: ds,rfl,rfl,by simp; omega,by simp; omega,hg1, ?_,by omega, ?_,aN _,QJ _,l3⟩
  ·rw[Nat.pow_succ] at huf
   exact Nat.div_lt_of_lt_mul (by rw[Nat.mul_comm]; exact huf)
  ·rw[PM,vO h16]; simp
 ·have h16:u<16:=by simp at h; omega
  obtain⟨g,rfl⟩ : ∃ g,f=g + 1:=⟨f - 1,by omega⟩
  rw[hsub,Ig h16,hidx,hput]
  have hd:eD n=eX u :: ds:=by rw[PM,qh h16]; rfl
  refine hJ Y.length _ Y ?_ rfl (by rw[hd]; simp; omega) (QJ _) l3
  rw[hd]; exact aN _
theorem Mg {B:Base} {TS TA T8:Nat} {cp ct:ai} (hp:Jm cp) (ht:Sg B ct) : JP B fun args M Q=>∃ a0 a1 a2 a3 a4,args=[a0,a1,a2,a3,a4]∧fw TS TA cp ct T8 a0 a1 a2 a3 a4 M Q:=by
 intro M n Q hB hn hQ
 refine⟨_,_,_,_,_,rfl, ?_⟩
 unfold fw
 refine ko [] M (fun J hJ=>?_) ?_
 ·rw[iI,show decide ((16:Int)<2)=false from rfl]
  simp only[bR,bI]
  rw[show((16:Int) == 10)=false from rfl]
  simp only[dF,bR,dI]
  rw[show decide ((16:Int) > 36)=false from rfl]
  simp only[dF,bg]
  exact hJ
 simp only[aT]
 generalize hz:([(N .u8 0),(N .u8 0),(N .u8 0),(N .u8 0),(N .u8 0),(N .u8 0),(N .u8 0),(N .u8 0),(N .u8 0),(N .u8 0),(N .u8 0),(N .u8 0),(N .u8 0),(N .u8 0),(N .u8 0),(N .u8 0),(N .u8 0),(N .u8 0),(N .u8 0),(N .u8 0),(N .u8 0),(N .u8 0),(N .u8 0),(N .u8 0),(N .u8 0),(N .u8 0),(N .u8 0),(N .u8 0),(N .u8 0),(N .u8 0),(N .u8 0),(N .u8 0),(N .u8 0),(N .u8 0),(N .u8 0),(N .u8 0),(N .u8 0),(N .u8 0),(N .u8 0),(N .u8 0),(N .u8 0),(N .u8 0),(N .u8 0),(N .u8 0),(N .u8 0),(N .u8 0),(N .u8 0),(N .u8 0),(N .u8 0),(N .u8 0),(N .u8 0),(N .u8 0),(N .u8 0),(N .u8 0),(N .u8 0),(N .u8 0),(N .u8 0),(N .u8 0),(N .u8 0),(N .u8 0),(N .u8 0),(N .u8 0),(N .u8 0),(N .u8 0),(N .u8 0)] : List AV)=zs
 have hzl:zs.length=65:=by rw[← hz]; rfl
 have k0:ae [] M (M.push (.row zs false TA 0)):=(ae.refl _ _).push _
 have n0:(M.push (.row zs false TA 0)).heap M.next=some (.row zs false TA 0):=by simp[RM.push]
 have l0:M.next<(M.push (.row zs false TA 0)).next:=by simp[RM.push]
 generalize M.push (.row zs false TA 0)=M0 at *
 refine ko [N .u64 (n:Int)] M0 (fun J hJ=>?_) ?_
 ·rw[bg]; exact hJ
 simp only[bB]
 -- the digits
 refine KW hp ht hB hn hzl k0 n0 l0 _ ?_
 intro i M3 X hrow hX hil k3 l3
 simp only[bB]
 refine ko [N .i64 (i:Int)] M3 (fun J hJ=>?_) ?_
 ·rw[bg]; exact hJ
 simp only[bB]
 have hpos:0<(eD n).length:=by
  unfold eD
  rw[lH]
  split <;> simp
 have hsub:qM 65 1 (.ptr M.next 0) (some (N .i64 (i:Int))) none=some (.slc M.next i (65 - i) (.ex (65 - i))):=by
  have e1:bnd 0 (some (N .i64 (i:Int)))=some i:=jX _ _ _
  have e2:bnd 65 none=some 65:=rfl
  simp only[qM,e1,e2]
  rw[if_pos ⟨(by omega:i≤65),Nat.le_refl _⟩,if_neg (by omega),Nat.zero_add,Nat.mul_one]
 rw[bg,hsub,eP]
 have hs:Sl BY M3 (.slc M.next i (65 - i) (.ex (65 - i))) (eD n):=by
  have e:65 - i=(eD n).length:=by omega
  unfold Sl
  rw[e]
  refine aF.slc _ _ _ _ _ ?_ ?_
  ·exact l3
  ·rw[RM.gU hrow (by rw[List.length_append,kG,hX]; simp[BY])]
   rw[List.drop_left' hX,List.take_of_length_le (by rw[kG]; simp[BY])]
 rw[hs.str]
 exact hQ M3 k3
end Go.Ab.Hw
namespace Go.Ab.Hw
open Go Go.Ab Go.Ab.Sm
theorem Lm {B:Base} {TA:Nat} {c1 c2 c3 cb:ai} (hb:JP B cb) : CU B fun args M Q=>∃ a0 a1,args=[a0,a1]∧fE c1 TA c2 c3 cb a0 a1 M Q:=by
 intro M n Q hB hn hQ
 refine⟨_,_,rfl, ?_⟩
 unfold fE
 rw[bI,show((16:Int) == 10)=false from rfl,bg,lS,A9 (by omega) (by omega),iI,show decide ((n:Int)<0)=false by simp]
 refine hb hB hn fun M1 k1=>?_
 simp only[aY,aZ]
 exact hQ M1 k1
theorem NF {B:Base} {cf:ai} (hf:CU B cf) : CU B fun args M Q=>∃ a0 a1,args=[a0,a1]∧nO cf a0 a1 M Q:=by
 intro M n Q hB hn hQ
 exact⟨_,_,rfl,hf hB hn hQ⟩
end Go.Ab.Hw
set_option maxRecDepth 100000
namespace Go.Ab.Dk
open Go Go.Ab
end Go.Ab.Dk
namespace Go.Ab.Crw
open Go Go.Ab
end Go.Ab.Crw
namespace Go.Ab
open Go Go.RowKit
section
variable {P:Program} {ρ:Ren} {M:RM} {w w' : World}
theorem KP {base:Base} {A:AW} (hw0:bE P base ρ A w) (hbl:Below w.heap.size w w') (hbase:base≤w.heap.size) {x:fZ} {ob:Obj} {i:ed} (hge:w.heap.size≤i.cb) (hob:w'.heap[i.cb]?=some ob)
  (hrel:gG P (ρ.add A.next i) i x ob) : bE P base (ρ.add A.next i) (A.push x) w'∧Step base A.next ρ w (ρ.add A.next i) w':=by
 have hb:ρ A.next=none:=hw0.fresh (Nat.le_refl _)
 have hw:=ul hw0 x
 have hx:(A.push x).heap.get A.next=some x:=by simp[AW.push,Tree.aU]
 have hlt:A.next<(A.push x).next:=by simp[AW.push]
 have hle:=Ren.qV (i:=i) hb
 have hadd:∀ c j,ρ.add A.next i c=some j→(c=A.next∧j=i)∨(c≠A.next∧ρ c=some j):=by
  intro c j h
  unfold Ren.add at h
  split at h
  ·cases h; exact .inl ⟨‹_›,rfl⟩
  ·exact .inr ⟨‹_›,h⟩
 have hcb:i.cb<w'.heap.size:=(Array.getElem?_eq_some_iff.1 hob).1
 refine⟨⟨?_, ?_, ?_,hw.top, ?_,base.low w _ (fun c hc=>hbl.block c (by omega)) hw.inv⟩,⟨hbl.os,hbl.tape,hbl.output,hbl.size, ?_, ?_, ?_,fun c hc=>hbl.block c (by omega)⟩⟩
 ·intro c j h
  rcases hadd c j h with⟨rfl,rfl⟩ | ⟨_,h⟩
  ·exact⟨hlt,hcb⟩
  ·have:=hw.dom c j h; have:=hbl.size; omega
 ·intro c j y h hy
  rcases hadd c j h with⟨rfl,rfl⟩ | ⟨_,h⟩
  ·rw[hx] at hy; cases hy
   exact⟨ob,hob,hrel⟩
  ·obtain⟨o,ho,hr⟩:=hw.blk c j y h hy
   exact⟨o,by rw[hbl.block j.cb (hw.dom c j h).2]; exact ho,hr.mono hle⟩
 ·intro b1 b2 i1 i2 x1 x2 h1 h2 g1 g2 he
  rcases hadd _ _ h1 with⟨e1,f1⟩ | ⟨_,k1⟩ <;> rcases hadd _ _ h2 with⟨e2,f2⟩ | ⟨_,k2⟩
  ·rw[e1,e2]
  ·have:=(hw.dom _ _ k2).2; subst f1; omega
  ·have:=(hw.dom _ _ k1).2; subst f2; omega
  ·exact hw.sep _ _ _ _ _ _ k1 k2 g1 g2 he
 ·intro c j y h hy
  rcases hadd c j h with⟨rfl,rfl⟩ | ⟨_,h⟩
  ·omega
  ·exact hw.lo c j y h hy
 ·intro c hc _; exact hbl.block c hc
 ·intro c hc; unfold Ren.add; rw[if_neg (by omega)]
 ·intro c j h
  rcases hadd c j h with⟨rfl,rfl⟩ | ⟨_,h⟩
  ·exact .inr hge
  ·exact .inl ⟨c,j,h,rfl⟩
theorem dL.Qx {f:FuncId} {args:List AV} {T n:Nat} {cs:List AV} {Q:ah} (hP:CQ P f) (hsz:aL P T=some 1) (h1:cs.all oneCell=true) (hlen:cs.length=n)
  (h:∀ (ρ:Ren) (w:World) (us:List Value),aD ρ args us→bq P ρ M w→Calls P f ⟨us⟩ w fun e w'=>∃ v xs,e=.returned v∧w'.ownsRow w.heap.size T 1 v n xs∧(∀ ρ',aD ρ' cs xs)∧Below w.heap.size w w')
  (hQ:∀ v M',Own M' M.next T 1 v cs n→ae [] M M'→Q v M') : dL P f args M Q:=by
 refine⟨hP,fun ρ w us hargs hw=>(h ρ w us hargs hw).mono fun e w' hR=>?_⟩
 obtain⟨v,xs,rfl,⟨hxl,hrow⟩,hrel,hbl⟩:=hR
 rcases hrow with⟨rfl,h0⟩ | ⟨g,cap,cur,rfl,hge,hg,r1,r2,r3,r4⟩
 ·have:cs=[]:=List.length_eq_zero_iff.1 (by omega)
  subst this
  have hn:n=0:=h0
  subst hn
  exact⟨_,aJ,M,ρ,rfl,After.below hw hbl,.sc _ rfl,hQ _ _ .nil (ae.refl _ _)⟩
 ·obtain⟨A,hA⟩:=hw
  obtain⟨tr,htr⟩:=iF cs .leaf 0 h1
  obtain⟨_,hget⟩:=dK _ _ _ htr
  obtain⟨_,hcell⟩:=uj htr
  have hblk:gG P (ρ.add A.next ⟨g,0,cap,1⟩) ⟨g,0,cap,1⟩ (.row n tr [] true T 0) (.cells cur T (0,0)):=by
   refine⟨cur,(0,0),rfl,⟨by show 0 + n≤_; omega,fun k x hx=>?_,fun k _ _=>by simp,fun h=>(by cases h),fun _=>⟨Nat.one_pos,by show cur.size=0 + cap * 1; omega,hsz⟩,rfl⟩⟩
   obtain⟨hk1,hk2⟩:=jc hx
   rw[hget,if_pos (by omega),Nat.sub_zero] at hk2
   obtain⟨v,hv,hvr⟩:=(hrel (ρ.add A.next ⟨g,0,cap,1⟩)).get hk2
   refine⟨v, ?_,hvr⟩
   show cur[0 + k]?=some v
   rw[Nat.zero_add,← Array.getElem?_toList]
   rw[← r4,Nat.mul_one,List.getElem?_take_of_lt (by omega)] at hv
   exact hv
  obtain⟨q1,q2⟩:=KP hA.rel hbl (Nat.le_trans (show M.base.n≤M.lo from Nat.le_refl _) hA.size) (i:=⟨g,0,cap,1⟩) hge hg hblk
  obtain⟨k1,k2,k3⟩:=RM.uE hA (x:=.row cs true T 0) (y:=.row n tr [] true T 0) ⟨hlen,rfl,rfl,rfl,fun k v hk=>by rw[← hlen]; exact hcell k v hk⟩
  have hnx:=hA.next
  refine⟨_,.slc M.next 0 n (.op 1),M.push (.row cs true T 0),_,rfl,gB hA q2 q1 k1 k2 (by simp[AW.push]) k3, ?_,hQ _ _ (.op M.next n cs (Nat.le_refl _) (by simp[RM.push]) (RM.mo _) (by omega)) ((ae.refl _ _).push _)⟩
  have:=ag.iW (ρ:=ρ.add A.next ⟨g,0,cap,1⟩) M.next 0 n ⟨g,0,cap,1⟩ (by rw[← hnx]; simp[Ren.add]) (by show 0 + n≤cap; omega)
  simpa using this
end
end Go.Ab
set_option maxRecDepth 10000
namespace Go.Ab.Hw
open Go Go.Ab Go.Ab.Sm
end Go.Ab.Hw
namespace Go.Ab.Hw
open Go Go.Ab
end Go.Ab.Hw
namespace Go.Ab.Hw
open Go Go.Ab Go.Ab.Sm
open Go.Ab.Vl (brk)
theorem Bh {p:UInt8→Bool} (h:(List.range 256).all (fun n=>p (UInt8.ofNat n))=true) (x:UInt8) : p x=true:=by
 have:=List.all_eq_true.1 h x.toNat (List.mem_range.2 x.toNat_lt)
 simpa using this
def NS (x:UInt8) : Bool:=!sJ (bU x) || (x != 13 && x != 58 && x != 10 && x != 32)
def PK (x:UInt8) : Bool:=!ru x || (x != 13 && x != 10)
def Lj (x:UInt8) : Bool:=!oN x || (x != 13 && x != 10 && x != 32)
def P9 (x:UInt8) : Bool:=!xE x || (x != 13 && x != 10 && x != 32)
theorem Lu:∀ x,NS x=true:=Bh (by decide +kernel)
theorem MN:∀ x,PK x=true:=Bh (by decide +kernel)
theorem I5:∀ x,Lj x=true:=Bh (by decide +kernel)
theorem Mo:∀ x,P9 x=true:=Bh (by decide +kernel)
theorem GD {s:Str} (h:dP s=true) {x:UInt8} (hx:x∈s) : x≠13∧x≠58∧x≠10∧x≠32:=by
 unfold dP at h
 rw[Bool.and_eq_true] at h
 have h1:=List.all_eq_true.1 h.2 (bU x) (List.mem_map.2 ⟨x,hx,rfl⟩)
 have h2:=Lu x
 unfold NS at h2
 rw[h1] at h2
 simpa [and_assoc] using h2
theorem OU {s:Str} (h:bQ s=true) {x:UInt8} (hx:x∈s) : x≠13∧x≠10:=by
 unfold bQ at h
 rw[Bool.and_eq_true] at h
 have h1:=List.all_eq_true.1 h.2 x hx
 have h2:=MN x
 unfold PK at h2
 rw[h1] at h2
 simpa using h2
theorem Eb {s:Str} (h:fK s=true) {x:UInt8} (hx:x∈s) : x≠13∧x≠10∧x≠32:=by
 unfold fK at h
 rw[Bool.and_eq_true] at h
 have h1:=List.all_eq_true.1 h.2 x hx
 have h2:=I5 x
 unfold Lj at h2
 rw[h1] at h2
 simpa [and_assoc] using h2
theorem Gq {s:Str} (h:ic s=true) {x:UInt8} (hx:x∈s) : x≠13∧x≠10∧x≠32:=by
 unfold ic at h
 rw[Bool.and_eq_true] at h
 have h1:=List.all_eq_true.1 h.2 x hx
 have h2:=Mo x
 unfold P9 at h2
 rw[h1] at h2
 simpa [and_assoc] using h2
theorem OW:∀ m:Fin 16,(jE (bU (eX m.val)) && (jP (eX m.val) == m.val) && (eX m.val != 13))=true:=by decide +kernel
theorem OZ:∀ m:Fin 10,(dM (eX m.val) && ((eX m.val).toNat - 48 == m.val) && ru (eX m.val) && !([32,9] : Str).contains (eX m.val))=true:=by decide +kernel
theorem FV (s:Str) (x:UInt8) : gM (s++[x])=gM s * 10 + (x.toNat - 48):=by simp[gM]
theorem GQ (s:Str) (x:UInt8) : iX (s++[x])=iX s * 16 + jP x:=by simp[iX]
theorem Ij {d:Nat} (h:d<10) : dM (eX d)=true∧(eX d).toNat - 48=d∧ru (eX d)=true∧([32,9] : Str).contains (eX d)=false:=by
 have:=OZ ⟨d,h⟩
 simp only[Bool.and_eq_true,beq_iff_eq,Bool.not_eq_true'] at this
 exact⟨this.1.1.1,this.1.1.2,this.1.2,this.2⟩
theorem II {d:Nat} (h:d<16) : jE (bU (eX d))=true∧jP (eX d)=d∧eX d≠13:=by
 have:=OW ⟨d,h⟩
 simp only[Bool.and_eq_true,beq_iff_eq,bne_iff_ne] at this
 exact⟨this.1.1,this.1.2,this.2⟩
structure NZ (n:Nat) (s:Str) : Prop where
 val:gM s=n
 dig:s.all dM=true
 vals:s.all ru=true
 bl:∀ x∈s,([32,9] : Str).contains x=false
 pos:1≤s.length
 len:∀ k,1≤k→n<10 ^ k→s.length≤k
theorem Nf:∀ (f n:Nat),n<10 ^ f→1≤f→NZ n (lH 10 f n):=by
 intro f
 induction f with
 | zero=>intro n _ h; omega
 | succ f ih =>
   intro n hn _
   by_cases h:n<10
   ·rw[qh h]
    obtain⟨h1,h2,h3,h4⟩:=Ij h
    refine⟨?_,by simp[h1],by simp[h3],fun x hx=>?_,by simp,fun k hk _=>by simpa using hk⟩
    ·rw[show[eX n]=[]++[eX n] from rfl,FV]
     simpa [gM] using h2
    ·have:x=eX n:=by simpa using hx
     rw[this]; exact h4
   ·rw[vO h]
    have hf:1≤f:=by
     rcases Nat.eq_zero_or_pos f with rfl | h'
     ·simp at hn; omega
     ·exact h'
    have i:=ih (n / 10) (by rw[Nat.pow_succ] at hn; exact Nat.div_lt_of_lt_mul (by rw[Nat.mul_comm]; exact hn)) hf
    obtain⟨h1,h2,h3,h4⟩:=Ij (Nat.mod_lt n (show 0<10 by decide))
    refine⟨?_,by rw[List.all_append,i.dig]; simp[h1],by rw[List.all_append,i.vals]; simp[h3],fun x hx=>?_,by simp,fun k hk hk2=>?_⟩
    ·rw[FV,i.val,h2]; omega
    ·rcases List.mem_append.1 hx with hx | hx
     ·exact i.bl x hx
     ·have:x=eX (n % 10):=by simpa using hx
      rw[this]; exact h4
    ·rcases Nat.lt_or_ge k 2 with h' | h'
     ·have:k=1:=by omega
      subst this
      simp at hk2; omega
     ·obtain⟨j,rfl⟩ : ∃ j,k=j + 1:=⟨k - 1,by omega⟩
      have:=i.len j (by omega) (by rw[Nat.pow_succ] at hk2; exact Nat.div_lt_of_lt_mul (by rw[Nat.mul_comm]; exact hk2))
      simp; omega
structure Oh (n:Nat) (s:Str) : Prop where
 val:iX s=n
 dig:(low s).all jE=true
 PI:∀ x∈s,x≠13
 pos:1≤s.length
 len:∀ k,1≤k→n<16 ^ k→s.length≤k
theorem Pj (a b:Str) : low (a++b)=low a++low b:=by simp[low]
theorem Ns:∀ (f n:Nat),n<16 ^ f→1≤f→Oh n (lH 16 f n):=by
 intro f
 induction f with
 | zero=>intro n _ h; omega
 | succ f ih =>
   intro n hn _
   by_cases h:n<16
   ·rw[qh h]
    obtain⟨h1,h2,h3⟩:=II h
    refine⟨?_,by simp[low,h1],fun x hx=>?_,by simp,fun k hk _=>by simpa using hk⟩
    ·rw[show[eX n]=[]++[eX n] from rfl,GQ]
     simpa [iX] using h2
    ·have:x=eX n:=by simpa using hx
     rw[this]; exact h3
   ·rw[vO h]
    have hf:1≤f:=by
     rcases Nat.eq_zero_or_pos f with rfl | h'
     ·simp at hn; omega
     ·exact h'
    have i:=ih (n / 16) (by rw[Nat.pow_succ] at hn; exact Nat.div_lt_of_lt_mul (by rw[Nat.mul_comm]; exact hn)) hf
    obtain⟨h1,h2,h3⟩:=II (Nat.mod_lt n (show 0<16 by decide))
    refine⟨?_,by rw[Pj,List.all_append,i.dig]; simp[low,h1],fun x hx=>?_,by simp,fun k hk hk2=>?_⟩
    ·rw[GQ,i.val,h2]; omega
    ·rcases List.mem_append.1 hx with hx | hx
     ·exact i.PI x hx
     ·have:x=eX (n % 16):=by simpa using hx
      rw[this]; exact h3
    ·rcases Nat.lt_or_ge k 2 with h' | h'
     ·have:k=1:=by omega
      subst this
      simp at hk2; omega
     ·obtain⟨j,rfl⟩ : ∃ j,k=j + 1:=⟨k - 1,by omega⟩
      have:=i.len j (by omega) (by rw[Nat.pow_succ] at hk2; exact Nat.div_lt_of_lt_mul (by rw[Nat.mul_comm]; exact hk2))
      simp; omega
theorem IJ {n:Nat} (h:n≤100000) : NZ n (dY n):=Nf 20 n (Nat.lt_of_le_of_lt h (by decide)) (by decide)
theorem PZ {n:Nat} (h:n≤100000) : Oh n (eD n):=Ns 20 n (Nat.lt_of_le_of_lt h (by decide)) (by decide)
theorem JU (s:Str) : trimB (32 :: s)=trimB s:=by
 unfold trimB Lib.trimS Lib.trimRightS
 rw[List.reverse_cons,List.dropWhile_append]
 cases h:(s.reverse.dropWhile (([32,9] : Str).contains ·)) with
 | nil =>
   rw[if_pos (by simp)]
   rfl
 | cons x t =>
   rw[if_neg (by simp)]
   rw[List.reverse_append]
   rfl
theorem Na {s:Str} (h:∀ x∈s,([32,9] : Str).contains x=false) : trimB s=s:=by
 have dw:∀ l:Str,(∀ x∈l,([32,9] : Str).contains x=false)→l.dropWhile (([32,9] : Str).contains ·)=l:=fun l hl=>by
  cases l with
  | nil=>rfl
  | cons x t=>rw[List.dropWhile_cons,hl x (by simp),if_neg (by decide)]
 unfold trimB Lib.trimS Lib.trimRightS Lib.trimLeftS
 rw[dw s.reverse (fun x hx=>h x (List.mem_reverse.1 hx)),List.reverse_reverse,dw s h]
theorem CZ {x:UInt8} {r:Str} : ∀ {s:Str},x ∉ s→brk x (s++x :: r)=some (s,r)
 | [],_=>by simp[brk]
 | c :: t,h=>by
   have hc:c≠x:=fun e=>h (by simp[e])
   have ht:x ∉ t:=fun e=>h (by simp[e])
   rw[List.cons_append,brk,if_neg hc,CZ ht]
   rfl
theorem xR {R:Str} : ∀ {s:Str},(13:UInt8) ∉ s→crlf (s++13 :: 10 :: R)=some (s,R)
 | [],_=>rfl
 | [c],h=>by
   have hc:c≠13:=fun e=>h (by simp[e])
   have:(c == 13 && (13:UInt8) == 10)=false:=by simp
   rw[List.cons_append,List.nil_append,crlf,this]
   rfl
 | c :: d :: t,h=>by
   have hc:(c == 13)=false:=beq_eq_false_iff_ne.2 fun e=>h (by simp[e])
   rw[List.cons_append,List.cons_append,crlf,hc,Bool.false_and]
   have:=xR (R:=R) (s:=d :: t) (fun e=>h (List.mem_cons_of_mem _ e))
   rw[List.cons_append] at this
   rw[this]
theorem u6 {P s R:Str} (h13:(13:UInt8) ∉ s) (hl:P.length + s.length + 2≤2048) : lV (P++(s++13 :: 10 :: R)) P.length=.ok (s,P.length + s.length + 2):=by
 unfold lV
 have:((P++(s++13 :: 10 :: R)).take 2048).drop P.length=s++13 :: 10 :: R.take (2048 - P.length - s.length - 2):=by
  rw[List.take_append,List.take_of_length_le (by omega),List.drop_left' rfl,List.take_append,List.take_of_length_le (by omega)]
  obtain⟨k,hk⟩ : ∃ k,2048 - P.length - s.length=k + 2:=⟨2048 - P.length - s.length - 2,by omega⟩
  rw[hk]
  rfl
 rw[this,xR h13]
theorem EY {n v:Str} (hn:dP n=true) (hv:bQ v=true) : eO (n++58 :: 32 :: v)=some (n,v):=by
 unfold eO
 rw[CZ (fun h=>(GD hn h).2.1 rfl)]
 dsimp only
 have:trimB v=v:=by
  unfold bQ at hv
  rw[Bool.and_eq_true] at hv
  exact(eq_of_beq hv.1).symm
 rw[JU,this,hn,hv]
 rfl
theorem Gy (h:Hd) (R:Str) : dC h++R=(h.1++58 :: 32 :: h.2)++13 :: 10 :: R:=by simp[dC]
theorem Bt:∀ (L:List Hd) (P R:Str) (acc:List Hd) (f:Nat),(∀ h∈L,dP h.1=true∧bQ h.2=true)→L.length≤f→P.length + (L.flatMap dC).length + 2≤2048 →
  hloop (P++(L.flatMap dC++13 :: 10 :: R)) f P.length acc=.ok (acc++L,P.length + (L.flatMap dC).length + 2)
 | [],P,R,acc,f,_,_,hl=>by
   rw[jv,List.flatMap_nil]
   have:=u6 (P:=P) (s:=[]) (R:=R) (by simp) (by simpa using hl)
   rw[this]
   simp
 | h :: L,P,R,acc,f,hg,hf,hl=>by
   obtain⟨hn,hv⟩:=hg h (by simp)
   have e:(h :: L).flatMap dC++13 :: 10 :: R=(h.1++58 :: 32 :: h.2)++13 :: 10 :: (L.flatMap dC++13 :: 10 :: R):=by
    rw[List.flatMap_cons,List.append_assoc,Gy]
   have ll:(dC h).length=(h.1++58 :: 32 :: h.2).length + 2:=by simp[dC]; omega
   have l2:((h :: L).flatMap dC).length=(dC h).length + (L.flatMap dC).length:=by simp
   have h13:(13:UInt8) ∉ h.1++58 :: 32 :: h.2:=fun hm=>by
    rcases List.mem_append.1 hm with hm | hm
    ·exact(GD hn hm).1 rfl
    ·rcases List.mem_cons.1 hm with hm | hm
     ·exact absurd hm (by decide)
     ·rcases List.mem_cons.1 hm with hm | hm
      ·exact absurd hm (by decide)
      ·exact(OU hv hm).1 rfl
   rw[jv,e,u6 h13 (by omega)]
   dsimp only
   obtain⟨f',rfl⟩ : ∃ f',f=f' + 1:=⟨f - 1,by simp at hf; omega⟩
   have hd:=EY hn hv
   obtain⟨x,xs,hx⟩ : ∃ x xs,h.1++58 :: 32 :: h.2=x :: xs:=by
    cases h.1 with
    | nil=>exact⟨_,_,rfl⟩
    | cons a b=>exact⟨_,_,rfl⟩
   have ih:=Bt L (P++dC h) R (acc++[h]) f' (fun y hy=>hg y (by simp[hy])) (by simp at hf; omega) (by simp only[List.length_append]; omega)
   rw[List.append_assoc,Gy] at ih
   rw[hx] at hd ll ih ⊢
   dsimp only
   rw[hd]
   dsimp only
   rw[List.length_append,ll] at ih
   rw[show P.length + (x :: xs).length + 2=P.length + ((x :: xs).length + 2) by omega,ih,l2,ll]
   simp only[List.append_assoc,List.cons_append,List.nil_append,Nat.add_assoc]
theorem JF {p:Str→Bool} {first R:Str} {L:List Hd} (h13:(13:UInt8) ∉ first) (hp:p first=true) (hg:∀ h∈L,dP h.1=true∧bQ h.2=true) (hn:L.length≤32)
  (hl:first.length + 2 + (L.flatMap dC).length + 2≤2048) : headD p (first++13 :: 10 :: (L.flatMap dC++13 :: 10 :: R))=.ok (first,L,first.length + 2 + (L.flatMap dC).length + 2):=by
 unfold headD
 have h1:=u6 (P:=[]) (s:=first) (R:=L.flatMap dC++13 :: 10 :: R) h13 (by simp; omega)
 rw[List.nil_append,List.length_nil,Nat.zero_add] at h1
 rw[h1]
 dsimp only
 rw[hp]
 dsimp only
 have h2:=Bt L (first++[13,10]) R [] 32 hg hn (by rw[List.length_append]; exact hl)
 have e:first++[13,10]++(L.flatMap dC++13 :: 10 :: R)=first++13 :: 10 :: (L.flatMap dC++13 :: 10 :: R):=by simp
 have e2:(first++[13,10]).length=first.length + 2:=by simp
 rw[e,e2] at h2
 rw[h2,List.nil_append]
theorem JD {x:UInt8} : ∀ {s:Str},x ∉ s→words x s=[s]:=fun {s} h=>by
 rw[pg]
 cases hb:brk x s with
 | none=>rfl
 | some p =>
   obtain⟨a,b⟩:=p
   have:=sI hb
   have h0:s.count x=0:=List.count_eq_zero.2 h
   omega
theorem Ea {x:UInt8} {s r:Str} (h:x ∉ s) : words x (s++x :: r)=s :: words x r:=by
 rw[pg,CZ h]
theorem wL {m p:Str} (h:mP m p=true) : iL (jw m p)=some (m,p):=by
 unfold mP at h
 rw[Bool.and_eq_true] at h
 have e:jw m p=m++32 :: (p++32 :: Fh):=by simp[jw]
 unfold iL
 rw[e,Ea (fun hx=>(Eb h.1 hx).2.2 rfl),Ea (fun hx=>(Gq h.2 hx).2.2 rfl),JD (by decide)]
 dsimp only
 have:pV m p Fh=true:=by unfold pV; rw[h.1,h.2]; rfl
 rw[this]
theorem Jf {m p:Str} (h:mP m p=true) : (13:UInt8) ∉ jw m p:=by
 unfold mP at h
 rw[Bool.and_eq_true] at h
 intro hx
 have e:jw m p=m++32 :: (p++32 :: Fh):=by simp[jw]
 rw[e] at hx
 rcases List.mem_append.1 hx with hx | hx
 ·exact(Eb h.1 hx).1 rfl
 ·rcases List.mem_cons.1 hx with hx | hx
  ·exact absurd hx (by decide)
  ·rcases List.mem_append.1 hx with hx | hx
   ·exact(Gq h.2 hx).1 rfl
   ·revert hx; decide
theorem xK {m p R:Str} {L:List Hd} (h:mP m p=true) (hg:∀ h∈L,dP h.1=true∧bQ h.2=true) (hn:L.length≤32)
  (hl:(jw m p).length + 2 + (L.flatMap dC).length + 2≤2048) {out r:Str} (hb:oI R L=.ok (out,r)) : gz (jw m p++13 :: 10 :: (L.flatMap dC++13 :: 10 :: R))=.ok ((m,p,L,out),r):=by
 unfold gz
 have hp:qJ (jw m p)=true:=by unfold qJ; rw[wL h]; rfl
 rw[JF (Jf h) hp hg hn hl]
 dsimp only
 have e:jw m p++13 :: 10 :: (L.flatMap dC++13 :: 10 :: R)=(jw m p++[13,10]++L.flatMap dC++[13,10])++R:=by simp
 rw[e,List.drop_left' (by simp; omega),hb]
 dsimp only
 rw[wL h]
theorem Bb (a b:List Hd) (n:Str) : aX (a++b) n=aX a n++aX b n:=by simp[aX]
theorem oF {l:List Hd} {n:Str} (h:∀ x∈l,low x.1≠low n) : aX l n=[]:=by
 unfold aX
 have:l.filter (isNamed n)=[]:=List.filter_eq_nil_iff.2 (fun x hx hh=>h x hx (eq_of_beq hh))
 rw[this]
 rfl
theorem E9:low pE=pE:=by decide
theorem Gf:low pu=pu:=by decide
theorem Bn {x:Hd} {n:Str} (h:low x.1=low n) : aX [x] n=[x.2]:=by
 unfold aX
 have:isNamed n x=true:=by unfold isNamed; rw[h]; exact beq_self_eq_true _
 rw[List.filter_cons,if_pos this]
 rfl
theorem KJ {l:List Hd} {more:Hd} {body t:Str} (hl:∀ x∈l,low x.1≠pE∧low x.1≠pu) (hm:low more.1=pu) (hv:more.2=dY body.length) (hb:body.length≤16384) : oI (body++t) (l++[more])=.ok (body,t):=by
 have d:=IJ (show body.length≤100000 by omega)
 have e1:aX (l++[more]) pE=[]:=oF fun x hx=>by
  rw[E9]
  rcases List.mem_append.1 hx with hx | hx
  ·exact(hl x hx).1
  ·have:x=more:=by simpa using hx
   rw[this,hm]; decide
 have e2:aX (l++[more]) pu=[dY body.length]:=by
  rw[Bb,oF (fun x hx=>by rw[Gf]; exact(hl x hx).2),Bn (by rw[hm,Gf]),hv]
  rfl
 unfold oI
 rw[e1,e2]
 dsimp only
 have ok:sO (dY body.length)=true:=by
  unfold sO gV
  have h1:=d.pos
  have h2:=d.len 9 (by decide) (Nat.lt_of_le_of_lt hb (by decide))
  rw[d.dig]
  simp only[Bool.and_true,Bool.and_eq_true,decide_eq_true_eq]
  omega
 rw[ok,d.val]
 dsimp only
 rw[iD (by omega)]
 dsimp only
 rw[iD (by simp)]
 dsimp only
 rw[List.take_left' rfl,List.drop_left' rfl]
theorem kR:∀ (ns:List Int) (acc rest:Str),∃ ps:List Str,∃ rest' : Str,bV ns acc rest=(acc++ps.flatMap df,rest')∧rest=ps.flatten++rest'∧∀ p∈ps,1≤p.length
 | [],acc,rest=>⟨[],rest,by simp[bV],by simp,by simp⟩
 | n :: ns,acc,rest=>by
   rw[bV]
   cases h:decide (iQ n rest<1) with
   | true=>exact kR ns acc rest
   | false =>
     dsimp only
     obtain⟨ps,rest',h1,h2,h3⟩:=kR ns (acc++df (rest.take (iQ n rest).toNat)) (rest.drop (iQ n rest).toNat)
     have hc:1≤(iQ n rest).toNat∧(iQ n rest).toNat≤rest.length:=by
      have:¬ iQ n rest<1:=by simpa using h
      have:iQ n rest≤rest.length:=by unfold iQ; split <;> omega
      omega
     refine⟨rest.take (iQ n rest).toNat :: ps,rest',by rw[h1]; simp, ?_,fun p hp=>?_⟩
     ·rw[List.flatten_cons,List.append_assoc,← h2,List.take_append_drop]
     ·rcases List.mem_cons.1 hp with rfl | hp
      ·simp; omega
      ·exact h3 p hp
theorem FW {n:Nat} {acc rest:Str} (h:rest.length≤n) : (bV [(n:Int)] acc rest).2=[]:=by
 rw[bV]
 have hc:iQ (n:Int) rest=(rest.length:Int):=by unfold iQ; split <;> omega
 rw[hc]
 cases h1:decide ((rest.length:Int)<1) with
 | true =>
   have h1:=of_decide_eq_true h1
   have:rest.length=0:=by omega
   exact List.length_eq_zero_iff.1 this
 | false=>simp[bV]
theorem JQ (ns:List Int) (body:Str) : ∃ ps:List Str,(bV (ns++[(body.length:Int)]) [] body).1=ps.flatMap df∧body=ps.flatten∧∀ p∈ps,1≤p.length:=by
 obtain⟨ps,rest',h1,h2,h3⟩:=kR (ns++[(body.length:Int)]) [] body
 obtain⟨qs,rest2,g1,g2,g3⟩:=kR ns [] body
 have:rest'=[]:=by
  have e:=CB ns [(body.length:Int)] [] body
  have:=congrArg Prod.snd e
  rw[h1,g1] at this
  dsimp only at this
  rw[this]
  exact FW (by rw[g2]; simp)
 subst this
 exact⟨ps,by rw[h1]; simp,by simpa using h2,h3⟩
theorem Ba {n:Nat} {R:Str} (h:n≤100000) : lU (eD n++13 :: 10 :: R)=.ok (n,R):=by
 have d:=PZ h
 unfold lU
 rw[xR (fun hx=>d.PI _ hx rfl)]
 dsimp only
 have ok:lQ (eD n)=true:=by
  unfold lQ gV
  have h1:=d.pos
  have h2:=d.len 8 (by decide) (Nat.lt_of_le_of_lt h (by decide))
  rw[d.dig]
  simp only[Bool.and_true,Bool.and_eq_true,decide_eq_true_eq]
  omega
 rw[ok,d.val]
theorem wD (t:Str) : ∀ (ps:List Str) (f:Nat) (out:Str),(∀ p∈ps,1≤p.length)→out.length + ps.flatten.length≤16384→ps.length<f →
  dz f (ps.flatMap df++(lh++t)) out=.ok (out++ps.flatten,t)
 | [],f,out,_,hl,hf=>by
   obtain⟨f',rfl⟩ : ∃ f',f=f' + 1:=⟨f - 1,by simp at hf; omega⟩
   rw[dz]
   have e:([] : List Str).flatMap df++(lh++t)=eD 0++13 :: 10 :: (13 :: 10 :: t):=rfl
   rw[e,Ba (by decide)]
   dsimp only
   rw[iD (by omega)]
   dsimp only
   rw[iD (by simp)]
   simp
 | p :: ps,f,out,hp,hl,hf=>by
   obtain⟨f',rfl⟩ : ∃ f',f=f' + 1:=⟨f - 1,by simp at hf; omega⟩
   have hp1:=hp p (by simp)
   rw[List.flatten_cons,List.length_append] at hl
   rw[dz]
   have e:(p :: ps).flatMap df++(lh++t)=eD p.length++13 :: 10 :: (p++13 :: 10 :: (ps.flatMap df++(lh++t))):=by
    rw[List.flatMap_cons,df]; simp
   rw[e,Ba (by omega)]
   dsimp only
   rw[iD (by omega)]
   dsimp only
   rw[iD (by simp)]
   dsimp only
   have e2:(p++13 :: 10 :: (ps.flatMap df++(lh++t))).drop p.length=13 :: 10 :: (ps.flatMap df++(lh++t)):=List.drop_left' rfl
   have e3:(p++13 :: 10 :: (ps.flatMap df++(lh++t))).drop (p.length + 2)=ps.flatMap df++(lh++t):=by
    rw[← List.drop_drop,e2]; rfl
   have e4:(p++13 :: 10 :: (ps.flatMap df++(lh++t))).take p.length=p:=List.take_left' rfl
   have hb:Nat.beq p.length 0=false:=by
    cases hz:p.length with
    | zero=>omega
    | succ k=>rfl
   rw[e2,e3,e4,hb]
   have:=wD t ps f' (out++p) (fun q hq=>hp q (by simp[hq])) (by rw[List.length_append]; omega) (by simp at hf; omega)
   rw[show(List.take 2 (13 :: 10 :: (ps.flatMap df++(lh++t))) == ([13,10] : Str))=true from rfl]
   dsimp only
   rw[this]
   simp
theorem Bc:∀ (ps:List Str),ps.length≤(ps.flatMap df).length
 | []=>by simp
 | p :: ps=>by
   have:=Bc ps
   rw[List.flatMap_cons,List.length_append,List.length_cons]
   have:1≤(df p).length:=by simp[df]; omega
   omega
theorem GV {l:List Hd} {more:Hd} {body t:Str} {ns:List Int} (hl:∀ x∈l,low x.1≠pE∧low x.1≠pu) (hm:low more.1=pE) (hv:more.2=rU) (hb:body.length≤16384) :
  oI ((bV (ns++[(body.length:Int)]) [] body).1++lh++t) (l++[more])=.ok (body,t):=by
 have e1:aX (l++[more]) pE=[rU]:=by
  rw[Bb,oF (fun x hx=>by rw[E9]; exact(hl x hx).1),Bn (by rw[hm,E9]),hv]
  rfl
 have e2:aX (l++[more]) pu=[]:=oF fun x hx=>by
  rw[Gf]
  rcases List.mem_append.1 hx with hx | hx
  ·exact(hl x hx).2
  ·have:x=more:=by simpa using hx
   rw[this,hm]; decide
 unfold oI
 rw[e1,e2]
 dsimp only
 rw[show(low rU == rU)=true by decide]
 dsimp only
 obtain⟨ps,h1,h2,h3⟩:=JQ ns body
 rw[h1,List.append_assoc]
 have:=wD t ps ((ps.flatMap df++(lh++t)).length + 1) [] h3 (by rw[← h2]; simpa using hb) (by have:=Bc ps; simp only[List.length_append]; omega)
 rw[this,← h2]
 rfl
theorem FN {l:List Hd} (h:l.all qR=true) : ∀ x∈l,dP x.1=true∧bQ x.2=true∧low x.1≠pE∧low x.1≠pu:=fun x hx=>by
 have:=List.all_eq_true.1 h x hx
 unfold qR at this
 simp only[Bool.not_eq_true',Bool.or_eq_false_iff,Bool.not_eq_false',beq_eq_false_iff_ne] at this
 exact⟨this.1.1.1,this.1.1.2,this.1.2,this.2⟩
theorem Dj (first:Str) (l:List Hd) (more:Hd) (R:Str) : lv first l more++R=first++13 :: 10 :: ((l++[more]).flatMap dC++13 :: 10 :: R):=by
 simp[lv,sS]
theorem Ei {l:List Hd} {s:Str} {sz:Nat} (h:qA l s sz=false) : l.length + 1≤32∧s.length≤2048∧sz≤16384:=by
 unfold qA at h
 simp only[Bool.or_eq_false_iff,decide_eq_false_iff_not] at h
 omega
theorem Hz:dP kH=true:=by decide +kernel
theorem G9:dP yE=true:=by decide +kernel
theorem O8:low kH=pu:=by decide
theorem O3:low yE=pE:=by decide
theorem FY:bQ rU=true:=by decide +kernel
theorem Ey {n:Nat} (h:n≤100000) : bQ (dY n)=true:=by
 have d:=IJ h
 unfold bQ
 rw[Na d.bl,beq_self_eq_true,d.vals]
 rfl
theorem zK {first:Str} {l:List Hd} {more:Hd} {sz:Nat} {body s:Str} (h:fG first l more sz body=.ok s) : l.all qR=true∧qA l (lv first l more) sz=false∧s=lv first l more++body:=by
 unfold fG at h
 split at h
 ·cases h
 ·split at h
  ·cases h
  ·cases h; exact⟨by assumption,by assumption,rfl⟩
theorem Fv (first:Str) (l:List Hd) (more:Hd) : (lv first l more).length=first.length + 2 + ((l++[more]).flatMap dC).length + 2:=by
 have:=congrArg List.length (Dj first l more [])
 simp only[List.length_append,List.length_cons,List.length_nil] at this
 omega
theorem ED {m p:Str} {l:List Hd} {body s:Str} (h:iR m p l body=.ok s) (t:Str) : gz (s++t)=.ok ((m,p,l++[(kH,dY body.length)],body),t):=by
 unfold iR at h
 split at h
 ·cases h
 ·rename_i hok
  obtain⟨h1,h2,rfl⟩:=zK h
  obtain⟨h3,h4,h5⟩:=Ei h2
  have ha:=FN h1
  rw[List.append_assoc,Dj]
  rw[Fv] at h4
  refine xK hok (fun x hx=>?_) (by simp; omega) h4 (KJ (fun x hx=>(ha x hx).2.2) O8 rfl h5)
  rcases List.mem_append.1 hx with hx | hx
  ·exact⟨(ha x hx).1,(ha x hx).2.1⟩
  ·have:x=(kH,dY body.length):=by simpa using hx
   subst this
   exact⟨Hz,Ey (by omega)⟩
theorem BG {m p:Str} {l:List Hd} {body s:Str} {ns:List Int} (h:fe m p l body ns=.ok s) (t:Str) : gz (s++t)=.ok ((m,p,l++[(yE,rU)],body),t):=by
 unfold fe at h
 split at h
 ·cases h
 ·rename_i hok
  obtain⟨h1,h2,rfl⟩:=zK h
  obtain⟨h3,h4,h5⟩:=Ei h2
  have ha:=FN h1
  rw[List.append_assoc,Dj]
  rw[Fv] at h4
  refine xK hok (fun x hx=>?_) (by simp; omega) h4 (GV (fun x hx=>(ha x hx).2.2) O3 rfl h5)
  rcases List.mem_append.1 hx with hx | hx
  ·exact⟨(ha x hx).1,(ha x hx).2.1⟩
  ·have:x=(yE,rU):=by simpa using hx
   subst this
   exact⟨G9,FY⟩
end Go.Ab.Hw
namespace Go.Ab
open Go Go.RowKit
variable {H:Type} {enc:TypeId × Value→H}
theorem zF {a:Assume} {C:Checked} {os:Os} {f:FuncId} {fn:Func} {s:ChangeSpec} {conds:List PathCond} {apart fresh handsOn again:Bool} {X:World→Array Value→Prop}
  (hX:∀ (w w' : World) (args:Array Value),w.heap=w'.heap→X w args→X w' args)
  (own:ownKnob C.prog.godebug=none) (started:os.Started) (noInit:C.prog.inits.idxOf? f=none) (hfn:C.prog.funcs[f]?=some fn)
  (witness:∃ (w:World) (tape:Tape) (i:Input),w.os=os∧(w.forCall tape i).Shaped C.prog∧i.vars=[]∧Input.okWide C.prog (w.forCall tape i) .any w.heap.size f i ∧
   ((s.pre enc C.prog fn conds apart (w.forCall tape i).memory i.args∧X (w.forCall tape i).memory i.args)∧sizedMet enc C.prog fn (OpenSpec.ofChange s) apart (w.forCall tape i).memory i.args)∧a.holds C.prog (lone (Frame.enter C.prog f i.args .normal) [] (w.forCall tape i)))
  (contract:∀ (W:World) (base:Nat) (args:Array Value) (ds gs:List (DataW H)) (before:List MemPlace),
   (∀ (j:Nat) t v,fn.params[j]?=some t→args[j]?=some v→Value.okWide C.prog W .any base t v) →
   DataW.Whole enc C.prog fn.params.toList s.vars apart W args.toList ds gs before →
   conds.all (PathCond.test C.prog ⟨fn.params.toList,ds,s.plain.varTypes C.prog,gs⟩)=true →
   (DataW.weightsEach C.prog (fn.params.toList++s.plain.varTypes C.prog) (ds++gs)).all (· ≤ reachBytes)=true→X W args →
   W.ShapedOpen C.prog →
   a.holds C.prog (lone (Frame.enter C.prog f args .normal) [] W) →
   Calls C.prog f args W fun e W'=>∃ v,e=.returned v∧s.post enc C.prog fn apart fresh handsOn again W args v W') :
  ReturnsInHanded a C os f .any (fun w args=>(s.pre enc C.prog fn conds apart w args∧X w args)∧sizedMet enc C.prog fn (OpenSpec.ofChange s) apart w args) (s.post enc C.prog fn apart fresh handsOn again):=by
 refine returnsInHanded_of_calls own started noInit witness ?_
 intro w tape i _ hsh _ hok hpre hholds
 obtain⟨_,_,_,fn',hfn',_,_,_,_,hval⟩:=hok
 have e:fn'=fn:=Option.some.inj (hfn'.symm.trans hfn)
 subst e
 obtain⟨⟨⟨ds,gs,before,hw,hc⟩,hx⟩,hz⟩:=hpre
 have hw':=DataW.Whole.of_heap (w':=w.forCall tape i) (by rfl) hw
 refine(contract (w.forCall tape i) w.heap.size i.args ds gs before hval hw' hc (hz.weights hw) (hX _ _ _ (by rfl) hx) hsh hholds).mono fun e W' ⟨v,he,hp⟩=>?_
 subst he
 exact ChangeSpec.post_blind hp
end Go.Ab
