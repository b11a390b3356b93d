/- Part 4 of the ground of the proofs of this seat (texts H3 to R27). By an AI agent. -/
import Derived.Test.YtmjcgbaacndblaaGreatDoorHwl3
import Derived.Lib.IndexMore
import Derived.Lib.SplitLaws
import Derived.Laws.AppendOwn
import Derived.HandedShaped
set_option maxRecDepth 10000
set_option linter.unusedVariables false
set_option linter.unusedSimpArgs false
namespace Go.Ab.Hw
open Go Go.Ab Go.Ab.Sm
open Go.Ab.Vl (brk kP pz gy dU fI fe zR)
def crlf:Str→Option (Str × Str)
 | []=>none
 | [_]=>none
 | x :: y :: t=>match x == 13 && y == 10 with
   | true=>some ([],t)
   | false=>match crlf (y :: t) with
     | none=>none
     | some p=>some (x :: p.1,p.2)
theorem uX:∀ s:Str,(crlf s=none∧Lib.index s [13,10]=-1)∨∃ a b,crlf s=some (a,b)∧Lib.index s [13,10]=(a.length:Int)∧s=a++13 :: 10 :: b
 | []=>.inl ⟨rfl,by decide⟩
 | [x]=>.inl ⟨rfl,by
   have h:([13,10] : Str).isPrefixOf [x]=false:=by simp[List.isPrefixOf]
   simp[Lib.index,h]⟩
 | x :: y :: t=>by
   unfold crlf
   cases h:x == 13 && y == 10
   ·have hp:([13,10] : Str).isPrefixOf (x :: y :: t)=false:=by
     simp only[List.isPrefixOf,Bool.and_true]
     rw[show((13:UInt8) == x)=(x == 13) from Bool.beq_comm ..,show((10:UInt8) == y)=(y == 10) from Bool.beq_comm ..]
     exact h
    rcases uX (y :: t) with⟨h1,h2⟩ | ⟨a,b,h1,h2,h3⟩
    ·refine .inl ⟨by simp only[h1], ?_⟩
     rw[Lib.index,hp]
     simp[h2]
    ·refine .inr ⟨x :: a,b,by simp only[h1], ?_,by rw[h3]; rfl⟩
     rw[Lib.index,hp]
     simp only[h2]
     have:((a.length:Int) == -1)=false:=by simp
     simp[this]
   ·simp only[Bool.and_eq_true,beq_iff_eq] at h
    obtain⟨rfl,rfl⟩:=h
    exact .inr ⟨[],t,rfl,by simp[Lib.index,List.isPrefixOf],rfl⟩
def Ba (B:Base) (c:ai) : Prop:=∀ {M:RM} {v w:AV} {s:Str} {Q:ah},M.base=B→Bs M v s→Bs M w [13,10]→s.length≤1000000000→Q (N .i64 (Lib.index s [13,10])) M→c [v,w] M Q
theorem FU {T:Nat} {M:RM} {K:ah} (hK:∀ v M',Bs M' v [13,10]→ae [] M M'→K v M') :
  dC T 2 [(N .u8 0)] [(0,1,(N .u8 13)),(1,1,(N .u8 10))] fun r f=>bg r f M fun t14 M=>pJ t14 M fun t15 M_0=>K t15 M_0:=by
 refine⟨[N .u8 13,N .u8 10],rfl, ?_⟩
 simp only[aT]
 refine⟨M.next,0,2,2,[N .u8 13,N .u8 10],T,rfl,by simp[RM.push], ?_⟩
 refine hK _ _ ⟨?_,Nat.le_refl _⟩ (((ae.refl _ _).push _).new _ (Nat.le_refl _))
 refine aK.slc _ _ _ _ _ (by simp[RM.push,RM.put]) ?_
 rw[RM.gP (aN _) (by decide)]
 rfl
def lG (b:Str) (at' : Nat) : Except Nat (Str × Nat):=match crlf ((b.take 2048).drop at') with
 | some p=>.ok (p.1,at' + p.1.length + 2)
 | none=>match Nat.blt b.length 2048 with
   | true=>.error 15
   | false=>.error 2
def Jg (B:Base) (c:ai) : Prop:=∀ {M:RM} {v:AV} {b:Str} {at' : Nat} {Q:ah},M.base=B→Bs M v b→at'≤b.length→at'≤2048→b.length≤1000000000 →
 (∀ s n M',lG b at'=.ok (s,n)→n≤b.length→n≤2048→s.length≤2048→ae [] M M'→Q (.tup [St s,N .i64 (n:Int),N .i64 0]) M')→(∀ (e:Nat) M',lG b at'=.error e→(e=15∨e=2)→ae [] M M'→Q (.tup [St [],N .i64 0,N .i64 (e:Int)]) M')→c [v,N .i64 (at' : Int)] M Q
theorem L8 {B:Base} {T:Nat} {ci:ai} (hi:Ba B ci) : Jg B fun args M Q=>∃ a0 a1,args=[a0,a1]∧mE T ci a0 a1 M Q:=by
 intro M v b at' Q hB hv h1 h2 hl hQ hE
 refine⟨_,_,rfl, ?_⟩
 unfold mE
 rw[hv.len,Ls]
 have hm:(if false=true then(if (2048:Int) > (b.length:Int) then(2048:Int) else(b.length:Int)) else if (2048:Int)<(b.length:Int) then 2048 else(b.length:Int))=((min b.length 2048:Nat) : Int):=by
  simp only[Bool.false_eq_true,if_false]
  split <;> omega
 rw[hm]
 refine hv.sub (kR _ _ _) (kR _ _ _) (by omega) (by omega) fun v' hv' hsub=>?_
 have hw:(b.drop at').take (min b.length 2048 - at')=(b.take 2048).drop at':=by
  rw[List.drop_take]
  apply List.take_eq_take_iff.2
  rw[List.length_drop]; omega
 rw[hw] at hv'
 refine FU fun w M1 hw1 k1=>?_
 have hwl:((b.take 2048).drop at').length=min 2048 b.length - at':=by simp
 refine hi (k1.base.trans hB) (hv'.keep k1 (by simp)) hw1 (by rw[hwl]; omega) ?_
 have hv1:=hv.keep k1 (by simp)
 rcases uX ((b.take 2048).drop at') with⟨e1,e2⟩ | ⟨a,r,e1,e2,e3⟩
 ·rw[e2,dx,show decide ((-1:Int) ≥ 0)=false from rfl,aY,hv1.len,iQ]
  by_cases hs:b.length<2048
  ·rw[show decide ((b.length:Int)<2048)=true by simp; omega,bP]
   exact hE 15 _ (by unfold lG; rw[e1]; rw[show Nat.blt b.length 2048=true by rw[Nat.blt_eq]; exact hs]) (.inl rfl) k1
  ·rw[show decide ((b.length:Int)<2048)=false by simp; omega,aY]
   have:Nat.blt b.length 2048=false:=by
    cases h:Nat.blt b.length 2048
    ·rfl
    ·rw[Nat.blt_eq] at h; exact absurd h hs
   exact hE 2 _ (by unfold lG; rw[e1]; simp only[this]) (.inr rfl) k1
 ·have hal:a.length + 2 + r.length=min 2048 b.length - at':=by
   rw[← hwl,e3]; simp; omega
  rw[e2,dx,show decide ((a.length:Int) ≥ 0)=true by simp,bP,addN (by omega)]
  refine hv1.sub (kR _ _ _) (kR _ _ _) (by omega) (by omega) fun v2 hv2 _=>?_
  have htk:(b.drop at').take (at' + a.length - at')=a:=by
   have:(b.drop at').take a.length=((b.take 2048).drop at').take a.length:=by
    rw[List.drop_take,List.take_take]; congr 1; omega
   rw[Nat.add_sub_cancel_left,this,e3]; simp
  rw[htk] at hv2
  rw[hv2.str,addN (by omega),show(N .i64 2)=(N .i64 ((2:Nat) : Int)) from rfl,addN (by omega)]
  exact hQ _ _ _ (by unfold lG; rw[e1]) (by omega) (by omega) (by omega) k1
def hloop (b:Str) : Nat→Nat→List Hd→Except Nat (List Hd × Nat)
 | f,at',l=>match lG b at' with
   | .error e=>.error e
   | .ok (s,n)=>match s with
     | []=>.ok (l,n)
     | _ :: _=>match f with
       | 0=>.error 2
       | f + 1=>match eD s with
         | none=>.error 14
         | some h=>hloop b f n (l++[h])
theorem jA (b:Str) (f at' : Nat) (l:List Hd) : hloop b f at' l=(match lG b at' with
  | .error e=>.error e
  | .ok (s,n)=>match s with
    | []=>.ok (l,n)
    | _ :: _=>match f with
      | 0=>.error 2
      | f + 1=>match eD s with
        | none=>.error 14
        | some h=>hloop b f n (l++[h])):=by rw[hloop.eq_def]
def headD (p:Str→Bool) (b:Str) : Except Nat (Str × List Hd × Nat):=match lG b 0 with
 | .error e=>.error e
 | .ok (s,n)=>match p s with
   | false=>.error 14
   | true=>match hloop b 32 n [] with
     | .error e=>.error e
     | .ok (l,at')=>.ok (s,l,at')
def Bb (B:Base) (cv:FuncId→ai) (a1:AV) (p:Str→Bool) (br:Nat) (X0:RB) (X:Str→RB) : Prop:=∀ {M:RM} {s:Str} {K:ah},M.base=B→br<M.next→M.heap br=some X0→s.length≤2048 →
 (p s=false→∀ M',ae [br] M M'→K (Bo false) M')→(p s=true→∀ M',ae [br] M M'→M'.heap br=some (X s)→K (Bo true) M')→yT cv a1 [St s] M K
def Et (B:Base) (a1:AV) (p:Str→Bool) (br:Nat) (X0:RB) (X:Str→RB) (T:Nat) (c:ai) : Prop:=∀ {M:RM} {v:AV} {b:Str} {Q:ah},M.base=B→Bs M v b→b.length≤1000000000→br<M.next→br ∉ aL v→M.heap br=some X0 →
 (∀ (e:Nat) M',headD p b=.error e→(e=15∨e=2∨e=14)→ae [br] M M'→Q (.tup [aH,N .i64 0,N .i64 (e:Int)]) M') →
 (∀ s l at' hv M',headD p b=.ok (s,l,at')→at'≤b.length→s.length≤2048→l.length≤32→ae [br] M M'→M'.heap br=some (X s)→Ow HD M' M.next T hv l→Q (.tup [hv,N .i64 (at' : Int),N .i64 0]) M')→c [v,a1] M Q
theorem LZ {B:Base} {a1:AV} {p:Str→Bool} {br:Nat} {X0:RB} {X:Str→RB} {T:Nat} {cl ch:ai} {cv:FuncId→ai} (hL:Jg B cl) (hH:Cq B ch) (hF:Bb B cv a1 p br X0 X) :
  Et B a1 p br X0 X T fun args M Q=>∃ a0 a1,args=[a0,a1]∧mH cl cv ch T a0 a1 M Q:=by
 intro M v b Q hB hv hl hbr hbv hX0 hE hQ
 refine⟨_,_,rfl, ?_⟩
 unfold mH
 refine hL (at':=0) hB hv (Nat.zero_le _) (Nat.zero_le _) hl (fun s n M1 e1 n1 n2 hs k1=>?_) (fun e M1 e1 he k1=>?_)
 rotate_left
 ·simp only[bn,bq,eO,gD]
  rw[show(((e:Nat) : Int) != 0)=true by rcases he with rfl | rfl <;> rfl,bP]
  exact hE e M1 (by unfold headD; rw[e1]) (by omega) (k1.mono (by simp))
 simp only[bn,bq,eO,Ay,aY]
 have hX1:=k1.aP hX0 hbr (by simp)
 refine hF (k1.base.trans hB) (Nat.lt_of_lt_of_le hbr k1.next) hX1 hs (fun hp M2 k2=>?_) (fun hp M2 k2 hX2=>?_)
 ·simp only[di,Bool.not_false,bP]
  exact hE 14 M2 (by unfold headD; rw[e1]; simp only[hp]) (by omega) ((k1.mono (by simp)).trans k2)
 simp only[di,Bool.not_true,aY]
 have k12:ae [br] M M2:=(k1.mono (by simp)).trans k2
 have target:∀ r,hloop b 32 n []=r→headD p b=(match r with | .error e=>.error e | .ok (l,at')=>.ok (s,l,at')):=by
  rintro r rfl
  unfold headD; rw[e1]; simp only[hp]
 have hbM:∀ x,M.next≤x→x≠br:=fun x hx e=>by omega
 refine dL (fun m ys M3=>∃ (at' : Nat) (hv:AV) (l:List Hd),ys=[hv,N .i64 (at' : Int)]∧l.length + m=32∧at'≤b.length∧at'≤2048∧Ow HD M3 M.next T hv l∧ae [br] M M3∧M3.heap br=some (X s)∧hloop b m at' l=hloop b 32 n []) _
  ⟨n,aH,[],rfl,rfl,n1,n2,.nil,k12,hX2,rfl⟩ ?_
 rintro next m ys M3 hnext ⟨at',hv',l,rfl,hlen,ha1,ha2,hO,k3,hX3,heq⟩
 simp only[aZ,bZ]
 have hv3:=hv.keep k3 (fun x hx hb=>by simp at hb; subst hb; exact hbv hx)
 refine hL (k3.base.trans hB) hv3 ha1 ha2 hl (fun t n' M4 e4 n41 n42 ht k4=>?_) (fun e M4 e4 he k4=>?_)
 rotate_left
 ·simp only[bn,bq,eO,gD]
  rw[show(((e:Nat) : Int) != 0)=true by rcases he with rfl | rfl <;> rfl,bP]
  refine hE e M4 (target (.error e) ?_) (by omega) (k3.trans (k4.mono (by simp)))
  rw[← heq,jA,e4]
 simp only[bn,bq,eO,Ay,aY,dQ]
 have hO4:Ow HD M4 M.next T hv' l:=hO.keep k4 (by simp)
 have k34:ae [br] M M4:=k3.trans (k4.mono (by simp))
 have hX4:=k4.aP hX3 (Nat.lt_of_lt_of_le hbr k3.next) (by simp)
 cases t with
 | nil =>
   rw[show(([] : List UInt8) == [])=true from rfl,bP]
   refine hQ s l n' hv' M4 (target (.ok (l,n')) ?_) n41 hs (by omega) k34 hX4 hO4
   rw[← heq,jA,e4]
 | cons t0 ts =>
   rw[show((t0 :: ts:List UInt8) == [])=false from rfl,aY,hO4.l8.len,aX]
   cases m with
   | zero =>
     rw[show((l.length:Int) == 32)=true by simp; omega,bP]
     refine hE 2 M4 (target (.error 2) ?_) (by omega) k34
     rw[← heq,jA,e4]
   | succ m =>
     rw[show((l.length:Int) == 32)=false by simp; omega,aY]
     have tail:∀ (a c:Str) (ok:Bool) (M5:RM),ae [] M4 M5→((ok=true∧eD (t0 :: ts)=some (a,c))∨(ok=false∧eD (t0 :: ts)=none)) →
       (aD (.tup [.agg [St a,St c],Bo ok]) 0 fun t46=>aD (.tup [.agg [St a,St c],Bo ok]) 1 fun t47 =>
        bg (.row [(St []),(St [])] false T 0) (fun b=>.ptr b 0) M5 fun t8 M_4=>aG M_4 t8 t46 2 fun M_5=>fQ t47 fun t49=>ax t49 ( Q (.tup [(.sc (.slice none 0 0)),(N .i64 0),(N .i64 14)]) M_5) ( bF M_5 t8 2 fun t51=>dC T 1 [(St []),(St [])] [(0,2,t51)] fun r f=>bg r f M_5 fun t52 M_6=>appW T 2 32 [(St []),(St [])] false hv' t52 M_6 fun t53 M_7=>next [t53,N .i64 (n' : Int)] M_7)):=by
      intro a c ok M5 k5 hr
      simp only[bn,bq,aT]
      have n5:(M5.push (.row [St [],St []] false T 0)).heap M5.next=some (.row [St [],St []] false T 0):=by simp[RM.push]
      rw[jH n5 (by rfl) (by rfl) (by rfl)]
      have k6:ae [] M5 ((M5.push (.row [St [],St []] false T 0)).put M5.next (.row [St a,St c] false T 0)):=((ae.refl _ _).push _).new _ (Nat.le_refl _)
      have n6:((M5.push (.row [St [],St []] false T 0)).put M5.next (.row [St a,St c] false T 0)).heap M5.next=some (.row [St a,St c] false T 0):=aN _
      generalize (M5.push (.row [St [],St []] false T 0)).put M5.next (.row [St a,St c] false T 0)=M6 at *
      have k46:ae [] M4 M6:=k5.trans k6
      rcases hr with⟨rfl,hh⟩ | ⟨rfl,hh⟩
      ·simp only[di,Bool.not_true,aY]
       rw[bW n6 (by rfl),yG (by rfl) (by rfl) (by rfl)]
       simp only[aT]
       refine yK (E:=HD) (a:=(a,c)) (hO4.keep k46 (by simp)) (Nat.le_trans (Nat.le_trans k34.next k46.next) (Nat.le_refl _)) (by decide) (by omega) (by omega) fun v7 M7 o7 k7 _ _=>?_
       have hb7:∀ x∈aL hv',x≠br:=fun x hx=>hbM x (hO4.blk x hx).1
       refine hnext m _ _ (by omega) ⟨n',v7,l++[(a,c)],rfl,by simp; omega,n41,n42,o7, ?_, ?_, ?_⟩
       ·have:=(k34.trans (k46.mono (by simp)))
        refine⟨k7.base.trans this.base,Nat.le_trans this.next k7.next,fun x hx hb=>?_⟩
        have hlt:=Nat.lt_of_lt_of_le hx this.next
        rw[k7.heap x hlt (fun h=>by have:=(hO4.blk x h).1; omega),this.heap x hx hb]
       ·have h6:=k46.aP hX4 (Nat.lt_of_lt_of_le hbr k34.next) (by simp)
        exact k7.aP h6 (Nat.lt_of_lt_of_le hbr (Nat.le_trans k34.next k46.next)) (fun h=>hb7 _ h rfl)
       ·rw[← heq,jA b (m + 1),e4]
        simp only[hh]
      ·simp only[di,Bool.not_false,bP]
       refine hE 14 M6 (target (.error 14) ?_) (by omega) (k34.trans (k46.mono (by simp)))
       rw[← heq,jA,e4]
       simp only[hh]
     refine hH (k34.base.trans hB) (by omega) (fun h M5 hh k5=>?_) (fun a c M5 hh k5=>?_)
     ·exact tail h.1 h.2 true M5 k5 (.inl ⟨rfl,hh⟩)
     ·exact tail a c false M5 k5 (.inr ⟨rfl,hh⟩)
def isNamed (n:Str) (h:Hd) : Bool:=low h.1 == low n
def bf (l:List Hd) (n:Str) : List Str:=(l.filter (isNamed n)).map (·.2)
theorem JZ {l:List Hd} {n:Str} {i:Nat} (hi:i<l.length) : bf (l.take (i + 1)) n=bf (l.take i) n++(if isNamed n l[i] then[l[i].2] else[]):=by
 unfold bf
 rw[List.take_succ_eq_append_getElem hi,List.filter_append,List.map_append]
 congr 1
 cases h:isNamed n l[i] <;> simp[h]
def Ch (T:Nat) (c:ai) : Prop:=∀ {M:RM} {v:AV} {l:List Hd} {n:Str} {Q:ah},Sl HD M v l→l.length≤1000000→(∀ h∈l,h.1.length<4611686018427387904)→n.length<4611686018427387904 →
 (∀ v' M',Ow mq M' M.next T v' (bf l n)→ae [] M M'→Q v' M')→c [v,St n] M Q
theorem JW {TH T:Nat} {cs:ai} (hs:Au cs) : Ch T fun args M Q=>∃ a0 a1,args=[a0,a1]∧lS TH cs T a0 a1 M Q:=by
 intro M v l n Q hv hl hnl hn hQ
 refine⟨_,_,rfl, ?_⟩
 unfold lS
 rw[aK.len hv]
 refine dL (fun m ys M3=>∃ (i:Nat) (o:AV),m=l.length - i∧ys=[o,N .i64 (i:Int)]∧i≤l.length∧Ow mq M3 M.next T o (bf (l.take i) n)∧ae [] M M3) _ ⟨0,aH,rfl,rfl,Nat.zero_le _,.nil,ae.refl _ _⟩ ?_
 rintro next m ys M3 hnext ⟨i,o,rfl,rfl,hi,hO,k3⟩
 simp only[aZ,bZ,vC]
 refine cO (fun h=>?_) fun h=>?_
 ·have hlt:i<l.length:=by simpa using h
  have hv3:Sl HD M3 v l:=aK.keep hv k3 (by simp)
  obtain⟨b,off,hb,_,hix,hld⟩:=hv3.at 2 (i:Int) hlt
  rw[nJ,hix,xM]
  refine⟨_,hld, ?_⟩
  simp only[aT]
  have n4:(M3.push (.row [St [],St []] false TH 0)).heap M3.next=some (.row [St [],St []] false TH 0):=by simp[RM.push]
  rw[jH n4 (by rfl) (by rfl) (by rfl)]
  have k4:ae [] M3 ((M3.push (.row [St [],St []] false TH 0)).put M3.next (.row (HD.cells l[i]) false TH 0)):=((ae.refl _ _).push _).new _ (Nat.le_refl _)
  have n5:((M3.push (.row [St [],St []] false TH 0)).put M3.next (.row (HD.cells l[i]) false TH 0)).heap M3.next=some (.row (HD.cells l[i]) false TH 0):=aN _
  have l5:M3.next<((M3.push (.row [St [],St []] false TH 0)).put M3.next (.row (HD.cells l[i]) false TH 0)).next:=by simp[RM.push,RM.put]
  generalize (M3.push (.row [St [],St []] false TH 0)).put M3.next (.row (HD.cells l[i]) false TH 0)=M4 at *
  rw[jd,aO n5 (by rfl:(HD.cells l[i])[0]?=some (St l[i].1))]
  refine hs (by have:=hnl l[i] (List.getElem_mem hlt); omega) fun M5 k5=>?_
  refine hs (by omega) fun M6 k6=>?_
  have k46:=k4.trans (k5.trans k6)
  have n6:=(k5.trans k6).aP n5 l5 (by simp)
  simp only[dQ,add1 (show i<4611686018427387904 by omega)]
  have nt:=JZ (n:=n) hlt
  refine cO (fun h=>?_) fun h=>?_
  ·have hin:isNamed n l[i]=true:=h
   rw[hin,if_pos rfl] at nt
   rw[jd,aO n6 (by rfl:(HD.cells l[i])[1]?=some (St l[i].2)),yG (by rfl) (by rfl) (by rfl)]
   simp only[aT]
   have hO6:Ow mq M6 M.next T o (bf (l.take i) n):=hO.keep k46 (by simp)
   have hlen:(bf (l.take i) n).length≤1000000:=by
    unfold bf
    rw[List.length_map]
    refine Nat.le_trans (List.length_filter_le _ _) ?_
    simp; omega
   refine yK (E:=mq) (a:=l[i].2) hO6 (Nat.le_trans k3.next k46.next) (by decide) (by omega) (by omega) fun v7 M7 o7 k7 _ _=>?_
   refine hnext _ _ _ (by omega) ⟨i + 1,v7,rfl,rfl,by omega,by rw[nt]; exact o7, ?_⟩
   have kk:=k3.trans k46
   refine⟨k7.base.trans kk.base,Nat.le_trans kk.next k7.next,fun x hx hb=>?_⟩
   rw[k7.heap x (Nat.lt_of_lt_of_le hx kk.next) (fun h=>by have:=(hO6.blk x h).1; omega),kk.heap x hx hb]
  ·have hin:isNamed n l[i]=false:=h
   rw[hin,if_neg (by decide),List.append_nil] at nt
   exact hnext _ _ _ (by omega) ⟨i + 1,o,rfl,rfl,by omega,by rw[nt]; exact hO.keep k46 (by simp),k3.trans k46⟩
 ·have:i=l.length:=by simp at h; omega
  subst this
  rw[List.take_length] at hO
  exact hQ o M3 hO k3
def jX:List Str→AV
 | []=>.tup [St [],Bo false]
 | s :: _=>.tup [St s,Bo true]
def IP (c:ai) : Prop:=∀ {M:RM} {v:AV} {l:List Hd} {n:Str} {Q:ah},Sl HD M v l→l.length≤1000000→(∀ h∈l,h.1.length<4611686018427387904)→n.length<4611686018427387904 →
 (∀ M',ae [] M M'→Q (jX (bf l n)) M')→c [v,St n] M Q
theorem I7 {T:Nat} {cn:ai} (hn:Ch T cn) : IP fun args M Q=>∃ a0 a1,args=[a0,a1]∧lJ cn a0 a1 M Q:=by
 intro M v l n Q hv hl h1 h2 hQ
 refine⟨_,_,rfl, ?_⟩
 unfold lJ
 refine hn hv hl h1 h2 fun v' M1 o k1=>?_
 have hs:Sl mq M1 v' (bf l n):=Own.l8 o
 rw[hs.len,ed]
 have hQ:=hQ M1 k1
 generalize bf l n=xs at *
 cases xs with
 | nil =>
   rw[show decide ((([] : List Str).length:Int) > 0)=false from rfl,aY]
   exact hQ
 | cons x xs =>
   rw[show decide (((x :: xs).length:Int) > 0)=true by simp,bP]
   obtain⟨b,o',_,_,hix,hld⟩:=hs.at 1 0 (i:=0) (by simp)
   rw[hix,dR]
   exact⟨_,dV.1 hld,hQ⟩
theorem Md {T:Nat} {cf:ai} (hf:IP cf) {M:RM} {x y v:AV} {tl:List AV} {l:List Hd} {n:Str} {Q:ah} (hv:Sl HD M v l) (hl:l.length≤1000000) (h1:∀ h∈l,h.1.length<4611686018427387904) (h2:n.length<4611686018427387904)
  (hc:(x :: y :: v :: tl).all oneCell=true) (hQ:∀ M',ae [] M M'→Q (jX (bf l n)) M') : iI T cf (.agg (x :: y :: v :: tl)) (St n) M Q:=by
 unfold iI
 rw[ku hc (by simp)]
 simp only[aT]
 have k1:ae [] M (M.push (.row (x :: y :: v :: tl) false T 0)):=(ae.refl _ _).push _
 have n1:(M.push (.row (x :: y :: v :: tl) false T 0)).heap M.next=some (.row (x :: y :: v :: tl) false T 0):=by simp[RM.push]
 rw[jd,aO n1 (by rfl:(x :: y :: v :: tl)[2]?=some v)]
 refine hf (aK.keep hv k1 (by simp)) hl h1 h2 fun M2 k2=>?_
 have:=hQ M2 (k1.trans k2)
 generalize bf l n=xs at *
 cases xs <;> simpa only[jX,bn,bq] using this
theorem KO {T:Nat} {cf:ai} (hf:IP cf) {M:RM} {x v:AV} {tl:List AV} {l:List Hd} {n:Str} {Q:ah} (hv:Sl HD M v l) (hl:l.length≤1000000) (h1:∀ h∈l,h.1.length<4611686018427387904) (h2:n.length<4611686018427387904)
  (hc:(x :: v :: tl).all oneCell=true) (hQ:∀ M',ae [] M M'→Q (jX (bf l n)) M') : ig T cf (.agg (x :: v :: tl)) (St n) M Q:=by
 unfold ig
 rw[ku hc (by simp)]
 simp only[aT]
 have k1:ae [] M (M.push (.row (x :: v :: tl) false T 0)):=(ae.refl _ _).push _
 have n1:(M.push (.row (x :: v :: tl) false T 0)).heap M.next=some (.row (x :: v :: tl) false T 0):=by simp[RM.push]
 rw[jd,aO n1 (by rfl:(x :: v :: tl)[1]?=some v)]
 refine hf (aK.keep hv k1 (by simp)) hl h1 h2 fun M2 k2=>?_
 have:=hQ M2 (k1.trans k2)
 generalize bf l n=xs at *
 cases xs <;> simpa only[jX,bn,bq] using this
def JK (B:Base) (c:ai) : Prop:=∀ {M:RM} {v w:AV} {s:Str} {Q:ah},M.base=B→Bs M v s→Bs M w [13,10]→s.length≤1000000000 →
 (∀ a r v1 v2,crlf s=some (a,r)→Bs M v1 a→Q (.tup [v1,v2,Bo true]) M)→(crlf s=none→Q (.tup [v,aH,Bo false]) M)→c [v,w] M Q
theorem q8 {s a r:Str} (h:crlf s=some (a,r)) : s=a++13 :: 10 :: r∧a.length + 2 + r.length=s.length:=by
 rcases uX s with⟨h1,_⟩ | ⟨a',r',h1,_,h3⟩
 ·rw[h] at h1; cases h1
 ·rw[h] at h1; cases h1
  refine⟨h3, ?_⟩
  rw[h3]; simp; omega
theorem Lt {B:Base} {ci:ai} (hi:Ba B ci) : JK B fun args M Q=>∃ a0 a1,args=[a0,a1]∧tN ci a0 a1 M Q:=by
 intro M v w s Q hB hv hw hl hQ hN
 refine⟨_,_,rfl, ?_⟩
 unfold tN
 refine hi hB hv hw hl ?_
 rcases uX s with⟨e1,e2⟩ | ⟨a,r,e1,e2,e3⟩
 ·rw[e2,dx,show decide ((-1:Int) ≥ 0)=false from rfl,aY]
  exact hN e1
 ·have hal:=(q8 e1).2
  rw[e2,dx,show decide ((a.length:Int) ≥ 0)=true by simp,bP]
  refine hv.sub (Gr 0) (kR _ _ _) (Nat.zero_le _) (by omega) fun v1 hv1 _=>?_
  rw[hw.len,addN (show a.length + ([13,10] : Str).length<4611686018427387904 by simp; omega)]
  refine hv.sub (kR _ _ _) (Gr _) (by simp; omega) (Nat.le_refl _) fun v2 hv2 _=>?_
  refine hQ a r v1 v2 e1 ?_
  have:(s.drop 0).take (a.length - 0)=a:=by rw[e3]; simp
  rw[this] at hv1; exact hv1
def lQ (x:UInt8) : Nat:=if x.toNat≤57 then x.toNat - 48 else if x.toNat≤90 then x.toNat - 55 else x.toNat - 87
def kF (s:Str) : Nat:=s.foldl (fun n x=>n * 16 + lQ x) 0
def gI (s:Str) : Nat:=s.foldl (fun n x=>n * 10 + (x.toNat - 48)) 0
def Dh (c:ai) : Prop:=∀ {M:RM} {s:Str} {Q:ah},1≤s.length→s.length≤8→(low s).all jW=true→(∀ M',ae [] M M'→Q (.tup [N .u64 (kF s:Int),.sc .nilIface]) M')→c [St s,N .i64 16,N .i64 64] M Q
def JQ (c:ai) : Prop:=∀ {M:RM} {s:Str} {Q:ah},1≤s.length→s.length≤9→s.all dI=true→(∀ M',ae [] M M'→Q (.tup [N .i64 (gI s:Int),.sc .nilIface]) M')→c [St s] M Q
theorem He {x:UInt8} (h:jW (bJ x)=true) : lQ x<16:=by
 unfold jW dI at h
 unfold lQ
 simp only[Bool.or_eq_true,Bool.and_eq_true,decide_eq_true_eq] at h
 have hx:=yQ x
 have hl:(bJ x).toNat=x.toNat∨((bJ x).toNat=x.toNat + 32∧65≤x.toNat∧x.toNat≤90):=by
  unfold bJ
  split
  ·right
   refine⟨?_,by omega,by omega⟩
   rw[UInt8.toNat_add]
   show(x.toNat + 32) % 256=_
   omega
  ·exact .inl rfl
 split
 ·omega
 ·split <;> omega
theorem Fu:∀ (s:Str) (n:Nat),(low s).all jW=true→s.foldl (fun n x=>n * 16 + lQ x) n<(n + 1) * 16 ^ s.length
 | [],n,_=>by simp
 | x :: s,n,h=>by
   simp only[low,List.map_cons,List.all_cons,Bool.and_eq_true] at h
   have hd:=He h.1
   have:=Fu s (n * 16 + lQ x) h.2
   rw[List.foldl_cons]
   refine Nat.lt_of_lt_of_le this ?_
   rw[List.length_cons,Nat.pow_succ,Nat.mul_comm (16 ^ s.length) 16,← Nat.mul_assoc]
   exact Nat.mul_le_mul_right _ (by omega)
theorem Ii {s:Str} (h:(low s).all jW=true) (hl:s.length≤8) : kF s<4294967296:=by
 have:=Fu s 0 h
 unfold kF
 refine Nat.lt_of_lt_of_le this ?_
 rw[Nat.zero_add,Nat.one_mul]
 exact Nat.le_trans (Nat.pow_le_pow_right (by decide) hl) (by decide)
def oJ (s:Str) : Bool:=gT s 1 8 && (low s).all jW
def om (r:Str) : Except Nat (Nat × Str):=match crlf r with
 | none=>match Nat.blt 10 r.length with
   | true=>.error 14
   | false=>.error 15
 | some p=>match oJ p.1 with
   | true=>.ok (kF p.1,p.2)
   | false=>.error 14
def JG (B:Base) (c:ai) : Prop:=∀ {M:RM} {v:AV} {b:Str} {at' : Nat} {Q:ah},M.base=B→Bs M v b→at'≤b.length→b.length≤1000000000 →
 (∀ n r at2 M',om (b.drop at')=.ok (n,r)→at2≤b.length→at' + 2<at2→b.drop at2=r→n<4294967296→ae [] M M'→Q (.tup [N .i64 (n:Int),N .i64 (at2:Int),N .i64 0]) M') →
 (∀ (e:Nat) M',om (b.drop at')=.error e→(e=14∨e=15)→ae [] M M'→Q (.tup [N .i64 0,N .i64 0,N .i64 (e:Int)]) M')→c [v,N .i64 (at' : Int)] M Q
theorem KG {B:Base} {T g:Nat} {cc cw cs ca cp:ai} (hc:JK B cc) (hw:qb cw) (hs:Au cs) (ha:kU jW (.fn (.func g) [] []) ca) (hp:Dh cp) :
  JG B fun args M Q=>∃ a0 a1,args=[a0,a1]∧mJ T cc cw cs ca g cp a0 a1 M Q:=by
 intro M v b at' Q hB hv h1 hl hQ hE
 refine⟨_,_,rfl, ?_⟩
 unfold mJ
 refine hv.sub (kR _ _ _) (Gr _) h1 (Nat.le_refl _) fun v1 hv1 _=>?_
 have hd:(b.drop at').take (b.length - at')=b.drop at':=List.take_of_length_le (by simp)
 rw[hd] at hv1
 refine FU fun w M1 hw1 k1=>?_
 have hv2:=hv1.keep k1 (by simp)
 have hdl:(b.drop at').length=b.length - at':=by simp
 refine hc (k1.base.trans hB) hv2 hw1 (by rw[hdl]; omega) (fun a r u1 u2 hcr hu1=>?_) (fun hcr=>?_)
 ·have hlen:=(q8 hcr).2
  simp only[bn,bq,eO,di,Bool.not_true,dB,fU,dK,aY]
  rw[hu1.str]
  refine hw ?_
  simp only[di]
  -- the two tests
  have tail:∀ M2,ae [] M M2→Bs M2 u1 a→((ax (Bo (!oJ a)) (Q (.tup [(N .i64 0),(N .i64 0),(N .i64 14)]) M2) (
    dM M2 u1 fun t44=>cp [t44,(N .i64 16),(N .i64 64)] M2 fun t45 Aj=>aD t45 0 fun t46=>aD t45 1 fun t47=>gZ .i64 t46 fun t49=>aR u1 fun t52=>af .add (N .i64 (at' : Int)) t52 fun t53=>af .add t53 (N .i64 2) fun t54=>Q (.tup [t49,t54,(N .i64 0)]) Aj))):=by
   intro M2 k2 hu2
   refine cO (fun h=>?_) fun h=>?_
   ·have hk:oJ a=false:=by simpa using h
    exact hE 14 M2 (by unfold om; rw[hcr]; simp only[hk]) (.inl rfl) k2
   ·have hk:oJ a=true:=by simpa using h
    have hk':=hk
    unfold oJ gT at hk'
    simp only[Bool.and_eq_true,decide_eq_true_eq] at hk'
    rw[hu2.str]
    refine hp (by omega) (by omega) hk'.2 fun M3 k3=>?_
    have hlt:=Ii hk'.2 (by omega)
    simp only[bn,bq,kG]
    rw[gQ (by omega) (by omega),hu2.len,addN (by omega),show(N .i64 2)=(N .i64 ((2:Nat) : Int)) from rfl,addN (by omega)]
    refine hQ (kF a) r (at' + a.length + 2) M3 (by unfold om; rw[hcr]; simp only[hk]) (by omega) (by omega) ?_ hlt (k2.trans k3)
    have e3:=(q8 hcr).1
    rw[show at' + a.length + 2=at' + (a.length + 2) by omega,← List.drop_drop,e3,← List.drop_drop]
    simp
  cases hwi:gT a 1 8 with
  | false =>
    simp only[Bool.not_false,eX,cZ]
    have:=tail M1 k1 hu1
    unfold oJ at this
    rw[hwi] at this
    simpa only[Bool.false_and,Bool.not_false] using this
  | true =>
    simp only[Bool.not_true,dN,dK]
    rw[hu1.str]
    refine hs (by omega) fun M2 k2=>?_
    refine ha (by rw[low,List.length_map]; omega) fun M3 k3=>?_
    have k23:=k2.trans k3
    have:=tail M3 (k1.trans k23) (hu1.keep k23 (by simp))
    unfold oJ at this
    rw[hwi] at this
    simpa only[di,Bool.true_and,dK] using this
 ·simp only[bn,bq,eO,di,Bool.not_false,dB,bR,cZ]
  rw[hv2.len,ed,hdl]
  by_cases h10:10<b.length - at'
  ·rw[show decide (((b.length - at' : Nat) : Int) > 10)=true by simp; omega,bP]
   exact hE 14 M1 (by unfold om; rw[hcr]; simp only[hdl]; rw[show Nat.blt 10 (b.length - at')=true by rw[Nat.blt_eq]; exact h10]) (.inl rfl) k1
  ·rw[show decide (((b.length - at' : Nat) : Int) > 10)=false by simp; omega,aY,bP]
   refine hE 15 M1 ?_ (.inr rfl) k1
   unfold om; rw[hcr]; simp only[hdl]
   have:Nat.blt 10 (b.length - at')=false:=by
    cases h:Nat.blt 10 (b.length - at')
    ·rfl
    ·rw[Nat.blt_eq] at h; exact absurd h h10
   rw[this]
end Go.Ab.Hw
namespace Go.Ab.Hw
open Go Go.Ab Go.Ab.Sm
theorem ae.own {bs:List Nat} {M M1 M2:RM} {v:AV} (k1:ae bs M M1) (k2:ae (aL v) M1 M2) (hv:∀ b∈aL v,M.next≤b) : ae bs M M2 :=
 ⟨k2.base.trans k1.base,Nat.le_trans k1.next k2.next,fun x hx hb=>by
  rw[k2.heap x (Nat.lt_of_lt_of_le hx k1.next) (fun h=>by have:=hv x h; omega),k1.heap x hx hb]⟩
def dP:Nat→Str→Str→Except Nat (Str × Str)
 | 0,_,_=>.error 99
 | f + 1,r,out=>match om r with
   | .error e=>.error e
   | .ok (n,r1)=>match Nat.blt (16384 - out.length) n with
     | true=>.error 2
     | false=>match Nat.blt r1.length (n + 2) with
       | true=>.error 15
       | false=>match (r1.drop n).take 2 == [13,10] with
         | false=>.error 14
         | true=>match Nat.beq n 0 with
           | true=>.ok (out,r1.drop 2)
           | false=>dP f (r1.drop (n + 2)) (out++r1.take n)
theorem BZ {a b:Nat} (h:a<b) : Nat.blt a b=true:=by rw[Nat.blt_eq]; exact h
theorem kJ {a b:Nat} (h:¬ a<b) : Nat.blt a b=false:=by
 cases e:Nat.blt a b
 ·rfl
 ·rw[Nat.blt_eq] at e; exact absurd e h
theorem PW {n:Nat} (h:n≠0) : Nat.beq n 0=false:=by cases n <;> first | exact absurd rfl h | rfl
theorem KP {r r1:Str} {n:Nat} (h:om r=.ok (n,r1)) : r1.length + 2<r.length:=by
 unfold om at h
 split at h
 ·split at h <;> cases h
 ·rename_i p hp
  obtain⟨a,q⟩:=p
  have:=(q8 hp).2
  split at h
  ·rename_i hk
   cases h
   unfold oJ gT at hk
   simp only[Bool.and_eq_true,decide_eq_true_eq] at hk
   show q.length + 2<r.length
   omega
  ·cases h
theorem xS:∀ (f g:Nat) (r out:Str),r.length<f→r.length<g→dP f r out=dP g r out
 | 0,_,_,_,h,_=>absurd h (by omega)
 | _,0,_,_,_,h=>absurd h (by omega)
 | f + 1,g + 1,r,out,h1,h2=>by
   rw[dP,dP]
   cases hs:om r with
   | error e=>rfl
   | ok p =>
     obtain⟨n,r1⟩:=p
     have:=KP hs
     dsimp only
     repeat' split
     all_goals first | rfl | skip
     exact xS f g _ _ (by simp; omega) (by simp; omega)
def zV (B:Base) (T:Nat) (c:ai) : Prop:=∀ {M:RM} {v:AV} {b:Str} {at' : Nat} {Q:ah},M.base=B→Bs M v b→at'≤b.length→b.length≤1000000000 →
 (∀ out r at2 ov M',dP (b.length - at' + 1) (b.drop at') []=.ok (out,r)→at2≤b.length→at'≤at2→b.drop at2=r→out.length≤16384→ae [] M M'→Ow BY M' M.next T ov out→Q (.tup [ov,N .i64 (at2:Int),N .i64 0]) M') →
 (∀ (e:Nat) M',dP (b.length - at' + 1) (b.drop at') []=.error e→(e=14∨e=15∨e=2)→ae [] M M'→Q (.tup [aH,N .i64 0,N .i64 (e:Int)]) M')→c [v,N .i64 (at' : Int)] M Q
theorem EY {B:Base} {T:Nat} {cs:ai} (hs:JG B cs) : zV B T fun args M Q=>∃ a0 a1,args=[a0,a1]∧jT cs T a0 a1 M Q:=by
 intro M v b at0 Q hB hv h0 hl hQ hE
 refine⟨_,_,rfl, ?_⟩
 unfold jT
 generalize hr0:dP (b.length - at0 + 1) (b.drop at0) []=target at *
 refine dL (fun m ys M3=>∃ (at' : Nat) (ov:AV) (out:Str),ys=[N .i64 (at' : Int),ov]∧at'≤b.length∧at0≤at'∧m=b.length - at'∧out.length≤16384∧Ow BY M3 M.next T ov out∧ae [] M M3∧dP (m + 1) (b.drop at') out=target) _
  ⟨at0,aH,[],rfl,h0,Nat.le_refl _,rfl,by simp,.nil,ae.refl _ _,hr0⟩ ?_
 rintro next m ys M3 hnext ⟨at',ov,out,rfl,h1,h2,rfl,hol,hO,k3,heq⟩
 simp only[aZ,bZ]
 have hv3:=hv.keep k3 (by simp)
 refine hs (k3.base.trans hB) hv3 h1 hl (fun n r at2 M4 e4 a1 a2 hr hn k4=>?_) (fun e M4 e4 he k4=>?_)
 rotate_left
 ·simp only[bn,bq,eO,gD]
  rw[show(((e:Nat) : Int) != 0)=true by rcases he with rfl | rfl <;> rfl,bP]
  refine hE e M4 ?_ (by omega) (k3.trans k4)
  rw[← heq,dP,e4]
 simp only[bn,bq,eO,Ay,aY]
 have hO4:Ow BY M4 M.next T ov out:=hO.keep k4 (by simp)
 have k34:=k3.trans k4
 have hv4:=hv3.keep k4 (by simp)
 rw[hO4.l8.len,show(N .i64 16384)=N .i64 ((16384:Nat) : Int) from rfl,FL hol (by omega),I8]
 have hrl:r.length=b.length - at2:=by rw[← hr]; simp
 refine cO (fun h=>?_) fun h=>?_
 ·have h:16384 - out.length<n:=by simpa using h
  refine hE 2 M4 ?_ (by omega) k34
  rw[← heq,dP,e4]
  simp only[BZ h]
 have hf1:¬ 16384 - out.length<n:=by simpa using h
 rw[show(N .i64 2)=N .i64 ((2:Nat) : Int) from rfl,addN (by omega),hv4.len,FL a1 (by omega),I8]
 refine cO (fun h=>?_) fun h=>?_
 ·have h:b.length - at2<n + 2:=by simpa using h
  refine hE 15 M4 ?_ (by omega) k34
  rw[← heq,dP,e4]
  simp only[kJ hf1,hrl,BZ h]
 have hf2:¬ b.length - at2<n + 2:=by simpa using h
 simp only[addN (show at2 + n<4611686018427387904 by omega),addN (show at2 + n + 2<4611686018427387904 by omega)]
 refine hv4.sub (kR _ _ _) (kR _ _ _) (by omega) (by omega) fun v5 hv5 _=>?_
 have hdr:(b.drop (at2 + n)).take (at2 + n + 2 - (at2 + n))=(r.drop n).take 2:=by
  rw[← hr,List.drop_drop,show at2 + n + 2 - (at2 + n)=2 by omega]
 rw[hdr] at hv5
 rw[hv5.str,zX]
 cases he2:(r.drop n).take 2 == [13,10] with
 | false =>
   rw[show((r.drop n).take 2 != [13,10])=true by unfold bne; rw[he2]; rfl,bP]
   refine hE 14 M4 ?_ (by omega) k34
   rw[← heq,dP,e4]
   simp only[kJ hf1,hrl,kJ hf2,he2]
 | true =>
   rw[show((r.drop n).take 2 != [13,10])=false by unfold bne; rw[he2]; rfl,aY]
   rw[show(N .i64 0)=N .i64 ((0:Nat) : Int) from rfl,TC]
   refine cO (fun h=>?_) fun h=>?_
   ·have h0:n=0:=by simpa using h
    subst h0
    refine hQ out (r.drop 2) (at2 + 0 + 2) ov M4 ?_ (by omega) (by omega) ?_ hol k34 hO4
    ·rw[← heq,dP,e4]
     simp only[kJ hf1,hrl,kJ hf2,he2]
     try rfl
    ·rw[← hr,List.drop_drop,Nat.add_zero]
   ·have hn0:n≠0:=by simpa using h
    refine hv4.sub (kR _ _ _) (kR _ _ _) (by omega) (by omega) fun v6 hv6 hsub6=>?_
    have htk:(b.drop at2).take (at2 + n - at2)=r.take n:=by rw[hr,Nat.add_sub_cancel_left]
    rw[htk] at hv6
    have htl:(r.take n).length=n:=by simp; omega
    refine nW (E:=BY) hO4 k34.next (by decide) hv6.sl (by rw[htl]; omega) (by rw[htl]; omega) fun v7 M7 o7 k7 _ _=>?_
    refine hnext _ _ _ (show b.length - (at2 + n + 2)<b.length - at' by omega) ⟨at2 + n + 2,v7,out++r.take n,rfl,by omega,by omega,rfl,by rw[List.length_append,htl]; omega,o7,ae.own k34 k7 (fun x hx=>(hO4.blk x hx).1), ?_⟩
    have hd:b.drop (at2 + n + 2)=r.drop (n + 2):=by rw[← hr,List.drop_drop,Nat.add_assoc]
    rw[← heq,hd]
    conv=>rhs; rw[dP,e4]
    simp only[kJ hf1,hrl,kJ hf2,he2,PW hn0]
    exact xS _ _ _ _ (by simp; omega) (by simp; omega)
end Go.Ab.Hw
set_option maxRecDepth 100000
namespace Go.Ab.Dot
open Go Go.Ab
def qN (p1:Nat) (a0:AV) (M0:RM) (Q:ah) : Prop:=gG false 2 a0 (.sc (.slice none 0 0)) fun h=>ax h ( Q (.sc (.slice none 0 0)) M0) ( dC p1 0 [(N .u8 0)] [] fun g e=>bg g e M0 fun i c=>appW p1 1 1 [(N .u8 0)] false i a0 c fun j d=>Q j d)
end Go.Ab.Dot
set_option maxRecDepth 10000
namespace Go.Ab.Hw
open Go Go.Ab Go.Ab.Sm
def Fj (T:Nat) (c:ai) : Prop:=∀ {M:RM} {v:AV} {s:Str} {Q:ah},Sl BY M v s→s.length≤1000000000→(∀ v' M',Ow BY M' M.next T v' s→ae [] M M'→Q v' M')→c [v] M Q
theorem J6 {T:Nat} : Fj T fun args M Q=>∃ a0,args=[a0]∧Go.Ab.Dot.qN T a0 M Q:=by
 intro M v s Q hv hl hQ
 refine⟨_,rfl, ?_⟩
 unfold Go.Ab.Dot.qN
 rcases aK.uK hv false with⟨rfl,he⟩ | ⟨hne,he⟩
 ·rw[he,show(!false)=true from rfl,bP]
  have:s=[]:=by
   unfold Sl at hv
   cases s with
   | nil=>rfl
   | cons x s=>generalize hcs:BY.row (x :: s)=cs at *; generalize hn:(x :: s).length=n at *; cases hv; cases hcs
  subst this
  exact hQ aH M .nil (ae.refl _ _)
 ·rw[he,aY,Ey]
  simp only[aT]
  have k1:ae [] M (M.push (.row [] false T 0)):=(ae.refl _ _).push _
  refine nW (E:=BY) (Ow.lit BY M) (by simp[RM.push]) (by decide) (aK.keep hv k1 (by simp)) (by simp; omega) (by simp; omega) fun v7 M7 o7 k7 _ _=>?_
  refine hQ v7 M7 (by simpa using o7) ?_
  refine ae.own k1 k7 (fun b hb=>?_)
  simp[aL] at hb; omega
abbrev ui:Str:=[116,114,97,110,115,102,101,114,45,101,110,99,111,100,105,110,103]
abbrev qz:Str:=[99,111,110,116,101,110,116,45,108,101,110,103,116,104]
abbrev Eb:Str:=[99,104,117,110,107,101,100]
def rX (v:Str) : Bool:=gT v 1 9 && v.all dI
def rU (r:Str) (l:List Hd) : Except Nat (Str × Str):=match bf l ui with
 | x :: xs=>match xs with
   | _ :: _=>.error 14
   | []=>match low x == Eb with
     | false=>.error 14
     | true=>match bf l qz with
       | _ :: _=>.error 14
       | []=>dP (r.length + 1) r []
 | []=>match bf l qz with
   | []=>.ok ([],r)
   | v :: vs=>match vs with
     | _ :: _=>.error 14
     | []=>match rX v with
       | false=>.error 14
       | true=>match Nat.blt 16384 (gI v) with
         | true=>.error 2
         | false=>match Nat.blt r.length (gI v) with
           | true=>.error 15
           | false=>.ok (r.take (gI v),r.drop (gI v))
def Ev (B:Base) (T:Nat) (c:ai) : Prop:=∀ {M:RM} {v hv:AV} {b:Str} {l:List Hd} {at' : Nat} {Q:ah},M.base=B→Bs M v b→at'≤b.length→b.length≤1000000000→Sl HD M hv l→l.length≤1000000→(∀ h∈l,h.1.length<4611686018427387904∧h.2.length<4611686018427387904) →
 (∀ out r at2 ov M',rU (b.drop at') l=.ok (out,r)→at2≤b.length→at'≤at2→b.drop at2=r→out.length≤16384→ae [] M M'→Ow BY M' M.next T ov out→Q (.tup [ov,N .i64 (at2:Int),N .i64 0]) M') →
 (∀ (e:Nat) M',rU (b.drop at') l=.error e→(e=14∨e=15∨e=2)→ae [] M M'→Q (.tup [aH,N .i64 0,N .i64 (e:Int)]) M')→c [v,N .i64 (at' : Int),hv] M Q
theorem Km {l:List Hd} {n s:Str} (h:s∈bf l n) : ∃ x∈l,x.2=s:=by
 unfold bf at h
 rw[List.mem_map] at h
 obtain⟨x,hx,e⟩:=h
 exact⟨x,(List.mem_filter.1 hx).1,e⟩
theorem ER:∀ (s:Str) (n:Nat),s.all dI=true→s.foldl (fun n x=>n * 10 + (x.toNat - 48)) n<(n + 1) * 10 ^ s.length
 | [],n,_=>by simp
 | x :: s,n,h=>by
   simp only[List.all_cons,Bool.and_eq_true] at h
   have hd:x.toNat - 48<10:=by
    have:=h.1
    unfold dI at this
    simp only[Bool.and_eq_true,decide_eq_true_eq] at this
    omega
   have:=ER s (n * 10 + (x.toNat - 48)) h.2
   rw[List.foldl_cons]
   refine Nat.lt_of_lt_of_le this ?_
   rw[List.length_cons,Nat.pow_succ,Nat.mul_comm (10 ^ s.length) 10,← Nat.mul_assoc]
   exact Nat.mul_le_mul_right _ (by omega)
theorem Ox {s:Str} (h:s.all dI=true) (hl:s.length≤9) : gI s<1000000000:=by
 have:=ER s 0 h
 unfold gI
 refine Nat.lt_of_lt_of_le this ?_
 rw[Nat.zero_add,Nat.one_mul]
 exact Nat.le_trans (Nat.pow_le_pow_right (by decide) hl) (by decide)
theorem Kn {B:Base} {T TS g:Nat} {cn cs cc cw ca ci cl:ai} (hn:Ch TS cn) (hs:Au cs) (hc:zV B T cc) (hw:qb cw) (ha:kU dI (.fn (.func g) [] []) ca) (hi:JQ ci) (hcl:Fj T cl) :
  Ev B T fun args M Q=>∃ a0 a1 a2,args=[a0,a1,a2]∧mY cn cs cc cw ca g ci cl a0 a1 a2 M Q:=by
 intro M v hv b l at' Q hB hb h1 hl hh hll hnl hQ hE
 refine⟨_,_,_,rfl, ?_⟩
 unfold mY
 have hval:∀ {n s},s∈bf l n→s.length<4611686018427387904:=fun hm=>by
  obtain⟨x,hx,rfl⟩:=Km hm
  exact(hnl x hx).2
 have hrl:(b.drop at').length=b.length - at':=by simp
 refine hn hh hll (fun h hx=>(hnl h hx).1) (by decide) fun v1 M1 o1 k1=>?_
 refine hn (aK.keep hh k1 (by simp)) hll (fun h hx=>(hnl h hx).1) (by decide) fun v2 M2 o2 k2=>?_
 have k12:=k1.trans k2
 have s1:Sl mq M2 v1 (bf l ui):=aK.keep (Own.l8 o1) k2 (by simp)
 have s2:Sl mq M2 v2 (bf l qz):=Own.l8 o2
 have Rc := @hval ui
 have Q5 := @hval qz
 unfold rU at hQ hE
 rw[hrl] at hQ hE
 change Sl mq M2 v1 (bf l ui) at s1
 generalize bf l ui=xs at *
 generalize bf l qz=ys at *
 rw[s1.len,ed]
 cases xs with
 | cons x xs =>
   rw[show decide (((x :: xs).length:Int) > 0)=true by simp,bP,s1.len,ed]
   simp only[dB]
   cases xs with
   | cons x2 xs =>
     rw[show decide (((x :: x2 :: xs).length:Int) > 1)=true by simp; omega]
     simp only[eX,cZ,bP]
     exact hE 14 M2 rfl (.inl rfl) k12
   | nil =>
     rw[show decide ((([x] : List Str).length:Int) > 1)=false from rfl]
     simp only[dN,dK]
     obtain⟨b0,o0,_,_,hix,hld⟩:=s1.at 1 0 (i:=0) (by simp)
     rw[hix,dR]
     refine⟨_,dV.1 hld, ?_⟩
     refine hs (by have:=Rc (List.mem_singleton.2 rfl); simpa using (by omega:x.length<9223372036854775807)) fun M3 k3=>?_
     simp only[List.getElem_cons_zero,zX]
     cases hlow:low x == Eb with
     | false =>
       rw[show(low x != Eb)=true by unfold bne; rw[hlow]; rfl]
       simp only[eX,cZ,bP]
       exact hE 14 M3 (by simp only[hlow]) (.inl rfl) (k12.trans k3)
     | true =>
       rw[show(low x != Eb)=false by unfold bne; rw[hlow]; rfl]
       simp only[dN,dK]
       have s23:Sl mq M3 v2 ys:=aK.keep s2 k3 (by simp)
       rw[s23.len,ed]
       cases ys with
       | cons y ys =>
         rw[show decide (((y :: ys).length:Int) > 0)=true by simp,bP]
         exact hE 14 M3 (by simp only[hlow]) (.inl rfl) (k12.trans k3)
       | nil =>
         rw[show decide ((([] : List Str).length:Int) > 0)=false from rfl,aY]
         have k13:=k12.trans k3
         refine hc (k13.base.trans hB) (hb.keep k13 (by simp)) h1 hl (fun out r at2 ov M4 e4 a1 a2 hr ho k4 o4=>?_) (fun e M4 e4 he k4=>?_)
         ·simp only[bn,bq,eO]
          exact hQ out r at2 ov M4 (by simp only[hlow]; exact e4) a1 a2 hr ho (k13.trans k4) (Own.mono o4 k13.next)
         ·simp only[bn,bq,eO]
          exact hE e M4 (by simp only[hlow]; exact e4) he (k13.trans k4)
 | nil =>
   rw[show decide ((([] : List Str).length:Int) > 0)=false from rfl,aY,s2.len,aX]
   cases ys with
   | nil =>
     rw[show((([] : List Str).length:Int) == 0)=true from rfl,bP]
     exact hQ [] (b.drop at') at' aH M2 rfl h1 (Nat.le_refl _) rfl (by simp) k12 .nil
   | cons y ys =>
     rw[show(((y :: ys).length:Int) == 0)=false by simp; omega,aY,s2.len,ed]
     simp only[dB]
     cases ys with
     | cons y2 ys =>
       rw[show decide (((y :: y2 :: ys).length:Int) > 1)=true by simp; omega]
       simp only[eX,cZ,bP]
       exact hE 14 M2 rfl (.inl rfl) k12
     | nil =>
       rw[show decide ((([y] : List Str).length:Int) > 1)=false from rfl]
       simp only[dN,dK]
       obtain⟨b0,o0,hb0,hb0v,hix,hld⟩:=s2.at 1 0 (i:=0) (by simp)
       have hc0:=dV.1 hld
       have hyl:y.length<4611686018427387904:=Q5 (List.mem_singleton.2 rfl)
       rw[hix,dR]
       refine⟨_,hc0, ?_⟩
       refine hw ?_
       simp only[List.getElem_cons_zero,di]
       have tail:∀ M3,ae [] M2 M3→ax (Bo (!rX y)) (Q (.tup [(.sc (.slice none 0 0)),(N .i64 0),(N .i64 14)]) M3) (
         bV v2 (N .i64 0) 1 fun t67=>aj M3 t67 fun t68=>ci [t68] M3 fun t69 Mt=>aD t69 0 fun t70=>aD t69 1 fun t71=>af .gtr t70 (N .i64 16384) fun t74=>ax t74 ( Q (.tup [(.sc (.slice none 0 0)),(N .i64 0),(N .i64 2)]) Mt) ( aR v fun t78=>af .sub t78 (N .i64 (at' : Int)) fun t80=>af .gtr t70 t80 fun t81=>ax t81 ( Q (.tup [(.sc (.slice none 0 0)),(N .i64 0),(N .i64 15)]) Mt) ( af .add (N .i64 (at' : Int)) t70 fun t86=>bI (dE 1 v (some (N .i64 (at' : Int))) (some t86) none) fun t87=>cl [t87] Mt fun t88 Ub=>af .add (N .i64 (at' : Int)) t70 fun t91=>Q (.tup [t88,t91,(N .i64 0)]) Ub))):=by
        intro M3 k3
        cases hok:rX y with
        | false =>
          simp only[Bool.not_false,bP]
          exact hE 14 M3 (by simp only[hok]) (.inl rfl) (k12.trans k3)
        | true =>
          have hok':=hok
          unfold rX gT at hok'
          simp only[Bool.and_eq_true,decide_eq_true_eq] at hok'
          simp only[Bool.not_true,aY]
          have s23:Sl mq M3 v2 [y]:=aK.keep s2 k3 (by simp)
          obtain⟨b3,o3,hb3,_,TW,Sz⟩:=s23.at 1 0 (i:=0) (by simp)
          rw[TW,dR]
          refine⟨_,dV.1 Sz, ?_⟩
          simp only[List.getElem_cons_zero]
          refine hi (by omega) (by omega) hok'.2 fun M4 k4=>?_
          have hlt:=Ox hok'.2 (by omega)
          have k14:=k12.trans (k3.trans k4)
          have hb4:=hb.keep k14 (by simp)
          simp only[bn,bq]
          rw[show(N .i64 16384)=N .i64 ((16384:Nat) : Int) from rfl,I8]
          refine cO (fun h=>?_) fun h=>?_
          ·have h:16384<gI y:=by simpa using h
           exact hE 2 M4 (by simp only[hok,BZ h]) (by omega) k14
          have hf1:¬ 16384<gI y:=by simpa using h
          rw[hb4.len,FL h1 (by omega),I8]
          refine cO (fun h=>?_) fun h=>?_
          ·have h:b.length - at'<gI y:=by simpa using h
           exact hE 15 M4 (by simp only[hok,kJ hf1,BZ h]) (by omega) k14
          have hf2:¬ b.length - at'<gI y:=by simpa using h
          simp only[addN (show at' + gI y<4611686018427387904 by omega)]
          refine hb4.sub (kR _ _ _) (kR _ _ _) (by omega) (by omega) fun v5 hv5 _=>?_
          rw[Nat.add_sub_cancel_left] at hv5
          refine hcl hv5.sl (by simp; omega) fun v6 M6 o6 k6=>?_
          exact hQ ((b.drop at').take (gI y)) ((b.drop at').drop (gI y)) (at' + gI y) v6 M6 (by simp only[hok,kJ hf1,kJ hf2]) (by omega) (by omega) (by rw[List.drop_drop]) (by simp; omega) (k14.trans k6) (Own.mono o6 k14.next)
       cases hwi:gT y 1 9 with
       | false =>
         simp only[Bool.not_false,eX,cZ]
         have:=tail M2 (ae.refl _ _)
         unfold rX at this
         rw[hwi] at this
         simpa only[Bool.false_and,Bool.not_false] using this
       | true =>
         simp only[Bool.not_true,dN,dK]
         rw[hix,dR]
         refine⟨_,hc0, ?_⟩
         simp only[List.getElem_cons_zero]
         refine ha hyl fun M3 k3=>?_
         have:=tail M3 k3
         unfold rX at this
         rw[hwi] at this
         simpa only[di,Bool.true_and,dK] using this
end Go.Ab.Hw
namespace Go.Ab.Hw
open Go Go.Ab Go.Ab.Sm
open Go.Ab.Vl (brk kP pz gy dU fI fe zR mh)
def J8 (c:UInt8) : List Str→List Str
 | []=>[[c]]
 | w :: ws=>(c :: w) :: ws
def words (x:UInt8) : Str→List Str
 | []=>[[]]
 | c :: t=>match c == x with
   | true=>[] :: words x t
   | false=>J8 c (words x t)
theorem NC (x:UInt8) (s:Str) : words x s≠[]:=by
 cases s with
 | nil=>simp[words]
 | cons c t =>
   unfold words
   split
   ·simp
   ·cases words x t <;> simp[J8]
theorem oI (x:UInt8) : ∀ s:Str,words x s=(match brk x s with | none=>[s] | some p=>p.1 :: words x p.2)
 | []=>rfl
 | c :: t=>by
   rw[words,brk]
   cases h:c == x
   ·have hc:¬ c=x:=by simpa using h
    rw[if_neg hc]
    dsimp only
    rw[oI x t]
    cases brk x t with
    | none=>rfl
    | some p=>rfl
   ·have hc:c=x:=by simpa using h
    rw[if_pos hc]
theorem rP {x:UInt8} : ∀ {s a b:Str},brk x s=some (a,b)→s.count x=b.count x + 1
 | [],_,_,h=>by simp[brk] at h
 | c :: t,a,b,h=>by
   rw[brk] at h
   split at h
   ·rename_i e; subst e; cases h; simp
   ·rename_i e
    cases hb:brk x t with
    | none=>rw[hb] at h; simp at h
    | some p =>
      rw[hb] at h
      simp only[Option.map_some,Option.some.injEq,Prod.mk.injEq] at h
      obtain⟨_,rfl⟩:=h
      rw[List.count_cons_of_ne e]
      exact rP (a:=p.1) (b:=p.2) hb
theorem C9 {x:UInt8} {s:Str} (h:brk x s=none) : s.count x=0:=by
 rcases Vl.uq x s with⟨_,_,h3⟩ | ⟨a,b,h1,_⟩
 ·exact List.count_eq_zero.2 h3
 ·rw[h] at h1; cases h1
theorem wS (x:UInt8) : ∀ (k:Nat) (s:Str),s.count x=k→Lib.splitK [x] 0 k s=words x s
 | 0,s,h=>by
   rw[oI]
   cases hb:brk x s with
   | none=>rfl
   | some p=>have:=rP (a:=p.1) (b:=p.2) hb; omega
 | k + 1,s,h=>by
   rw[oI,Lib.splitK,Lib.index_one]
   rcases Vl.uq x s with⟨h1,h2,_⟩ | ⟨a,b,h1,h2,h3,_⟩
   ·have:=C9 h1; omega
   ·have hn:((a.length:Int) == -1)=false:=by simp
    have hc:=rP h1
    rw[h1,h2,hn]
    simp only[Int.toNat_natCast,Nat.add_zero,List.length_cons,List.length_nil]
    rw[← wS x k b (by omega)]
    have e1:s.take a.length=a:=by rw[h3]; simp
    have e2:s.drop (a.length + (0 + 1))=b:=by rw[h3,← List.drop_drop]; simp
    rw[e1,e2]
    rfl
theorem si {x:UInt8} : ∀ {s w:Str},w∈words x s→w.length≤s.length
 | [],w,h=>by simp[words] at h; subst h; simp
 | c :: t,w,h=>by
   rw[words] at h
   split at h
   ·rcases List.mem_cons.1 h with rfl | h
    ·simp
    ·have:=si h; simp; omega
   ·cases hw:words x t with
    | nil=>exact absurd hw (NC x t)
    | cons v vs =>
      rw[hw] at h
      simp only[J8] at h
      rcases List.mem_cons.1 h with rfl | h
      ·have:=si (x:=x) (s:=t) (w:=v) (by rw[hw]; simp); simp; omega
      ·have:=si (x:=x) (s:=t) (w:=w) (by rw[hw]; simp[h]); simp; omega
def FE (B:Base) (T:Nat) (c:ai) : Prop:=∀ {M:RM} {s:Str} {Q:ah},M.base=B→s.length≤1000000→(∀ v M',Ow mq M' M.next T v (words 32 s)→ae [] M M'→Q v M')→c [St s,St [32]] M Q
abbrev Ct:Str:=[72,84,84,80,47,49,46,49]
def pR (m p v:Str) : Bool:=fJ m && gY p && (v == Ct)
def iT (s:Str) : Option (Str × Str):=match words 32 s with
 | [m,p,v]=>match pR m p v with
   | true=>some (m,p)
   | false=>none
 | _=>none
def rG (s:Str) : Bool:=(iT s).isSome
abbrev jh (T:Nat) (m p:Str) : RB:=.row [St m,St p,aH,aH] false T 0
def Ff (T:Nat) (s:Str) : RB:=match iT s with
 | some (m,p)=>jh T m p
 | none=>jh T [] []
theorem PH (l:List Str) : (∃ a b c,l=[a,b,c])∨l.length≠3:=by
 rcases l with _ | ⟨a,_ | ⟨b,_ | ⟨c,_ | ⟨d,l⟩⟩⟩⟩ <;> simp
theorem Ll {B:Base} {T TS br:Nat} {cs cm cp:ai} (hs:FE B TS cs) (hm:lI fJ cm) (hp:lI gY cp) {M:RM} {s:Str} {K:ah} (hB:M.base=B) (hbr:br<M.next) (hX:M.heap br=some (jh T [] []))
  (hl:s.length≤2048) (h0:rG s=false→∀ M',ae [br] M M'→K (Bo false) M') (h1:rG s=true→∀ M',ae [br] M M'→M'.heap br=some (Ff T s)→K (Bo true) M') : gU cs cm cp (St s) (.ptr br 0) M K:=by
 unfold gU
 refine hs hB (by omega) fun v M1 o1 k1=>?_
 have s1:Sl mq M1 v (words 32 s):=Own.l8 o1
 have hwl:∀ w∈words 32 s,w.length≤2048:=fun w hw=>Nat.le_trans (si hw) hl
 have kb:∀ {M'},ae [] M M'→ae [br] M M':=fun k=>k.mono (by simp)
 rw[s1.len]
 simp only[gD,dB]
 rcases PH (words 32 s) with⟨a,b,c,hw⟩ | hne
 ·have hq:iT s=if pR a b c then some (a,b) else none:=by
   unfold iT; rw[hw]; dsimp only; cases pR a b c <;> rfl
  rw[hw] at s1 hwl ⊢
  rw[show((([a,b,c] : List Str).length:Int) != 3)=false from rfl]
  simp only[dN,dK]
  have at_:∀ {M2:RM} (k:ae [] M1 M2) {K' : AV→Prop},(∀ x:AV,(bV v (N .i64 0) 1 fun t=>aj M2 t fun u=>K' u)=K' (St a))∧(∀ x:AV,(bV v (N .i64 1) 1 fun t=>aj M2 t fun u=>K' u)=K' (St b))∧(∀ x:AV,(bV v (N .i64 2) 1 fun t=>aj M2 t fun u=>K' u)=K' (St c)):=by
   intro M2 k K'
   have s2:Sl mq M2 v [a,b,c]:=aK.keep s1 k (by simp)
   obtain⟨b0,o0,_,_,hix,hld⟩:=s2.at 1 0 (i:=0) (by simp)
   obtain⟨b1,o1',_,_,MH,JR⟩:=s2.at 1 1 (i:=1) (by simp)
   obtain⟨b2,o2,_,_,Tm,RZ⟩:=s2.at 1 2 (i:=2) (by simp)
   refine⟨fun _=>?_,fun _=>?_,fun _=>?_⟩
   ·rw[hix,dR,dV.1 hld]; exact Dp _ _
   ·rw[MH,dR,dV.1 JR]; exact Dp _ _
   ·rw[Tm,dR,dV.1 RZ]; exact Dp _ _
  have tail:∀ M2,ae [] M1 M2→(ax (Bo (!pR a b c)) (K (Bo false) M2) (
    bV v (N .i64 0) 1 fun t31=>aj M2 t31 fun t32=>bV v (N .i64 1) 1 fun t34=>aj M2 t34 fun t35=>aS (.ptr br 0) 0 fun t36=>aG M2 t36 t32 1 fun Qv=>aj Qv t34 fun PU=>(PU=t35∧aS (.ptr br 0) 1 fun t37=>aG Qv t37 t35 1 fun SC=>K (Bo true) SC))):=by
   intro M2 k2
   have k02:ae [] M M2:=k1.trans k2
   refine cO (fun h=>?_) fun h=>?_
   ·have hk:pR a b c=false:=by simpa using h
    exact h0 (by unfold rG; rw[hq,hk]; rfl) M2 (kb k02)
   ·have hk:pR a b c=true:=by simpa using h
    have X2:=k02.aP hX hbr (by simp)
    have s2:Sl mq M2 v [a,b,c]:=aK.keep s1 k2 (by simp)
    rw[((at_ k2).1 aH)]
    obtain⟨b1,o1',hb1,TG,MH,JR⟩:=s2.at 1 1 (i:=1) (by simp)
    have hvn:=(o1.blk b1 TG).1
    rw[MH,dR]
    refine⟨_,dV.1 JR, ?_⟩
    simp only[List.getElem_cons_succ,List.getElem_cons_zero]
    rw[jd,fP [St a,St [],aH,aH] X2 (by simp) rfl rfl rfl,dR]
    have k3:ae [br] M2 (M2.put br (.row [St a,St [],aH,aH] false T 0)):=(ae.refl _ _).put _ (.inr (by simp))
    have hne:b1≠br:=fun e=>by omega
    refine⟨St b, ?_,rfl, ?_⟩
    ·have hcell:M2.cell b1 o1'=some (St b):=dV.1 JR
     rw[← hcell]
     unfold RM.cell
     rw[RM.qZ,RM.qZ,k3.heap b1 hb1 (by simpa using hne)]
     rfl
    rw[jd,fP [St a,St b,aH,aH] (aN _) (by simp) rfl rfl rfl]
    refine h1 (by unfold rG; rw[hq,hk]; rfl) _ ((kb k02).trans (k3.trans ((ae.refl _ _).put _ (.inr (by simp))))) ?_
    rw[aN]
    unfold Ff; rw[hq,hk]; rfl
  have ha:=hwl a (by simp)
  have hb:=hwl b (by simp)
  rw[((at_ (ae.refl _ _)).1 aH)]
  refine hm (by omega) fun M2 k2=>?_
  simp only[di]
  unfold pR at tail
  cases hgm:fJ a with
  | false =>
    simp only[Bool.not_false,eX,cZ]
    have:=tail M2 k2
    simpa only[hgm,Bool.false_and,Bool.not_false] using this
  | true =>
    simp only[Bool.not_true,dN,dK]
    rw[((at_ k2).2.1 aH)]
    refine hp (by omega) fun M3 k3=>?_
    have k13:=k2.trans k3
    simp only[di]
    cases hgp:gY b with
    | false =>
      simp only[Bool.not_false,eX,cZ]
      have:=tail M3 k13
      simpa only[hgm,hgp,Bool.false_and,Bool.and_false,Bool.not_false] using this
    | true =>
      simp only[Bool.not_true,dN,dK]
      rw[((at_ k13).2.2 aH),zX]
      have:=tail M3 k13
      simpa only[hgm,hgp,Bool.true_and,bne] using this
 ·have hq:iT s=none:=by
   unfold iT
   split
   ·rename_i m p v hw; rw[hw] at hne; exact absurd rfl hne
   ·rfl
  rw[show(((words 32 s).length:Int) != 3)=true by
   simp only[bne_iff_ne,ne_eq]
   omega]
  simp only[eX,cZ,bP]
  exact h0 (by unfold rG; rw[hq]; rfl) M1 (kb k1)
abbrev F5:Str:=[72,84,84,80,47,49,46,49,32]
def og (s:Str) : Str:=if pre F5 s then s.drop 9 else s
def FB (s:Str) : Bool:=!pre F5 s || decide (((og s).length:Int)<4)
def IV (s:Str) : Bool:=FB s || !((og s).take 3).all dI
def Kh (s:Str) : Bool:=IV s || ((((og s).getD 3 0).toNat:Int) != 32)
def Nk (s:Str) : Bool:=Kh s || !((og s).drop 3).all p32
def codeOf (s:Str) : Nat:=gI ((og s).take 3)
def pU (s:Str) : Bool:=!Nk s && (decide ((codeOf s:Int) ≥ 100) && decide ((codeOf s:Int)≤599))
abbrev gM (T:Nat) (n:Int) : RB:=.row [N .i64 n,aH,aH] false T 0
def Ew (T:Nat) (s:Str) : RB:=gM T (codeOf s)
theorem JF {T br g1 g2:Nat} {cc ca ci:ai} (hc:qf cc) (ha1:kU dI (.fn (.func g1) [] []) ca) (ha2:kU p32 (.fn (.func g2) [] []) ca) (hi:JQ ci) {M:RM} {s:Str} {K:ah} (hbr:br<M.next)
  (hX:M.heap br=some (gM T 0)) (hl:s.length≤2048) (h0:pU s=false→∀ M',ae [br] M M'→K (Bo false) M') (h1:pU s=true→∀ M',ae [br] M M'→M'.heap br=some (Ew T s)→K (Bo true) M') :
  gJ cc ca g1 g2 ci (St s) (.ptr br 0) M K:=by
 unfold gJ
 refine hc ?_
 have kb:∀ {M'},ae [] M M'→ae [br] M M':=fun k=>k.mono (by simp)
 have hrl:(og s).length≤s.length:=by unfold og; split <;> simp
 have e9:wN F5 s=.tup [St (og s),Bo (pre F5 s)]:=by
  unfold wN og; cases pre F5 s <;> rfl
 rw[e9]
 simp only[bn,bq,di,dB]
 generalize hr:og s=r at *
 have hb1:FB s=(!pre F5 s || decide ((r.length:Int)<4)):=by unfold FB; rw[hr]
 have hb2:IV s=(FB s || !(r.take 3).all dI):=by unfold IV; rw[hr]
 have hb3:Kh s=(IV s || (((r.getD 3 0).toNat:Int) != 32)):=by unfold Kh; rw[hr]
 have hb4:Nk s=(Kh s || !(r.drop 3).all p32):=by unfold Nk; rw[hr]
 have IY:FB s=false→4≤r.length:=fun h=>by
  rw[hb1] at h
  simp only[Bool.or_eq_false_iff,decide_eq_false_iff_not] at h
  omega
 refine Ai (P:=ae [] M) (p:=decide ((r.length:Int)<4)) (ae.refl _ _) (fun _ k hk=>?_) fun M1 k1=>?_
 ·simpa only[go_sem] using hk M (ae.refl _ _)
 rw[← hb1]
 refine Ai (P:=ae [] M) (p:=!(r.take 3).all dI) k1 (fun hf k hk=>?_) fun M2 k2=>?_
 ·have:=IY hf
  rw[show(N .i64 3)=N .i64 ((3:Nat) : Int) from rfl,fe (by omega)]
  simp only[eB]
  refine ha1 (by simp; omega) fun M2 k2=>?_
  simp only[di]
  exact hk M2 (k1.trans k2)
 rw[← hb2]
 refine Ai (P:=ae [] M) (p:=(((r.getD 3 0).toNat:Int) != 32)) k2 (fun hf k hk=>?_) fun M3 k3=>?_
 ·have:=IY (by rw[hb2,Bool.or_eq_false_iff] at hf; exact hf.1)
  rw[show(N .i64 3)=N .i64 ((3:Nat) : Int) from rfl,mh (by omega),gD]
  have:r.getD 3 0=r[3]:=by simp[List.getD_eq_getElem?_getD,List.getElem?_eq_getElem (show 3<r.length by omega)]
  rw[this] at hk
  exact hk _ k2
 rw[← hb3]
 refine Ai (P:=ae [] M) (p:=!(r.drop 3).all p32) k3 (fun hf k hk=>?_) fun M4 k4=>?_
 ·have:=IY (by
   rw[hb3,Bool.or_eq_false_iff] at hf
   have:=hf.1
   rw[hb2,Bool.or_eq_false_iff] at this; exact this.1)
  rw[show(N .i64 3)=N .i64 ((3:Nat) : Int) from rfl,dU (by omega)]
  simp only[eB]
  refine ha2 (by simp; omega) fun M2 k2=>?_
  simp only[di]
  exact hk M2 (k3.trans k2)
 rw[← hb4]
 refine cO (fun h=>?_) fun h=>?_
 ·exact h0 (by unfold pU; rw[h]; rfl) M4 (kb k4)
 ·have h':=h
  rw[hb4,Bool.or_eq_false_iff] at h'
  have h'':=h'.1
  rw[hb3,Bool.or_eq_false_iff] at h''
  have h3:=h''.1
  rw[hb2,Bool.or_eq_false_iff] at h3
  have hd:(r.take 3).all dI=true:=by simpa using h3.2
  have l4:=IY h3.1
  rw[show(N .i64 3)=N .i64 ((3:Nat) : Int) from rfl,fe (by omega)]
  simp only[eB]
  refine hi (by simp; omega) (by simp; omega) hd fun M5 k5=>?_
  have X5:=(k4.trans k5).aP hX hbr (by simp)
  have hcode:codeOf s=gI (r.take 3):=by unfold codeOf; rw[hr]
  rw[← hcode]
  simp only[bn,bq]
  rw[jd,fP [N .i64 (codeOf s:Int),aH,aH] X5 (by simp) rfl rfl rfl]
  have k6:ae [br] M (M5.put br (.row [N .i64 (codeOf s:Int),aH,aH] false T 0)):=(kb (k4.trans k5)).put _ (.inr (by simp))
  have X6:(M5.put br (.row [N .i64 (codeOf s:Int),aH,aH] false T 0)).heap br=some (Ew T s):=aN _
  generalize M5.put br (.row [N .i64 (codeOf s:Int),aH,aH] false T 0)=M6 at *
  have ld:∀ {K' : AV→Prop},aj M6 (.ptr br 0) K'=K' (N .i64 (codeOf s:Int)):=fun {K'} => aO X6 rfl
  rw[jd,ld,dx]
  try simp only[dB]
  refine ou (p:=decide ((codeOf s:Int)≤599)) (fun _ k hk=>?_) ?_
  ·rw[jd,ld]
   simpa only[go_sem] using hk
  ·have hp:pU s=(decide ((codeOf s:Int) ≥ 100) && decide ((codeOf s:Int)≤599)):=by unfold pU; rw[h]; rfl
   rw[← hp]
   cases hv:pU s with
   | false=>exact h0 hv _ k6
   | true=>exact h1 hv _ k6 X6
theorem GN {s:Str} {h:Hd} (e:eD s=some h) : h.1.length≤s.length∧h.2.length≤s.length:=by
 unfold eD at e
 split at e
 ·cases e
 ·rename_i a b hb
  have:=Im hb
  have:=DD b
  split at e
  ·cases e; exact⟨by show a.length≤_; omega,by show(trimB b).length≤_; omega⟩
  ·cases e
theorem KL {b s:Str} {at' n:Nat} (e:lG b at'=.ok (s,n)) : s.length≤2048:=by
 unfold lG at e
 split at e
 ·rename_i p hp
  cases e
  obtain⟨a,r⟩:=p
  have:=(q8 hp).2
  simp at this
  show a.length≤2048
  omega
 ·split at e <;> cases e
theorem KS (b:Str) : ∀ (f at' : Nat) (l l' : List Hd) (n:Nat),(∀ h∈l,h.1.length≤2048∧h.2.length≤2048)→hloop b f at' l=.ok (l',n)→∀ h∈l',h.1.length≤2048∧h.2.length≤2048:=by
 intro f
 induction f with
 | zero =>
   intro at' l l' n hl e
   rw[jA] at e
   split at e
   ·cases e
   ·split at e
    ·cases e; exact hl
    ·cases e
 | succ f ih =>
   intro at' l l' n hl e
   rw[jA] at e
   split at e
   ·cases e
   ·rename_i s n' hL
    split at e
    ·cases e; exact hl
    ·dsimp only at e
     split at e
     ·cases e
     ·rename_i h hh
      refine ih _ _ _ _ (fun x hx=>?_) e
      rcases List.mem_append.1 hx with hx | hx
      ·exact hl x hx
      ·have:x=h:=by simpa using hx
       subst this
       have h1:=GN hh
       have h2:=KL hL
       exact⟨by omega,by omega⟩
theorem D8 {p:Str→Bool} {b s:Str} {l:List Hd} {n:Nat} (e:headD p b=.ok (s,l,n)) : (∀ h∈l,h.1.length≤2048∧h.2.length≤2048)∧p s=true:=by
 unfold headD at e
 split at e
 ·cases e
 ·split at e
  ·cases e
  ·split at e
   ·cases e
   ·rename_i hh
    cases e
    exact⟨KS b _ _ _ _ _ (by simp) hh,by assumption⟩
def iX (b:Str) : Except Nat ((Str × Str × List Hd × Str) × Str):=match headD rG b with
 | .error e=>.error e
 | .ok (s,l,at')=>match rU (b.drop at') l with
   | .error e=>.error e
   | .ok (out,r)=>match iT s with
     | some (m,p)=>.ok ((m,p,l,out),r)
     | none=>.error 14
def Gc (B:Base) (TH T8:Nat) (c:ai) : Prop:=∀ {M:RM} {v:AV} {b:Str} {Q:ah},M.base=B→Bs M v b→b.length≤1000000000 →
 (∀ m p l out r at2 hv ov M',iX b=.ok ((m,p,l,out),r)→at2≤b.length→b.drop at2=r→out.length≤16384→l.length≤32→(∀ h∈l,h.1.length≤2048∧h.2.length≤2048)→ae [] M M'→Ow HD M' M.next TH hv l→Ow BY M' M.next T8 ov out →
  Q (.tup [.agg [St m,St p,hv,ov],N .i64 (at2:Int),N .i64 0]) M') →
 (∀ (e:Nat) M',iX b=.error e→(e=14∨e=15∨e=2)→ae [] M M'→Q (.tup [.agg [St [],St [],aH,aH],N .i64 0,N .i64 (e:Int)]) M')→c [v] M Q
theorem qD {br:Nat} {M M0 M1:RM} (k0:ae [] M M0) (h:ae [br] M0 M1) (hb:M.next≤br) : ae [] M M1 :=
 ⟨h.base.trans k0.base,Nat.le_trans k0.next h.next,fun x hx _=>by rw[h.heap x (Nat.lt_of_lt_of_le hx k0.next) (fun e=>by simp at e; omega),k0.heap x hx (by simp)]⟩
theorem Bs.lt {M:RM} {v:AV} {b:Str} (h:Bs M v b) : ∀ x∈aL v,x<M.next:=aK.lt h.sl
theorem F7 {B:Base} {T TH T8 g:Nat} {ch cb:ai} (hH:∀ br,Et B (.fn (.func g) [] [.ptr br 0]) rG br (jh T [] []) (Ff T) TH ch) (hb:Ev B T8 cb) : Gc B TH T8 fun args M Q=>∃ a0,args=[a0]∧iN T g ch cb a0 M Q:=by
 intro M v b Q hB hv hl hQ hE
 refine⟨_,rfl, ?_⟩
 unfold iN
 simp only[aT]
 have k0:ae [] M ((M.push (jh T [] [])).push (jh T [] [])):=((ae.refl _ _).push _).push _
 have a2:((M.push (jh T [] [])).push (jh T [] [])).heap M.next=some (jh T [] []):=by simp[RM.push]
 have a5:((M.push (jh T [] [])).push (jh T [] [])).heap (M.push (jh T [] [])).next=some (jh T [] []):=by simp[RM.push]
 have e5:(M.push (jh T [] [])).next=M.next + 1:=rfl
 have n0:((M.push (jh T [] [])).push (jh T [] [])).next=M.next + 2:=rfl
 rw[e5] at a5 ⊢
 generalize (M.push (jh T [] [])).push (jh T [] [])=M0 at *
 have hv0:=hv.keep k0 (by simp)
 have err:∀ (e:Nat) (M1:RM),ae [M.next + 1] M0 M1→iX b=.error e→(e=14∨e=15∨e=2) →
   gH [(St []),(St []),(.sc (.slice none 0 0)),(.sc (.slice none 0 0))] [] fun t18=>aG M1 (.ptr M.next 0) t18 4 fun M_2=>bF M_2 (.ptr M.next 0) 4 fun res=>Q (.tup [res,(N .i64 0),N .i64 (e:Int)]) M_2:=by
  intro e M1 k1 he1 he
  rw[jm]
  refine⟨_,rfl, ?_⟩
  have n1:=k1.aP a2 (by omega) (by simp)
  rw[jH n1 (by rfl) (by rfl) (by rfl),bW (aN _) (by rfl)]
  exact hE e _ he1 he ((qD k0 k1 (by omega)).new _ (Nat.le_refl _))
 refine hH (M.next + 1) (k0.base.trans hB) hv0 hl (by omega) (fun hx=>by have:=hv.lt _ hx; omega) a5 (fun e M1 h1 he k1=>?_) (fun s l at' hv' M1 h1 hat hs hll k1 X1 o1=>?_)
 ·simp only[bn,bq,eO,gD]
  rw[show(((e:Nat) : Int) != 0)=true by rcases he with rfl | rfl | rfl <;> rfl,bP]
  exact err e M1 k1 (by unfold iX; rw[h1]) (by omega)
 obtain⟨hlen,hp⟩:=D8 h1
 simp only[bn,bq,eO,Ay,aY,jD]
 obtain⟨⟨m,p⟩,hmp⟩ : ∃ q,iT s=some q:=by unfold rG at hp; exact Option.isSome_iff_exists.1 hp
 have X1' : M1.heap (M.next + 1)=some (jh T m p):=by rw[X1]; unfold Ff; rw[hmp]
 have hone:oneCell hv'=true:=Own.one o1
 have hcell:hv'.cells=[hv']:=Own.cells o1
 simp only[Nat.zero_add]
 rw[fP [St m,St p,hv',aH] X1' (by simp) hcell hone rfl]
 have k2:ae [M.next + 1] M0 (M1.put (M.next + 1) (.row [St m,St p,hv',aH] false T 0)):=k1.put _ (.inr (by simp))
 have X2:(M1.put (M.next + 1) (.row [St m,St p,hv',aH] false T 0)).heap (M.next + 1)=some (.row [St m,St p,hv',aH] false T 0):=aN _
 have o2:Ow HD (M1.put (M.next + 1) (.row [St m,St p,hv',aH] false T 0)) M0.next TH hv' l:=Own.keep o1 ((ae.refl [M.next + 1] M1).put _ (.inr (by simp))) (fun x hx hm=>by
  have:=(Own.blk o1 x hx).1
  simp at hm; omega)
 generalize M1.put (M.next + 1) (.row [St m,St p,hv',aH] false T 0)=M2 at *
 have k02:=qD k0 k2 (by omega)
 refine hb (k02.base.trans hB) (hv.keep k02 (by simp)) hat hl (Own.l8 o2) (by omega) (fun h hx=>by have:=hlen h hx; omega) (fun out r at2 ov M3 e3 ha2 ha3 hr ho k3 o3=>?_) (fun e M3 e3 he k3=>?_)
 ·simp only[bn,bq,eO,Ay,aY,jD,Nat.zero_add]
  have X3:=k3.aP X2 (Nat.lt_of_lt_of_le (by omega) k2.next) (by simp)
  rw[fP [St m,St p,hv',ov] X3 (by simp) (Own.cells o3) (Own.one o3) rfl]
  have n3:=(k2.trans (k3.mono (by simp))).aP a2 (by omega) (by simp)
  rw[bW (aN _) (by rfl),jH (tL n3 (by omega)) (by rfl) (by rfl) (by have:=Own.one o3; simp only[List.all_cons,List.all_nil,hone,this]; rfl),bW (aN _) (by rfl)]
  have k4:ae [] M (((M3.put (M.next + 1) (.row [St m,St p,hv',ov] false T 0))).put M.next (.row [St m,St p,hv',ov] false T 0)):=((k02.trans k3).new _ (by omega)).new _ (Nat.le_refl _)
  have k34:ae [M.next,M.next + 1] M3 (((M3.put (M.next + 1) (.row [St m,St p,hv',ov] false T 0))).put M.next (.row [St m,St p,hv',ov] false T 0)):=((ae.refl _ _).put _ (.inr (by simp))).put _ (.inr (by simp))
  refine hQ m p l out r at2 hv' ov _ (by unfold iX; rw[h1]; dsimp only; rw[e3,hmp]) ha2 hr ho hll hlen k4 ?_ ?_
  ·have o2' : Ow HD M3 M0.next TH hv' l:=Own.keep o2 k3 (by simp)
   refine Own.mono (Own.keep o2' k34 (fun x hx hm=>?_)) k0.next
   have:=(Own.blk o2' x hx).1
   simp at hm; omega
  ·refine Own.mono (Own.keep o3 k34 (fun x hx hm=>?_)) k02.next
   have:=(Own.blk o3 x hx).1
   have:=k2.next
   simp at hm; omega
 ·simp only[bn,bq,eO,jD,Nat.zero_add]
  have X3:=k3.aP X2 (Nat.lt_of_lt_of_le (by omega) k2.next) (by simp)
  rw[fP [St m,St p,hv',aH] X3 (by simp) rfl rfl rfl,gD,show(((e:Nat) : Int) != 0)=true by rcases he with rfl | rfl | rfl <;> rfl,bP]
  exact err e _ ((k2.trans (k3.mono (by simp))).put _ (.inr (by simp))) (by unfold iX; rw[h1]; dsimp only; rw[e3]) (by omega)
def lL (b:Str) : Except Nat ((Nat × List Hd × Str) × Str):=match headD pU b with
 | .error e=>.error e
 | .ok (s,l,at')=>match rU (b.drop at') l with
   | .error e=>.error e
   | .ok (out,r)=>.ok ((codeOf s,l,out),r)
def DV (B:Base) (TH T8:Nat) (c:ai) : Prop:=∀ {M:RM} {v:AV} {b:Str} {Q:ah},M.base=B→Bs M v b→b.length≤1000000000 →
 (∀ n l out r at2 hv ov M',lL b=.ok ((n,l,out),r)→at2≤b.length→b.drop at2=r→out.length≤16384→l.length≤32→(∀ h∈l,h.1.length≤2048∧h.2.length≤2048)→ae [] M M'→Ow HD M' M.next TH hv l→Ow BY M' M.next T8 ov out →
  Q (.tup [.agg [N .i64 (n:Int),hv,ov],N .i64 (at2:Int),N .i64 0]) M') →
 (∀ (e:Nat) M',lL b=.error e→(e=14∨e=15∨e=2)→ae [] M M'→Q (.tup [.agg [N .i64 0,aH,aH],N .i64 0,N .i64 (e:Int)]) M')→c [v] M Q
theorem Ec {B:Base} {T TH T8 g:Nat} {ch cb:ai} (hH:∀ br,Et B (.fn (.func g) [] [.ptr br 0]) pU br (gM T 0) (Ew T) TH ch) (hb:Ev B T8 cb) : DV B TH T8 fun args M Q=>∃ a0,args=[a0]∧il T g ch cb a0 M Q:=by
 intro M v b Q hB hv hl hQ hE
 refine⟨_,rfl, ?_⟩
 unfold il
 simp only[aT]
 have k0:ae [] M ((M.push (gM T 0)).push (gM T 0)):=((ae.refl _ _).push _).push _
 have a2:((M.push (gM T 0)).push (gM T 0)).heap M.next=some (gM T 0):=by simp[RM.push]
 have a5:((M.push (gM T 0)).push (gM T 0)).heap (M.push (gM T 0)).next=some (gM T 0):=by simp[RM.push]
 have e5:(M.push (gM T 0)).next=M.next + 1:=rfl
 have n0:((M.push (gM T 0)).push (gM T 0)).next=M.next + 2:=rfl
 rw[e5] at a5 ⊢
 generalize (M.push (gM T 0)).push (gM T 0)=M0 at *
 have hv0:=hv.keep k0 (by simp)
 have err:∀ (e:Nat) (M1:RM),ae [M.next + 1] M0 M1→lL b=.error e→(e=14∨e=15∨e=2) →
   gH [(N .i64 0),(.sc (.slice none 0 0)),(.sc (.slice none 0 0))] [] fun t18=>aG M1 (.ptr M.next 0) t18 3 fun M_2=>bF M_2 (.ptr M.next 0) 3 fun res=>Q (.tup [res,(N .i64 0),N .i64 (e:Int)]) M_2:=by
  intro e M1 k1 he1 he
  rw[jm]
  refine⟨_,rfl, ?_⟩
  have n1:=k1.aP a2 (by omega) (by simp)
  rw[jH n1 (by rfl) (by rfl) (by rfl),bW (aN _) (by rfl)]
  exact hE e _ he1 he ((qD k0 k1 (by omega)).new _ (Nat.le_refl _))
 refine hH (M.next + 1) (k0.base.trans hB) hv0 hl (by omega) (fun hx=>by have:=hv.lt _ hx; omega) a5 (fun e M1 h1 he k1=>?_) (fun s l at' hv' M1 h1 hat hs hll k1 X1 o1=>?_)
 ·simp only[bn,bq,eO,gD]
  rw[show(((e:Nat) : Int) != 0)=true by rcases he with rfl | rfl | rfl <;> rfl,bP]
  exact err e M1 k1 (by unfold lL; rw[h1]) (by omega)
 obtain⟨hlen,hp⟩:=D8 h1
 simp only[bn,bq,eO,Ay,aY,jD]
 have X1' : M1.heap (M.next + 1)=some (gM T (codeOf s)):=X1
 have hone:oneCell hv'=true:=Own.one o1
 have hcell:hv'.cells=[hv']:=Own.cells o1
 simp only[Nat.zero_add]
 rw[fP [N .i64 (codeOf s:Int),hv',aH] X1' (by simp) hcell hone rfl]
 have k2:ae [M.next + 1] M0 (M1.put (M.next + 1) (.row [N .i64 (codeOf s:Int),hv',aH] false T 0)):=k1.put _ (.inr (by simp))
 have X2:(M1.put (M.next + 1) (.row [N .i64 (codeOf s:Int),hv',aH] false T 0)).heap (M.next + 1)=some (.row [N .i64 (codeOf s:Int),hv',aH] false T 0):=aN _
 have o2:Ow HD (M1.put (M.next + 1) (.row [N .i64 (codeOf s:Int),hv',aH] false T 0)) M0.next TH hv' l:=Own.keep o1 ((ae.refl [M.next + 1] M1).put _ (.inr (by simp))) (fun x hx hm=>by
  have:=(Own.blk o1 x hx).1
  simp at hm; omega)
 generalize M1.put (M.next + 1) (.row [N .i64 (codeOf s:Int),hv',aH] false T 0)=M2 at *
 have k02:=qD k0 k2 (by omega)
 refine hb (k02.base.trans hB) (hv.keep k02 (by simp)) hat hl (Own.l8 o2) (by omega) (fun h hx=>by have:=hlen h hx; omega) (fun out r at2 ov M3 e3 ha2 ha3 hr ho k3 o3=>?_) (fun e M3 e3 he k3=>?_)
 ·simp only[bn,bq,eO,Ay,aY,jD,Nat.zero_add]
  have X3:=k3.aP X2 (Nat.lt_of_lt_of_le (by omega) k2.next) (by simp)
  rw[fP [N .i64 (codeOf s:Int),hv',ov] X3 (by simp) (Own.cells o3) (Own.one o3) rfl]
  have n3:=(k2.trans (k3.mono (by simp))).aP a2 (by omega) (by simp)
  rw[bW (aN _) (by rfl),jH (tL n3 (by omega)) (by rfl) (by rfl) (by have:=Own.one o3; simp only[List.all_cons,List.all_nil,hone,this]; rfl),bW (aN _) (by rfl)]
  have k4:ae [] M (((M3.put (M.next + 1) (.row [N .i64 (codeOf s:Int),hv',ov] false T 0))).put M.next (.row [N .i64 (codeOf s:Int),hv',ov] false T 0)):=((k02.trans k3).new _ (by omega)).new _ (Nat.le_refl _)
  have k34:ae [M.next,M.next + 1] M3 (((M3.put (M.next + 1) (.row [N .i64 (codeOf s:Int),hv',ov] false T 0))).put M.next (.row [N .i64 (codeOf s:Int),hv',ov] false T 0)):=((ae.refl _ _).put _ (.inr (by simp))).put _ (.inr (by simp))
  refine hQ (codeOf s) l out r at2 hv' ov _ (by unfold lL; rw[h1]; dsimp only; rw[e3]) ha2 hr ho hll hlen k4 ?_ ?_
  ·have o2' : Ow HD M3 M0.next TH hv' l:=Own.keep o2 k3 (by simp)
   refine Own.mono (Own.keep o2' k34 (fun x hx hm=>?_)) k0.next
   have:=(Own.blk o2' x hx).1
   simp at hm; omega
  ·refine Own.mono (Own.keep o3 k34 (fun x hx hm=>?_)) k02.next
   have:=(Own.blk o3 x hx).1
   have:=k2.next
   simp at hm; omega
 ·simp only[bn,bq,eO,jD,Nat.zero_add]
  have X3:=k3.aP X2 (Nat.lt_of_lt_of_le (by omega) k2.next) (by simp)
  rw[fP [N .i64 (codeOf s:Int),hv',aH] X3 (by simp) rfl rfl rfl,gD,show(((e:Nat) : Int) != 0)=true by rcases he with rfl | rfl | rfl <;> rfl,bP]
  exact err e _ ((k2.trans (k3.mono (by simp))).put _ (.inr (by simp))) (by unfold lL; rw[h1]; dsimp only; rw[e3]) (by omega)
end Go.Ab.Hw
namespace Go.Ab.Hw
open Go Go.Ab Go.Ab.Sm
def ru (h:Hd) : Bool:=!(!cB h.1 || !bS h.2 || low h.1 == ui || low h.1 == qz)
def bG (h:Hd) : Str:=h.1++[58,32]++h.2++[13,10]
def rY (first:Str) (l:List Hd) : Str:=first++[13,10]++l.flatMap bG
def kV (first:Str) (l:List Hd) (more:Hd) : Str:=rY first l++(bG more++[13,10])
def qd (l:List Hd) (s:Str) (sz:Nat) : Bool:=decide (((l.length + 1:Nat) : Int) > 32) || decide ((s.length:Int) > 2048) || decide ((sz:Int) > 16384)
def fE (first:Str) (l:List Hd) (more:Hd) (sz:Nat) (body:Str) : Except Nat Str:=match l.all ru with
 | false=>.error 1
 | true=>match qd l (kV first l more) sz with
   | true=>.error 2
   | false=>.ok (kV first l more++body)
theorem FR:∀ (l:List Hd) (k:Nat),(∀ h∈l,h.1.length≤k∧h.2.length≤k)→(l.flatMap bG).length≤l.length * (2 * k + 4)
 | [],k,_=>by simp
 | h :: l,k,hk=>by
   have:=FR l k fun x hx=>hk x (.tail _ hx)
   have h0:=hk h (.head _)
   rw[List.flatMap_cons,List.length_append,List.length_cons,Nat.succ_mul]
   have:(bG h).length=h.1.length + h.2.length + 4:=by unfold bG; simp; omega
   omega
def rq (B:Base) (T:Nat) (c:ai) : Prop:=∀ {M:RM} {v bv:AV} {first body:Str} {l:List Hd} {more:Hd} {sz:Nat} {Q:ah},M.base=B→Sl HD M v l→l.length≤1000→(∀ h∈l,h.1.length≤281474976710656∧h.2.length≤281474976710656) →
 first.length≤1000000→more.1.length≤1000000→more.2.length≤1000000→Sl BY M bv body→body.length≤1000000000 →
 (∀ s v' M',fE first l more sz body=.ok s→s.length≤2048 + body.length→ae [] M M'→Ow BY M' M.next T v' s→Q (.tup [v',N .i64 0]) M')→(∀ (e:Nat) M',fE first l more sz body=.error e→(e=1∨e=2)→ae [] M M'→Q (.tup [aH,N .i64 (e:Int)]) M') →
 c [St first,v,.agg [St more.1,St more.2],N .i64 (sz:Int),bv] M Q
theorem F8 {B:Base} {TH T:Nat} {cn cv cs:ai} (hn:lI cB cn) (hg:Bw B bS cv) (hs:Au cs) :
  rq B T fun args M Q=>∃ a0 a1 a2 a3 a4,args=[a0,a1,a2,a3,a4]∧j3 TH cn cv cs T a0 a1 a2 a3 a4 M Q:=by
 intro M v bv first body l more sz Q hB hv hll hle hf hm1 hm2 hbv hbl hQ hE
 refine⟨_,_,_,_,_,rfl, ?_⟩
 unfold j3
 rw[ku rfl (by simp)]
 simp only[aT]
 have k0:ae [] M (M.push (.row [St more.1,St more.2] false TH 0)):=(ae.refl _ _).push _
 have n0:(M.push (.row [St more.1,St more.2] false TH 0)).heap M.next=some (.row [St more.1,St more.2] false TH 0):=by simp[RM.push]
 have l0:M.next<(M.push (.row [St more.1,St more.2] false TH 0)).next:=by simp[RM.push]
 generalize M.push (.row [St more.1,St more.2] false TH 0)=M0 at *
 rw[bN]
 refine⟨by simp; omega, ?_⟩
 rw[aK.len hv]
 refine dL (fun m ys M3=>∃ i:Nat,m=l.length - i∧ys=[St (rY first (l.take i)),N .i64 (i:Int)]∧i≤l.length∧(l.take i).all ru=true∧ae [] M0 M3) _
  ⟨0,rfl,by simp[rY],Nat.zero_le _,rfl,ae.refl _ _⟩ ?_
 rintro next m ys M3 hnext ⟨i,rfl,rfl,hi,hA,k3⟩
 simp only[aZ,bZ,vC]
 have k03:=k0.trans k3
 have hv3:Sl HD M3 v l:=aK.keep hv k03 (by simp)
 have hlen:(rY first (l.take i)).length≤1000002 + 1000 * (2 * 281474976710656 + 4):=by
  have:=FR (l.take i) 281474976710656 fun h hh=>hle h (List.mem_of_mem_take hh)
  have h2:(l.take i).length≤1000:=by simp; omega
  have h3:=Nat.mul_le_mul_right (2 * 281474976710656 + 4) h2
  unfold rY
  simp only[List.length_append,List.length_cons,List.length_nil]
  omega
 refine cO (fun h=>?_) fun h=>?_
 ·have hlt:i<l.length:=by simpa using h
  obtain⟨b,off,hb,_,hix,hld⟩:=hv3.at 2 (i:Int) hlt
  have hhl:=hle l[i] (List.getElem_mem hlt)
  rw[hix,xM]
  refine⟨_,hld, ?_⟩
  try simp only[aT]
  have n4:(M3.push (.row [St [],St []] false TH 0)).heap M3.next=some (.row [St [],St []] false TH 0):=by simp[RM.push]
  rw[jH n4 (by rfl) (by rfl) (by rfl)]
  have k4:ae [] M3 ((M3.push (.row [St [],St []] false TH 0)).put M3.next (.row (HD.cells l[i]) false TH 0)):=((ae.refl _ _).push _).new _ (Nat.le_refl _)
  have n5:((M3.push (.row [St [],St []] false TH 0)).put M3.next (.row (HD.cells l[i]) false TH 0)).heap M3.next=some (.row (HD.cells l[i]) false TH 0):=aN _
  have l5:M3.next<((M3.push (.row [St [],St []] false TH 0)).put M3.next (.row (HD.cells l[i]) false TH 0)).next:=by simp[RM.push,RM.put]
  generalize (M3.push (.row [St [],St []] false TH 0)).put M3.next (.row (HD.cells l[i]) false TH 0)=M4 at *
  have ld0:∀ {M' : RM} (k:ae [] M4 M') {K' : AV→Prop},aj M' (.ptr M3.next 0) K'=K' (St l[i].1):=fun k=>aO (k.aP n5 l5 (by simp)) rfl
  have ld1:∀ {M' : RM} (k:ae [] M4 M') {K' : AV→Prop},aj M' (.ptr M3.next 1) K'=K' (St l[i].2):=fun k=>aO (k.aP n5 l5 (by simp)) rfl
  simp only[jd,dB]
  rw[ld0 (ae.refl _ _)]
  have kM4:ae [] M M4:=k03.trans k4
  refine hn (by omega) fun M5 k5=>?_
  simp only[di]
  refine Ai (P:=ae [] M4) (p:=!bS l[i].2) k5 (fun _ k hk=>?_) fun M6 k6=>?_
  ·rw[ld1 k5]
   refine hg ((kM4.trans k5).base.trans hB) (by omega) fun M6 k6=>?_
   simp only[di]
   exact hk M6 (k5.trans k6)
  refine Ai (P:=ae [] M4) (p:=low l[i].1 == ui) k6 (fun _ k hk=>?_) fun M7 k7=>?_
  ·rw[ld0 k6]
   refine hs (by omega) fun M7 k7=>?_
   simp only[dQ]
   exact hk M7 (k6.trans k7)
  refine Ai (P:=ae [] M4) (p:=low l[i].1 == qz) k7 (fun _ k hk=>?_) fun M8 k8=>?_
  ·rw[ld0 k7]
   refine hs (by omega) fun M8 k8=>?_
   simp only[dQ]
   exact hk M8 (k7.trans k8)
  have hok:ru l[i]=!(!cB l[i].1 || !bS l[i].2 || low l[i].1 == ui || low l[i].1 == qz):=rfl
  have htk:(l.take (i + 1)).all ru=ru l[i]:=by
   rw[List.take_succ_eq_append_getElem hlt,List.all_append,hA]; simp
  refine cO (fun h=>?_) fun h=>?_
  ·have hbad:ru l[i]=false:=by rw[hok,h]; rfl
   refine hE 1 M8 ?_ (.inl rfl) (kM4.trans k8)
   have:l.all ru=false:=by
    rw[← List.take_append_drop (i + 1) l,List.all_append,htk,hbad]; rfl
   unfold fE; rw[this]
  ·have hgd:ru l[i]=true:=by rw[hok,h]; rfl
   rw[ld0 k8,bN]
   refine⟨by simp; omega, ?_⟩
   rw[ld1 k8,bN]
   refine⟨by simp; omega, ?_⟩
   rw[bN]
   refine⟨by simp; omega, ?_⟩
   rw[bN]
   refine⟨by simp; omega, ?_⟩
   rw[add1 (by omega)]
   refine hnext _ _ _ (by omega) ⟨i + 1,rfl, ?_,by omega,by rw[htk,hgd],k3.trans (k4.trans k8)⟩
   congr 2
   unfold rY
   rw[List.take_succ_eq_append_getElem hlt,List.flatMap_append]
   simp[bG]
 ·have:i=l.length:=by simp at h; omega
  subst this
  rw[List.take_length] at hA hlen
  have n3:=k3.aP n0 l0 (by simp)
  simp only[List.take_length,jd,dB]
  rw[aO n3 rfl,bN]
  refine⟨by simp; omega, ?_⟩
  rw[aO n3 (by rfl:([St more.1,St more.2] : List AV)[1]?=some (St more.2)),bN]
  refine⟨by simp; omega, ?_⟩
  rw[bN]
  refine⟨by simp; omega, ?_⟩
  rw[bN]
  refine⟨by simp; omega, ?_⟩
  rw[bN]
  refine⟨by simp; omega, ?_⟩
  have hs:rY first l++(more.1++[58,32]++more.2++[13,10]++[13,10])=kV first l more:=rfl
  rw[hs,aK.len hv,add1 (by omega),show(N .i64 32)=N .i64 ((32:Nat) : Int) from rfl,ed]
  refine CL (p:=decide (((kV first l more).length:Int) > 2048)) (fun _ k hk=>by simpa only[go_sem] using hk) ?_
  refine CL (p:=decide ((sz:Int) > 16384)) (fun _ k hk=>by simpa only[go_sem] using hk) ?_
  have ht:(decide (((l.length + 1:Nat) : Int) > ((32:Nat) : Int)) || decide (((kV first l more).length:Int) > 2048) || decide ((sz:Int) > 16384))=qd l (kV first l more) sz:=rfl
  rw[ht]
  refine cO (fun h=>?_) fun h=>?_
  ·exact hE 2 M3 (by unfold fE; rw[hA]; simp only[h]) (.inr rfl) k03
  ·rw[iB]
   simp only[aT]
   have k4:ae [] M3 (M3.push (.row (BY.row (kV first l more)) true T 0)):=(ae.refl _ _).push _
   have hal:(kV first l more).length≤2048:=by
    have h':=h
    unfold qd at h'
    simp only[Bool.or_eq_false_iff,decide_eq_false_iff_not] at h'
    omega
   have o4:Ow BY (M3.push (.row (BY.row (kV first l more)) true T 0)) M3.next T (.slc M3.next 0 (kV first l more).length (.op 1)) (kV first l more) :=
    Own.op _ _ _ (Nat.le_refl _) (by simp[RM.push]) (RM.lV _) (by rw[Enc.fC])
   refine nW (E:=BY) o4 k4.next (by decide) (aK.keep (aK.keep hbv k03 (by simp)) k4 (by simp)) (by omega) (by omega) fun v7 M7 o7 k7 _ _=>?_
   refine hQ _ v7 M7 (by unfold fE; rw[hA]; simp only[h]) (by simp; omega) ?_ (Own.mono o7 k03.next)
   refine ae.own (k03.trans k4) k7 (fun x hx=>?_)
   have:=k03.next
   simp[aL] at hx; omega
def lU (base:Nat) : Nat→Nat→Str
 | 0,_=>[]
 | f + 1,n=>match Nat.blt n base with
   | true=>[if n<10 then UInt8.ofNat (48 + n) else UInt8.ofNat (87 + n)]
   | false=>lU base f (n / base)++[if n % base<10 then UInt8.ofNat (48 + n % base) else UInt8.ofNat (87 + n % base)]
def dJ (n:Nat) : Str:=lU 10 20 n
def fV (n:Nat) : Str:=lU 16 20 n
def II (B:Base) (c:ai) : Prop:=∀ {M:RM} {n:Nat} {Q:ah},M.base=B→n<1000000000000→(∀ M',ae [] M M'→Q (St (dJ n)) M')→c [N .i64 (n:Int)] M Q
def CG (B:Base) (c:ai) : Prop:=∀ {M:RM} {n:Nat} {Q:ah},M.base=B→n<4294967296→(∀ M',ae [] M M'→Q (St (fV n)) M')→c [N .i64 (n:Int),N .i64 16] M Q
theorem qw:∀ (base f n:Nat),(lU base f n).length≤f
 | _,0,_=>by simp[lU]
 | base,f + 1,n=>by
   rw[lU]
   split
   ·simp
   ·have:=qw base f (n / base); simp; omega
abbrev jg:Str:=[67,111,110,116,101,110,116,45,76,101,110,103,116,104]
abbrev JU:Str:=[84,114,97,110,115,102,101,114,45,69,110,99,111,100,105,110,103]
def vG (B:Base) (c:ai) : Prop:=∀ {M:RM} {n:Nat} {Q:ah},M.base=B→n<1000000000000→(∀ M',ae [] M M'→Q (.agg [St jg,St (dJ n)]) M')→c [N .i64 (n:Int)] M Q
theorem E8 {B:Base} {T:Nat} {ci:ai} (hi:II B ci) : vG B fun args M Q=>∃ a0,args=[a0]∧j5 T ci a0 M Q:=by
 intro M n Q hB hn hQ
 refine⟨_,rfl, ?_⟩
 unfold j5
 simp only[aT]
 have k0:ae [] M (M.push (.row [St [],St []] false T 0)):=(ae.refl _ _).push _
 have n0:(M.push (.row [St [],St []] false T 0)).heap M.next=some (.row [St [],St []] false T 0):=by simp[RM.push]
 have l0:M.next<(M.push (.row [St [],St []] false T 0)).next:=by simp[RM.push]
 generalize M.push (.row [St [],St []] false T 0)=M0 at *
 refine hi (k0.base.trans hB) hn fun M1 k1=>?_
 rw[jm]
 refine⟨_,Bu rfl rfl rfl rfl, ?_⟩
 rw[jH (k1.aP n0 l0 (by simp)) (by rfl) (by rfl) (by rfl),bW (aN _) (by rfl)]
 exact hQ _ ((k0.trans k1).new _ (Nat.le_refl _))
def lK (m p:Str) : Bool:=fJ m && gY p
def vF (c:ai) : Prop:=∀ {M:RM} {m p:Str} {x y:AV} {Q:ah},oneCell x=true→oneCell y=true→m.length<4611686018427387904→p.length<4611686018427387904→(∀ M',ae [] M M'→Q (Bo (lK m p)) M')→c [.agg [St m,St p,x,y]] M Q
theorem FT {T:Nat} {cm cp:ai} (hm:lI fJ cm) (hp:lI gY cp) : vF fun args M Q=>∃ a0,args=[a0]∧iP T cm cp a0 M Q:=by
 intro M m p x y Q hx hy h1 h2 hQ
 refine⟨_,rfl, ?_⟩
 unfold iP
 rw[ku (by simp only[List.all_cons,List.all_nil,hx,hy]; rfl) (by simp)]
 simp only[aT,dB]
 have k0:ae [] M (M.push (.row [St m,St p,x,y] false T 0)):=(ae.refl _ _).push _
 have n0:(M.push (.row [St m,St p,x,y] false T 0)).heap M.next=some (.row [St m,St p,x,y] false T 0):=by simp[RM.push]
 have l0:M.next<(M.push (.row [St m,St p,x,y] false T 0)).next:=by simp[RM.push]
 generalize M.push (.row [St m,St p,x,y] false T 0)=M0 at *
 rw[jd,aO n0 rfl]
 refine hm h1 fun M1 k1=>?_
 refine BD (P:=ae [] M) (p:=gY p) (k0.trans k1) (fun _ k hk=>?_) hQ
 rw[jd,aO (k1.aP n0 l0 (by simp)) rfl]
 exact hp h2 fun M2 k2=>hk M2 (k0.trans (k1.trans k2))
def fM (m p:Str) : Str:=m++[32]++p++[32]++Ct
def jq (m p:Str) (l:List Hd) (body:Str) : Except Nat Str:=match lK m p with
 | false=>.error 1
 | true=>fE (fM m p) l (jg,dJ body.length) body.length body
theorem Gh {m p:Str} (h:lK m p=true) : m.length≤8∧p.length≤201:=by
 unfold lK fJ gY gT at h
 simp only[Bool.and_eq_true,decide_eq_true_eq] at h
 omega
def Dx (B:Base) (T:Nat) (c:ai) : Prop:=∀ {M:RM} {hv bv:AV} {m p body:Str} {l:List Hd} {Q:ah},M.base=B→Sl HD M hv l→l.length≤1000→(∀ h∈l,h.1.length≤281474976710656∧h.2.length≤281474976710656) →
 m.length≤281474976710656→p.length≤281474976710656→Sl BY M bv body→body.length≤1000000000 →
 (∀ s v' M',jq m p l body=.ok s→s.length≤2048 + body.length→ae [] M M'→Ow BY M' M.next T v' s→Q (.tup [v',N .i64 0]) M')→(∀ (e:Nat) M',jq m p l body=.error e→(e=1∨e=2)→ae [] M M'→Q (.tup [aH,N .i64 (e:Int)]) M') →
 c [.agg [St m,St p,hv,bv]] M Q
theorem Ej {B:Base} {T T8:Nat} {cg cc cp:ai} (hg:vF cg) (hc:vG B cc) (hp:rq B T8 cp) : Dx B T8 fun args M Q=>∃ a0,args=[a0]∧ik T cg cc cp a0 M Q:=by
 intro M hv bv m p body l Q hB hh hll hle hm hpl hb hbl hQ hE
 refine⟨_,rfl, ?_⟩
 unfold ik
 have ohv:=aK.one hh
 have obv:=aK.one hb
 rw[ku (by simp only[List.all_cons,List.all_nil,ohv,obv]; rfl) (by simp)]
 simp only[aT]
 have k0:ae [] M (M.push (.row [St m,St p,hv,bv] false T 0)):=(ae.refl _ _).push _
 have n0:(M.push (.row [St m,St p,hv,bv] false T 0)).heap M.next=some (.row [St m,St p,hv,bv] false T 0):=by simp[RM.push]
 have l0:M.next<(M.push (.row [St m,St p,hv,bv] false T 0)).next:=by simp[RM.push]
 generalize M.push (.row [St m,St p,hv,bv] false T 0)=M0 at *
 rw[bW n0 (by rfl)]
 refine hg ohv obv (by omega) (by omega) fun M1 k1=>?_
 have n1:=k1.aP n0 l0 (by simp)
 have l1:=Nat.lt_of_lt_of_le l0 k1.next
 have k01:=k0.trans k1
 simp only[di]
 refine cO (fun h=>?_) fun h=>?_
 ·have hk:lK m p=false:=by simpa using h
  exact hE 1 M1 (by unfold jq; rw[hk]) (.inl rfl) k01
 have hk:lK m p=true:=by simpa using h
 obtain⟨q1,q2⟩:=Gh hk
 have e:jq m p l body=fE (fM m p) l (jg,dJ body.length) body.length body:=by unfold jq; rw[hk]
 rw[e] at hQ hE
 have ld0:∀ {M' : RM} (k:ae [] M1 M') {K' : AV→Prop},aj M' (.ptr M.next 0) K'=K' (St m):=fun k=>aO (k.aP n1 l1 (by simp)) rfl
 have ld1:∀ {M' : RM} (k:ae [] M1 M') {K' : AV→Prop},aj M' (.ptr M.next 1) K'=K' (St p):=fun k=>aO (k.aP n1 l1 (by simp)) rfl
 have ld2:∀ {M' : RM} (k:ae [] M1 M') {K' : AV→Prop},aj M' (.ptr M.next 2) K'=K' hv:=fun k=>aO (k.aP n1 l1 (by simp)) rfl
 have ld3:∀ {M' : RM} (k:ae [] M1 M') {K' : AV→Prop},aj M' (.ptr M.next 3) K'=K' bv:=fun k=>aO (k.aP n1 l1 (by simp)) rfl
 simp only[jd,ld0 (ae.refl _ M1),ld1 (ae.refl _ M1),ld2 (ae.refl _ M1),ld3 (ae.refl _ M1)]
 rw[bN]
 refine⟨by simp; omega, ?_⟩
 rw[bN]
 refine⟨by simp; omega, ?_⟩
 rw[bN]
 refine⟨by simp; omega, ?_⟩
 rw[bN]
 refine⟨by simp; omega, ?_⟩
 rw[aK.len hb,aK.len hb]
 refine hc (n:=body.length) (k01.base.trans hB) (by omega) fun M2 k2=>?_
 have k02:=k01.trans k2
 rw[ld0 k2]; refine⟨rfl, ?_⟩
 rw[ld1 k2]; refine⟨rfl, ?_⟩
 rw[ld2 k2]; refine⟨rfl, ?_⟩
 rw[ld3 k2]; refine⟨rfl, ?_⟩
 rw[ld3 k2]; refine⟨rfl, ?_⟩
 have hil:(dJ body.length).length≤20:=qw _ _ _
 refine hp (more:=(jg,dJ body.length)) (k02.base.trans hB) (aK.keep hh k02 (by simp)) hll hle (by simp; omega) (by simp) (by simpa using (by omega:(dJ body.length).length≤1000000)) (aK.keep hb k02 (by simp)) hbl (fun s v' M3 e3 hl3 k3 o3=>?_) (fun e' M3 e3 he k3=>?_)
 ·simp only[bn,bq]
  exact hQ s v' M3 e3 hl3 (k02.trans k3) (Own.mono o3 k02.next)
 ·simp only[bn,bq]
  exact hE e' M3 e3 he (k02.trans k3)
def CU (n:Int) : Bool:=decide (n<100) || decide (n > 599)
def xO (n:Int) : Str:=if (n.tdiv 100 == 2)=true then[79,75] else[78,111]
def EG (n:Int) : Str:=F5++dJ n.toNat++[32]++xO n
def jU (n:Int) (l:List Hd) (body:Str) : Except Nat Str:=match CU n with
 | true=>.error 1
 | false=>fE (EG n) l (jg,dJ body.length) body.length body
def BF (B:Base) (T:Nat) (c:ai) : Prop:=∀ {M:RM} {hv bv:AV} {n:Int} {body:Str} {l:List Hd} {Q:ah},M.base=B→Sl HD M hv l→l.length≤1000→(∀ h∈l,h.1.length≤281474976710656∧h.2.length≤281474976710656) →
 Sl BY M bv body→body.length≤1000000000 →
 (∀ s v' M',jU n l body=.ok s→s.length≤2048 + body.length→ae [] M M'→Ow BY M' M.next T v' s→Q (.tup [v',N .i64 0]) M')→(∀ (e:Nat) M',jU n l body=.error e→(e=1∨e=2)→ae [] M M'→Q (.tup [aH,N .i64 (e:Int)]) M') →
 c [.agg [N .i64 n,hv,bv]] M Q
theorem Cx {B:Base} {T T8:Nat} {ci cc cp:ai} (hi:II B ci) (hc:vG B cc) (hp:rq B T8 cp) : BF B T8 fun args M Q=>∃ a0,args=[a0]∧gX T ci cc cp a0 M Q:=by
 intro M hv bv n body l Q hB hh hll hle hb hbl hQ hE
 refine⟨_,rfl, ?_⟩
 unfold gX
 have ohv:=aK.one hh
 have obv:=aK.one hb
 rw[ku (by simp only[List.all_cons,List.all_nil,ohv,obv]; rfl) (by simp)]
 simp only[aT]
 have k0:ae [] M (M.push (.row [N .i64 n,hv,bv] false T 0)):=(ae.refl _ _).push _
 have n0:(M.push (.row [N .i64 n,hv,bv] false T 0)).heap M.next=some (.row [N .i64 n,hv,bv] false T 0):=by simp[RM.push]
 have l0:M.next<(M.push (.row [N .i64 n,hv,bv] false T 0)).next:=by simp[RM.push]
 generalize M.push (.row [N .i64 n,hv,bv] false T 0)=M1 at *
 have ld0:∀ {M' : RM} (k:ae [] M1 M') {K' : AV→Prop},aj M' (.ptr M.next 0) K'=K' (N .i64 n):=fun k=>aO (k.aP n0 l0 (by simp)) rfl
 have ld1:∀ {M' : RM} (k:ae [] M1 M') {K' : AV→Prop},aj M' (.ptr M.next 1) K'=K' hv:=fun k=>aO (k.aP n0 l0 (by simp)) rfl
 have ld2:∀ {M' : RM} (k:ae [] M1 M') {K' : AV→Prop},aj M' (.ptr M.next 2) K'=K' bv:=fun k=>aO (k.aP n0 l0 (by simp)) rfl
 simp only[jd,dB,ld0 (ae.refl _ M1),ld1 (ae.refl _ M1),ld2 (ae.refl _ M1),iQ]
 refine CL (p:=decide (n > 599)) (fun _ k hk=>?_) ?_
 ·simpa only[ed,ld0 (ae.refl _ M1)] using hk
 have hbc:(decide (n<100) || decide (n > 599))=CU n:=rfl
 rw[hbc]
 refine cO (fun h=>?_) fun h=>?_
 ·exact hE 1 M1 (by unfold jU; rw[h]) (.inl rfl) k0
 have h':=h
 unfold CU at h'
 simp only[Bool.or_eq_false_iff,decide_eq_false_iff_not] at h'
 have e:jU n l body=fE (EG n) l (jg,dJ body.length) body.length body:=by unfold jU; rw[h]
 rw[e] at hQ hE
 rw[nJ,ld0 (ae.refl _ M1),Nc]
 refine⟨by decide, ?_⟩
 have hdv:1≤n.tdiv 100∧n.tdiv 100≤5:=by
  rw[Int.tdiv_eq_ediv_of_nonneg (by omega)]; omega
 rw[gQ (by omega) (by omega),aX]
 have tail:∀ w:Str,w=xO n→((aj M1 (.ptr M.next 0) fun t18=>aj M1 (.ptr M.next 1) fun t25=>aj M1 (.ptr M.next 2) fun t27=>aR t27 fun t28=>aj M1 (.ptr M.next 2) fun t31=>aR t31 fun t32=>aj M1 (.ptr M.next 2) fun t34=>ci [t18] M1 fun t19 M_9=>aj M_9 (.ptr M.next 1) fun PI=>(PI=t25∧aj M_9 (.ptr M.next 2) fun Po=>(Po=t27∧aj M_9 (.ptr M.next 2) fun Py=>(Py=t31∧aj M_9 (.ptr M.next 2) fun Qp=>(Qp=t34∧aW .add (St [72,84,84,80,47,49,46,49,32]) t19 fun t20=>aW .add t20 (St [32]) fun t21=>aW .add t21 (St w) fun t23=>cc [t28] M_9 fun t29 JS=>aj JS (.ptr M.next 1) fun Qz=>(Qz=t25∧aj JS (.ptr M.next 2) fun Pv=>(Pv=t31∧aj JS (.ptr M.next 2) fun Ql=>(Ql=t34∧cp [t23,t25,t29,t32,t34] JS fun t35 MU=>aD t35 0 fun t36=>aD t35 1 fun t37=>Q (.tup [t36,t37]) MU)))))))) : Prop):=by
  intro w hw
  rw[ld0 (ae.refl _ M1),ld1 (ae.refl _ M1),ld2 (ae.refl _ M1),aK.len hb,ld2 (ae.refl _ M1),aK.len hb,ld2 (ae.refl _ M1)]
  obtain⟨m,rfl⟩ : ∃ m:Nat,n=(m:Int):=⟨n.toNat,by omega⟩
  refine hi (k0.base.trans hB) (by omega) fun M2 k2=>?_
  rw[ld1 k2]; refine⟨rfl, ?_⟩
  rw[ld2 k2]; refine⟨rfl, ?_⟩
  rw[ld2 k2]; refine⟨rfl, ?_⟩
  rw[ld2 k2]; refine⟨rfl, ?_⟩
  have hl1:(dJ m).length≤20:=qw _ _ _
  have hl2:(dJ body.length).length≤20:=qw _ _ _
  have hwl:w.length≤2:=by rw[hw]; unfold xO; split <;> simp
  rw[bN]
  refine⟨by simp; omega, ?_⟩
  rw[bN]
  refine⟨by simp; omega, ?_⟩
  rw[bN]
  refine⟨by simp; omega, ?_⟩
  have k02:=k0.trans k2
  refine hc (n:=body.length) (k02.base.trans hB) (by omega) fun M3 k3=>?_
  have k23:=k2.trans k3
  rw[ld1 k23]; refine⟨rfl, ?_⟩
  rw[ld2 k23]; refine⟨rfl, ?_⟩
  rw[ld2 k23]; refine⟨rfl, ?_⟩
  have k03:=k0.trans k23
  have N9:[72,84,84,80,47,49,46,49,32]++dJ m++[32]++w=EG (m:Int):=by rw[hw]; rfl
  rw[N9]
  have Tv:(EG (m:Int)).length≤1000000:=by rw[← N9]; simp; omega
  refine hp (more:=(jg,dJ body.length)) (k03.base.trans hB) (aK.keep hh k03 (by simp)) hll hle Tv (by simp) (by simpa using (by omega:(dJ body.length).length≤1000000)) (aK.keep hb k03 (by simp)) hbl (fun s v' M4 e4 hl4 k4 o4=>?_) (fun e' M4 e4 he k4=>?_)
  ·simp only[bn,bq]
   exact hQ s v' M4 e4 hl4 (k03.trans k4) (Own.mono o4 k03.next)
  ·simp only[bn,bq]
   exact hE e' M4 e4 he (k03.trans k4)
 refine cO (fun h=>?_) fun h=>?_
 ·exact tail [79,75] (by unfold xO; rw[if_pos h])
 ·exact tail [78,111] (by unfold xO; rw[if_neg (by rw[h]; decide)])
abbrev ZB:List AV:=[N .u8 0]
theorem uH (n:Nat) : (cK ZB n).length=n∧(cK ZB n).all oneCell=true:=by
 induction n with
 | zero=>simp[cK]
 | succ n ih=>rw[cK,List.length_append,List.all_append,ih.1,ih.2]; simp[oneCell]; omega
theorem Gg:∀ (a b:Nat),cK ZB (a + b)=cK ZB a++cK ZB b
 | 0,b=>by simp[cK]
 | a + 1,b=>by rw[show a + 1 + b=(a + b) + 1 by omega,cK,cK,Gg a b]; simp
theorem jZ (s:Str) : (BY.row s).length=s.length:=by rw[Enc.fC]; simp[BY]
theorem Q0 {M:RM} {b T k:Nat} {ps ys:Str} {u:AV} {zs:List AV} {K:ah} (hb:M.heap b=some (.row (BY.row ps++cK ZB k) true T 0)) (hu:Sl BY M u ys) (hk:ys.length≤k) (hl:ps.length + ys.length≤1000000000)
  (hK:∀ M',M'.heap b=some (.row (BY.row (ps++ys)++cK ZB (k - ys.length)) true T 0)→ae [b] M M'→M'.next=M.next→K (.slc b 0 (ps++ys).length (.op 1)) M') :
  appW T 1 1 zs false (.slc b 0 ps.length (.op 1)) u M K:=by
 have hn:=aK.mR hu zs
 refine⟨ys.length,BY.row ys,hn,by omega,by omega, ?_⟩
 by_cases h0:ys.length=0
 ·have:ys=[]:=List.length_eq_zero_iff.1 h0
  subst this
  refine⟨.slc b 0 ps.length (.op 1),M,by simp[qA], ?_⟩
  have:=hK M (by simpa using hb) (ae.refl _ _) rfl
  simpa using this
 ·have hfit:0 + (ps.length + ys.length) * 1≤(BY.row ps++cK ZB k).length:=by
   rw[List.length_append,jZ,(uH k).1]; omega
  refine⟨.slc b 0 (ps.length + ys.length) (.op 1),M.put b (.row (BY.row (ps++ys)++cK ZB (k - ys.length)) true T 0), ?_, ?_⟩
  ·simp only[qA,if_neg h0,hb]
   rw[if_pos (by simp),if_pos hfit,RM.wZ hb,qO (by rw[jZ,List.length_append,jZ,(uH k).1]; omega) (by omega) (BY.qg ys)]
   simp only[Option.map_some]
   congr 4
   rw[Enc.mU]
   have e1:(BY.row ps++cK ZB k).take (0 + ps.length * 1)=BY.row ps:=by rw[List.take_left' (by rw[jZ]; omega)]
   have e2:(BY.row ps++cK ZB k).drop (0 + ps.length * 1 + (BY.row ys).length)=cK ZB (k - ys.length):=by
    rw[show cK ZB k=cK ZB ys.length++cK ZB (k - ys.length) by rw[← Gg]; congr 1; omega,← List.append_assoc,List.drop_left' (by rw[List.length_append,jZ,(uH _).1,jZ]; omega)]
   rw[e1,e2]
  ·have:=hK _ (aN _) ((ae.refl _ _).put _ (.inr (by simp))) rfl
   rw[List.length_append] at this
   exact this
theorem Oq {M:RM} {base T n:Nat} {v:AV} {cs:List AV} (h:Own M base T 1 v cs n) (hn:0<n) : ∃ b,v=.slc b 0 n (.op 1)∧base≤b∧b<M.next∧M.heap b=some (.row cs true T 0):=by
 cases h with
 | nil=>omega
 | ex0 b o _ _ _=>omega
 | op b n cs h1 h2 h3 h4=>exact⟨b,rfl,h1,h2,h3⟩
def Fx (T:Nat) (c:ai) : Prop:=∀ {M:RM} {n:Nat} {Q:ah},n≤1000000000→0<n →
 (∀ b M',M.next≤b→b<M'.next→M'.heap b=some (.row (cK ZB n) true T 0)→ae [] M M'→Q (.slc b 0 0 (.op 1)) M')→c [aH,N .i64 (n:Int)] M Q
theorem IK {TS T:Nat} : Fx T fun args M Q=>∃ a0 a1,args=[a0,a1]∧tC TS T a0 a1 M Q:=by
 intro M n Q hn hz h1
 refine⟨_,_,rfl, ?_⟩
 unfold tC
 rw[nJ,iQ,show decide ((n:Int)<0)=false by simp,aY]
 dsimp only
 rw[nJ]
 have hcap:∀ K:AV→Prop,u6 aH K=K (N .i64 0):=fun K=>by
  unfold u6
  exact propext ⟨fun⟨m,h,k⟩=>by cases h; exact k,fun k=>⟨0,rfl,k⟩⟩
 rw[hcap,zZ,jv,show IntKind.wrap .i64 ((0:Int) - 0)=0 from by rw[gQ] <;> decide,jv,Int.sub_zero,gQ (by omega) (by omega),ed]
 dsimp only[ak]
 rw[show decide ((n:Int) > 0)=true by simp; omega,bP,hcap,show dE 1 aH none (some (N .i64 0)) none=some aH by simp[dE,bnd],eB]
 have hr:=uH n
 refine yN (base:=M.next) (m:=n) (ds:=cK ZB n) .nil (Nat.le_refl _) (Nat.le_refl _) (by simp[mR]) (by rw[hr.1,Nat.mul_one]) hr.2 (by omega) (by omega) ?_
 intro v' M' o k _ _
 rw[Nat.zero_add] at o
 obtain⟨b,rfl,q1,q2,q3⟩:=Oq o (by omega)
 rw[zZ,show dE 1 (.slc b 0 n (.op 1)) none (some (N .i64 0)) none=some (.slc b 0 0 (.op 1)) by simp[dE,bnd]; omega,eB]
 exact h1 b M' q1 q2 (by simpa using q3) (by simpa [aL] using k)
def zY (T:Nat) (c:ai) : Prop:=∀ {M:RM} {bb TB:Nat} {vs:List AV} {xss:List Str} {Q:ah},M.heap bb=some (.row vs false TB 0)→bb<M.next→vs.length=xss.length→vs.length≤1000→(∀ (i:Nat) (v:AV) (x:Str),vs[i]?=some v→xss[i]?=some x→Sl BY M v x) →
 0<xss.flatten.length→xss.flatten.length≤1000000000→(∀ r M',Ow BY M' M.next T r xss.flatten→ae [] M M'→Q r M')→c [.slc bb 0 vs.length (.ex vs.length)] M Q
theorem Fq {TS T:Nat} {cg:ai} (hg:Fx T cg) : zY T fun args M Q=>∃ a0,args=[a0]∧oN TS cg T a0 M Q:=by
 intro M bb TB vs xss Q hb hbl hlen hvl hv hpos hmax hQ
 refine⟨_,rfl, ?_⟩
 unfold oN
 simp only[nJ]
 have at_:∀ (i:Nat) (K:AV→Prop),i<vs.length→bV (.slc bb 0 vs.length (.ex vs.length)) (N .i64 (i:Int)) 1 K=K (.ptr bb i):=fun i K hi=>by
  rw[nI]
  simp only[Int.toNat_natCast,Nat.mul_one,Nat.zero_add]
  exact propext ⟨fun h=>h.2.2,fun h=>⟨by omega,by omega,h⟩⟩
 have hfl:∀ i,i≤xss.length→(xss.take i).flatten.length≤xss.flatten.length:=fun i _=>by
  have e:xss.flatten=(xss.take i).flatten++(xss.drop i).flatten:=by rw[← List.flatten_append,List.take_append_drop]
  rw[e,List.length_append]; omega
 have hst:∀ i (hi:i<xss.length),(xss.take (i + 1)).flatten=(xss.take i).flatten++xss[i]:=fun i hi=>by
  rw[List.take_succ_eq_append_getElem hi,List.flatten_append,List.flatten_cons,List.flatten_nil,List.append_nil]
 rw[jo]
 refine dL (fun m zs M3=>∃ i:Nat,m=vs.length - i∧i≤vs.length∧zs=[N .i64 ((xss.take i).flatten.length:Int),N .i64 (i:Int)]∧M3=M) _ ⟨0,rfl,Nat.zero_le _,rfl,rfl⟩ ?_
 rintro next m zs M3 hnext ⟨i,rfl,hi,rfl,rfl⟩
 simp only[aZ,bZ,vC]
 refine cO (fun h=>?_) fun h=>?_
 ·have hlt:i<vs.length:=by simpa using h
  have hlx:i<xss.length:=by omega
  have sl:=hv i vs[i] xss[i] (List.getElem?_eq_getElem hlt) (List.getElem?_eq_getElem hlx)
  have h1:=hfl (i + 1) (by omega)
  have h2:=congrArg List.length (hst i hlx)
  rw[List.length_append] at h2
  rw[at_ i _ hlt,aO hb (List.getElem?_eq_getElem hlt),aK.len sl,addN (by omega),iQ,show decide ((((xss.take i).flatten.length + xss[i].length:Nat) : Int)<0)=false by simp; omega,aY]
  try simp only[aZ]
  rw[add1 (by omega)]
  exact hnext _ _ _ (by omega) ⟨i + 1,rfl,by omega,by rw[h2],rfl⟩
 ·have:i=vs.length:=by simp at h; omega
  subst this
  rw[hlen,List.take_length]
  refine hg hmax hpos fun b M4 hb0 hb1 hrow k4=>?_
  rw[← hlen,jo]
  have hbb:bb≠b:=by omega
  refine dL (fun m zs M5=>∃ i:Nat,m=vs.length - i∧i≤vs.length∧zs=[.slc b 0 (xss.take i).flatten.length (.op 1),N .i64 (i:Int)]∧ae [b] M4 M5∧M5.next=M4.next ∧
    M5.heap b=some (.row (BY.row (xss.take i).flatten++cK ZB (xss.flatten.length - (xss.take i).flatten.length)) true T 0)) _
   ⟨0,rfl,Nat.zero_le _,rfl,ae.refl _ _,rfl,by simpa [Enc.row] using hrow⟩ ?_
  rintro Ro m zs M5 ET ⟨i,rfl,hi2,rfl,k5,n5,EE⟩
  simp only[aZ,bZ,vC]
  refine cO (fun h=>?_) fun h=>?_
  ·have hlt:i<vs.length:=by simpa using h
   have hlx:i<xss.length:=by omega
   have sl:=hv i vs[i] xss[i] (List.getElem?_eq_getElem hlt) (List.getElem?_eq_getElem hlx)
   have hb4:=k4.aP hb hbl (by simp)
   have hb5:=k5.aP hb4 (by omega) (by simp; exact hbb)
   have sl5:Sl BY M5 vs[i] xss[i]:=aK.keep (aK.keep sl k4 (by simp)) k5 (fun d hd hm=>by have:=aK.lt sl d hd; simp at hm; omega)
   have h1:=hfl (i + 1) (by omega)
   have h2:=congrArg List.length (hst i hlx)
   rw[List.length_append] at h2
   rw[at_ i _ hlt,aO hb5 (List.getElem?_eq_getElem hlt)]
   refine Q0 EE sl5 (by omega) (by omega) fun M6 QX k6 n6=>?_
   rw[add1 (by omega)]
   refine ET _ _ _ (by omega) ⟨i + 1,rfl,by omega,by rw[hst i hlx],k5.trans k6,by rw[n6,n5], ?_⟩
   rw[QX,hst i hlx,List.length_append,Nat.sub_sub]
  ·have:i=vs.length:=by simp at h; omega
   subst this
   rw[hlen,List.take_length] at EE ⊢
   rw[Nat.sub_self] at EE
   have O5:M5.heap b=some (.row (BY.row xss.flatten) true T 0):=by simpa [cK] using EE
   refine hQ _ M5 (Own.op _ _ _ hb0 (by omega) O5 (by rw[Enc.fC])) ?_
   exact⟨k5.base.trans k4.base,by rw[n5]; exact k4.next,fun x hx _=>by rw[k5.heap x (Nat.lt_of_lt_of_le hx k4.next) (by simp; omega),k4.heap x hx (by simp)]⟩
def C8 (T:Nat) (c:ai) : Prop:=∀ {M:RM} {v:AV} {s:List Int} {Q:ah},Sl INT M v s→s.length≤1000000→(∀ v' M',Ow INT M' M.next T v' s→ae [] M M'→Q v' M')→c [v] M Q
theorem GM {T:Nat} : C8 T fun args M Q=>∃ a0,args=[a0]∧tJ T a0 M Q:=by
 intro M v s Q hv hl hQ
 refine⟨_,rfl, ?_⟩
 unfold tJ
 rcases aK.uK hv false with⟨rfl,he⟩ | ⟨hne,he⟩
 ·rw[he,show(!false)=true from rfl,bP]
  have:s=[]:=by
   unfold Sl at hv
   cases s with
   | nil=>rfl
   | cons x s=>generalize hcs:INT.row (x :: s)=cs at *; generalize hn:(x :: s).length=n at *; cases hv; cases hcs
  subst this
  exact hQ aH M .nil (ae.refl _ _)
 ·rw[he,aY,Ey]
  simp only[aT]
  have k1:ae [] M (M.push (.row [] false T 0)):=(ae.refl _ _).push _
  refine nW (E:=INT) (Ow.lit INT M) (by simp[RM.push]) (by decide) (aK.keep hv k1 (by simp)) (by simp; omega) (by simp; omega) fun v7 M7 o7 k7 _ _=>?_
  refine hQ v7 M7 (by simpa using o7) ?_
  refine ae.own k1 k7 (fun b hb=>?_)
  simp[aL] at hb; omega
theorem Hq {M:RM} {base T:Nat} {v:AV} {xs s:Str} {zs:List AV} {K:ah} (ho:Ow BY M base T v xs) (hb:base≤M.next) (hn:xs.length + s.length≤1000000000)
  (hK:∀ v' M',Ow BY M' base T v' (xs++s)→ae (aL v) M M'→K v' M') : appW T 1 1 zs false v (St s) M K:=by
 have e:mR M 1 zs false (St s)=some (s.length,BY.row s):=by simp[mR,xC]
 refine yN ho hb (by decide) e (by rw[jZ,Nat.mul_one]) (BY.qg s) (by omega) (by omega) fun v' M' h1 h2 _ _=>?_
 refine hK v' M' ?_ h2
 rw[← Enc.mU] at h1
 unfold Ow; rw[List.length_append]; exact h1
def tu (n:Int) (rest:Str) : Int:=if (rest.length:Int)<n then(rest.length:Int) else n
def oK (s:Str) : Str:=fV s.length++[13,10]++s++[13,10]
def ji:List Int→Str→Str→Str × Str
 | [],acc,rest=>(acc,rest)
 | n :: ns,acc,rest=>match decide (tu n rest<1) with
   | true=>ji ns acc rest
   | false=>ji ns (acc++oK (rest.take (tu n rest).toNat)) (rest.drop (tu n rest).toNat)
abbrev J4:Str:=[48,13,10,13,10]
def jr (m p:Str) (l:List Hd) (body:Str) (sizes:List Int) : Except Nat Str:=match lK m p with
 | false=>.error 1
 | true=>fE (fM m p) l (JU,Eb) body.length ((ji (sizes++[(body.length:Int)]) [] body).1++J4)
theorem QR {T:Nat} {zs:List AV} {a b c d z:AV} {K:RB→(Nat→AV)→Prop} (ha:a.cells=[a]) (hb:b.cells=[b]) (hc:c.cells=[c]) (hd:d.cells=[d]) (ha1:oneCell a=true) (hb1:oneCell b=true) (hc1:oneCell c=true) (hd1:oneCell d=true) :
  dC T 4 [z] [(0,1,a),(1,1,b),(2,1,c),(3,1,d)] K=K (.row [a,b,c,d] false T 0) (fun b=>.slc b 0 4 (.ex 4)):=by
 have:ol (cK [z] 4) [(0,1,a),(1,1,b),(2,1,c),(3,1,d)]=some [a,b,c,d]:=by
  simp[ol,cK,ha,hb,hc,hd,ha1,hb1,hc1,hd1]
 apply propext; unfold dC
 constructor
 ·rintro⟨l,h,hk⟩; rw[this] at h; cases h; exact hk
 ·intro hk; exact⟨_,this,hk⟩
theorem Bs.new (M:RM) (T:Nat) (s:Str) : Bs (M.push (.row (BY.row s) true T 0)) (.slc M.next 0 s.length (.op 1)) s:=⟨(Rw.new M s).sl,rfl⟩
def zH (B:Base) (T:Nat) (c:ai) : Prop:=∀ {M:RM} {hv bv sv:AV} {m p body:Str} {l:List Hd} {sizes:List Int} {Q:ah},M.base=B→Sl HD M hv l→l.length≤1000→(∀ h∈l,h.1.length≤281474976710656∧h.2.length≤281474976710656) →
 m.length≤281474976710656→p.length≤281474976710656→Bs M bv body→body.length≤1000000→Sl INT M sv sizes→sizes.length≤1000 →
 (∀ s v' M',jr m p l body sizes=.ok s→s.length≤100000000→ae [] M M'→Ow BY M' M.next T v' s→Q (.tup [v',N .i64 0]) M')→(∀ (e:Nat) M',jr m p l body sizes=.error e→(e=1∨e=2)→ae [] M M'→Q (.tup [aH,N .i64 (e:Int)]) M') →
 c [.agg [St m,St p,hv,bv],sv] M Q
theorem BG {B:Base} {T TI T8 TB:Nat} {cg ck cf cc cp:ai} (hg:vF cg) (hk:C8 TI ck) (hf:CG B cf) (hc:zY T8 cc) (hp:rq B T8 cp) :
  zH B T8 fun args M Q=>∃ a0 a1,args=[a0,a1]∧jV T cg ck TI T8 cf TB cc cp a0 a1 M Q:=by
 intro M hv bv sv m p body l sizes Q hB hh hll hle hm hpl hb hbl hsv hsl hQ hE
 refine⟨_,_,rfl, ?_⟩
 unfold jV
 have ohv:=aK.one hh
 have obv:=aK.one hb.sl
 rw[ku (by simp only[List.all_cons,List.all_nil,ohv,obv]; rfl) (by simp)]
 simp only[aT]
 have k0:ae [] M (M.push (.row [St m,St p,hv,bv] false T 0)):=(ae.refl _ _).push _
 have n0:(M.push (.row [St m,St p,hv,bv] false T 0)).heap M.next=some (.row [St m,St p,hv,bv] false T 0):=by simp[RM.push]
 have l0:M.next<(M.push (.row [St m,St p,hv,bv] false T 0)).next:=by simp[RM.push]
 generalize M.push (.row [St m,St p,hv,bv] false T 0)=M0 at *
 rw[bW n0 (by rfl)]
 refine hg ohv obv (by omega) (by omega) fun M1 k1=>?_
 have n1:=k1.aP n0 l0 (by simp)
 have l1:=Nat.lt_of_lt_of_le l0 k1.next
 have k01:=k0.trans k1
 simp only[di]
 refine cO (fun h=>?_) fun h=>?_
 ·have hk:lK m p=false:=by simpa using h
  exact hE 1 M1 (by unfold jr; rw[hk]) (.inl rfl) k01
 have hok:lK m p=true:=by simpa using h
 obtain⟨q1,q2⟩:=Gh hok
 have e:jr m p l body sizes=fE (fM m p) l (JU,Eb) body.length ((ji (sizes++[(body.length:Int)]) [] body).1++J4):=by unfold jr; rw[hok]
 rw[e] at hQ hE
 have ld:∀ {M' : RM} (k:ae [] M1 M') (i:Nat) (x:AV),([St m,St p,hv,bv] : List AV)[i]?=some x→∀ {K' : AV→Prop},aj M' (.ptr M.next i) K'=K' x:=fun k i x hx=>aO (k.aP n1 l1 (by simp)) hx
 simp only[jd]
 rw[ld (ae.refl _ _) 3 bv rfl]
 refine hk (aK.keep hsv k01 (by simp)) (by omega) fun v2 M2 o2 k2=>?_
 rw[hb.len,yG (by rfl) (by rfl) (by rfl)]
 simp only[aT]
 have k02:=k01.trans k2
 refine yK (E:=INT) (a:=(body.length:Int)) (Own.mono o2 k01.next) k02.next (by decide) (by omega) (by omega) fun v3 M3 o3 k3 _ _=>?_
 have k03:ae [] M M3:=ae.own k02 k3 (fun x hx=>by have:=(Own.blk o2 x hx).1; have:=k01.next; omega)
 have k13:ae [] M1 M3:=ae.own k2 k3 (fun x hx=>(Own.blk o2 x hx).1)
 generalize hns:sizes++[(body.length:Int)]=ns at *
 have hnl:ns.length≤1001:=by rw[← hns]; simp; omega
 have s3:Sl INT M3 v3 ns:=Own.l8 o3
 rw[aK.len s3]
 refine dL (fun z ys M4=>∃ (i:Nat) (av rv:AV) (acc rest:Str),z=ns.length - i∧ys=[av,rv,N .i64 (i:Int)]∧i≤ns.length∧ae [] M3 M4∧Ow BY M4 M1.next T8 av acc∧Bs M4 rv rest∧(∀ x∈aL rv,x∈aL bv) ∧
   ji ns [] body=ji (ns.drop i) acc rest∧acc.length + rest.length≤i * 30 + body.length) _
  ⟨0,aH,bv,[],body,rfl,rfl,Nat.zero_le _,ae.refl _ _,.nil,hb.keep k03 (by simp),fun x hx=>hx,rfl,by simp⟩ ?_
 rintro next z ys M4 hnext ⟨i,av,rv,acc,rest,rfl,rfl,hi,k4,oa,hr,hrb,hch,hal⟩
 simp only[aZ,bZ,vC]
 have k34:=k03.trans k4
 have k14:=k13.trans k4
 refine cO (fun h=>?_) fun h=>?_
 ·have hlt:i<ns.length:=by simpa using h
  have s4:Sl INT M4 v3 ns:=aK.keep s3 k4 (by simp)
  obtain⟨b0,o0,_,_,hix,hld⟩:=s4.at 1 (i:Int) hlt
  have hdr:ns.drop i=ns[i] :: ns.drop (i + 1):=List.drop_eq_getElem_cons hlt
  rw[nJ,hix,dR]
  refine⟨_,dV.1 hld, ?_⟩
  rw[hr.len,Ls]
  have hcut:(if false=true then(if (rest.length:Int) > ns[i] then(rest.length:Int) else ns[i]) else if (rest.length:Int)<ns[i] then(rest.length:Int) else ns[i])=tu ns[i] rest:=by
   unfold tu; simp
  rw[hcut,iQ]
  refine cO (fun h=>?_) fun h=>?_
  ·simp only[aZ,bZ]
   rw[add1 (by omega)]
   refine hnext _ _ _ (by omega) ⟨i + 1,av,rv,acc,rest,rfl,rfl,by omega,k4,oa,hr,hrb, ?_,by omega⟩
   rw[hch,hdr,ji,h]
  ·obtain⟨k,hk,hkl,hk1⟩ : ∃ k:Nat,tu ns[i] rest=(k:Int)∧k≤rest.length∧1≤k:=by
    have h1:¬ tu ns[i] rest<1:=by simpa using h
    refine⟨(tu ns[i] rest).toNat,by omega, ?_,by omega⟩
    have:tu ns[i] rest≤rest.length:=by unfold tu; split <;> omega
    omega
   have hstep:ji (ns.drop i) acc rest=ji (ns.drop (i + 1)) (acc++oK (rest.take k)) (rest.drop k):=by
    rw[hdr,ji,h,hk,Int.toNat_natCast]
   have htl:(rest.take k).length=k:=by simp; omega
   have hcb:oK (rest.take k)=fV k++[13,10]++rest.take k++[13,10]:=by unfold oK; rw[htl]
   have hxl:(fV k).length≤20:=qw _ _ _
   rw[hk]
   obtain⟨t39,e39,h39,hsub39⟩ : ∃ v',dE 1 rv none (some (N .i64 (k:Int))) none=some v'∧Bs M4 v' (rest.take k)∧(∀ x∈aL v',x∈aL rv):=by
    have:=hr.sub (Gr 0) (kR _ k .i64) (Nat.zero_le _) hkl (K:=fun v'=>Bs M4 v' (rest.take k)∧(∀ x∈aL v',x∈aL rv)) (fun v' h1 h2=>⟨by simpa using h1,h2⟩)
    obtain⟨v',h1,h2⟩:=this
    exact⟨v',h1,h2.1,h2.2⟩
   obtain⟨t46,e46,h46,Qb⟩ : ∃ v',dE 1 rv (some (N .i64 (k:Int))) none none=some v'∧Bs M4 v' (rest.drop k)∧(∀ x∈aL v',x∈aL rv):=by
    have:=hr.sub (kR 0 k .i64) (Gr _) hkl (Nat.le_refl _) (K:=fun v'=>Bs M4 v' (rest.drop k)∧(∀ x∈aL v',x∈aL rv)) (fun v' h1 h2=>⟨by rw[List.take_of_length_le (by simp)] at h1; exact h1,h2⟩)
    obtain⟨v',h1,h2⟩:=this
    exact⟨v',h1,h2.1,h2.2⟩
   -- put together
   have fin:∀ (M5:RM) (t36 t41:AV),ae [] M4 M5→Bs M5 t36 (fV k++[13,10])→Bs M5 t41 [13,10] →
     (dC TB 4 [(.sc (.slice none 0 0))] [(0,1,av),(1,1,t36),(2,1,t39),(3,1,t41)] fun SA TL=>uT SA TL M5 fun t42 NG b_19=>cc [t42] NG fun t43 Kb=>bI (dE 1 rv (some (N .i64 (k:Int))) none none) fun t46=>af .add (N .i64 (i:Int)) (N .i64 1) fun t47=>next [(ak [t43,t46] 0),(ak [t43,t46] 1),t47] Kb):=by
    intro M5 t36 t41 k5 h36 h41
    have a5:=oa.keep k5 (by simp)
    have b5:=h39.keep k5 (by simp)
    rw[QR (z:=.sc (.slice none 0 0)) (zs:=[]) (Own.cells a5) (aK.cells h36.sl) (aK.cells b5.sl) (aK.cells h41.sl) (Own.one a5) (aK.one h36.sl) (aK.one b5.sl) (aK.one h41.sl)]
    simp only[Cr]
    have k6:ae [] M5 (M5.push (.row [av,t36,t39,t41] false TB 0)):=(ae.refl _ _).push _
    have n6:(M5.push (.row [av,t36,t39,t41] false TB 0)).heap M5.next=some (.row [av,t36,t39,t41] false TB 0):=by simp[RM.push]
    have l6:M5.next<(M5.push (.row [av,t36,t39,t41] false TB 0)).next:=by simp[RM.push]
    generalize M5.push (.row [av,t36,t39,t41] false TB 0)=M6 at *
    have hfl:([acc,fV k++[13,10],rest.take k,[13,10]] : List Str).flatten=acc++oK (rest.take k):=by rw[hcb]; simp
    have hfll:(acc++oK (rest.take k)).length≤acc.length + 24 + k:=by
     rw[hcb]; simp only[List.length_append,List.length_cons,List.length_nil,htl]; omega
    have Sv:0<(acc++oK (rest.take k)).length:=by
     rw[hcb]; simp only[List.length_append,List.length_cons,List.length_nil]; omega
    refine hc (vs:=[av,t36,t39,t41]) (xss:=[acc,fV k++[13,10],rest.take k,[13,10]]) n6 l6 rfl (by simp) (fun j v x hv hx=>?_) (by rw[hfl]; exact Sv) (by
      rw[hfl]
      have:i * 30≤1001 * 30:=Nat.mul_le_mul_right _ (by omega)
      omega) fun r M7 o7 k7=>?_
    ·rcases j with _ | _ | _ | _ | j
     ·cases hv; cases hx; exact aK.keep (Own.l8 a5) k6 (by simp)
     ·cases hv; cases hx; exact aK.keep h36.sl k6 (by simp)
     ·cases hv; cases hx; exact aK.keep b5.sl k6 (by simp)
     ·cases hv; cases hx; exact aK.keep h41.sl k6 (by simp)
     ·cases hv
    rw[hfl] at o7
    have k47:=k5.trans (k6.trans k7)
    rw[e46,eB]
    simp only[aZ,bZ]
    rw[add1 (by omega)]
    refine hnext _ _ _ (by omega) ⟨i + 1,r,t46,acc++oK (rest.take k),rest.drop k,rfl,rfl,by omega,k4.trans k47,Own.mono o7 (Nat.le_trans (k14.trans k5).next k6.next),h46.keep k47 (by simp),fun x hx=>hrb x (Qb x hx),by rw[hch,hstep], ?_⟩
    have:(rest.drop k).length=rest.length - k:=by simp
    omega
   refine⟨?_, ?_⟩
   ·rw[e39,eB]
    refine⟨[N .u8 13,N .u8 10],rfl, ?_⟩
    simp only[Cr]
    have k5:ae [] M4 (M4.push (.row [N .u8 13,N .u8 10] false T8 0)):=(ae.refl _ _).push _
    have n5:(M4.push (.row [N .u8 13,N .u8 10] false T8 0)).heap M4.next=some (.row [N .u8 13,N .u8 10] false T8 0):=by simp[RM.push]
    have l5:M4.next<(M4.push (.row [N .u8 13,N .u8 10] false T8 0)).next:=by simp[RM.push]
    generalize M4.push (.row [N .u8 13,N .u8 10] false T8 0)=M5 at *
    refine hf ((k34.trans k5).base.trans hB) (by omega) fun M6 k6=>?_
    have n6:=k6.aP n5 l5 (by simp)
    have l6:=Nat.lt_of_lt_of_le l5 k6.next
    rw[eB]
    refine⟨rfl,[N .u8 13,N .u8 10],rfl,⟨n6,rfl⟩, ?_⟩
    rw[bN]
    refine⟨by simp; omega, ?_⟩
    rw[iB]
    have b7:=Bs.new M6 T8 (fV k++[13,10])
    have k7:ae [] M6 (M6.push (.row (BY.row (fV k++[13,10])) true T8 0)):=(ae.refl _ _).push _
    have n7:=k7.aP n6 l6 (by simp)
    have m7:(M6.push (.row (BY.row (fV k++[13,10])) true T8 0)).heap M6.next=some (.row (BY.row (fV k++[13,10])) true T8 0):=by simp[RM.push]
    have l7:M4.next<(M6.push (.row (BY.row (fV k++[13,10])) true T8 0)).next:=by simp[RM.push]; omega
    have l7' : M6.next<(M6.push (.row (BY.row (fV k++[13,10])) true T8 0)).next:=by simp[RM.push]
    generalize hM7:M6.push (.row (BY.row (fV k++[13,10])) true T8 0)=M7 at *
    refine⟨M4.next,0,2,2,[N .u8 13,N .u8 10],T8,rfl,n7, ?_⟩
    have k47:ae [] M4 M7:=k5.trans (k6.trans k7)
    have k8:ae [] M4 (M7.put M4.next (.row [N .u8 13,N .u8 10] false T8 (([N .u8 13,N .u8 10] : List AV).length + 1))):=k47.new _ (Nat.le_refl _)
    have m8:(M7.put M4.next (.row [N .u8 13,N .u8 10] false T8 (([N .u8 13,N .u8 10] : List AV).length + 1))).heap M6.next=some (.row (BY.row (fV k++[13,10])) true T8 0):=tL m7 (by omega)
    dsimp only
    rw[iB]
    refine⟨⟨m8,rfl⟩, ?_⟩
    rw[eB]
    refine⟨rfl, ?_⟩
    refine fin _ _ _ k8 ⟨?_,rfl⟩ ⟨?_,Nat.le_refl _⟩
    ·exact aK.slc _ _ _ _ _ (by rw[Gd]; exact l7') (by rw[RM.gP m8 (by rw[Enc.fC]; simp[BY]),List.drop_zero,List.take_of_length_le (by rw[Enc.fC]; simp[BY])])
    ·refine aK.slc _ _ _ _ _ (by rw[Gd]; exact l7) ?_
     rw[RM.gP (aN _) (by decide)]
     rfl
   ·refine⟨[N .u8 13,N .u8 10],rfl, ?_⟩
    simp only[Cr]
    rw[e39,eB]
    refine⟨M4.next,0,2,2,[N .u8 13,N .u8 10],T8,rfl,by simp[RM.push], ?_⟩
    have k5:ae [] M4 ((M4.push (.row [N .u8 13,N .u8 10] false T8 0)).put M4.next (.row [N .u8 13,N .u8 10] false T8 (([N .u8 13,N .u8 10] : List AV).length + 1))):=((ae.refl _ _).push _).new _ (Nat.le_refl _)
    have b5:Bs ((M4.push (.row [N .u8 13,N .u8 10] false T8 0)).put M4.next (.row [N .u8 13,N .u8 10] false T8 (([N .u8 13,N .u8 10] : List AV).length + 1))) (.slc M4.next 0 2 (.ex 2)) [13,10]:=⟨by
     refine aK.slc _ _ _ _ _ (by simp[RM.push,RM.put]) ?_
     rw[RM.gP (aN _) (by decide)]
     rfl,Nat.le_refl _⟩
    dsimp only
    rw[eB]
    refine⟨rfl, ?_⟩
    refine hf ((k34.trans k5).base.trans hB) (by omega) fun M6 k6=>?_
    rw[eB]
    refine⟨rfl, ?_⟩
    rw[bN]
    refine⟨by simp; omega, ?_⟩
    rw[iB]
    have k7:ae [] M6 (M6.push (.row (BY.row (fV k++[13,10])) true T8 0)):=(ae.refl _ _).push _
    exact fin _ _ _ (k5.trans (k6.trans k7)) (Bs.new M6 T8 _) (b5.keep (k6.trans k7) (by simp))
 ·have:i=ns.length:=by simp at h; omega
  subst this
  rw[List.drop_length] at hch
  have hch' : ji ns [] body=(acc,rest):=hch
  rw[hch'] at hQ hE
  have:ns.length * 30≤1001 * 30:=Nat.mul_le_mul_right _ hnl
  refine Hq oa k14.next (by simp; omega) fun v5 M5 o5 k5=>?_
  have k15:ae [] M1 M5:=ae.own k14 k5 (fun x hx=>(Own.blk oa x hx).1)
  have k05:ae [] M M5:=k01.trans k15
  rw[ld k15 0 (St m) rfl,bN]
  refine⟨by simp; omega, ?_⟩
  rw[ld k15 1 (St p) rfl,bN]
  refine⟨by simp; omega, ?_⟩
  rw[bN]
  refine⟨by simp; omega, ?_⟩
  rw[bN]
  refine⟨by simp; omega, ?_⟩
  rw[ld k15 2 hv rfl,jm]
  refine⟨_,Bu rfl rfl rfl rfl, ?_⟩
  rw[ld k15 3 bv rfl,hb.len]
  have hl5:(acc++J4).length≤100000000 - 2048:=by simp; omega
  refine hp (more:=(JU,Eb)) (body:=acc++J4) (sz:=body.length) (k05.base.trans hB) (aK.keep hh k05 (by simp)) hll hle (by simp; omega) (by simp) (by simp) (Own.l8 o5) (by omega) (fun s v' M6 e6 hl6 k6 o6=>?_) (fun e' M6 e6 he k6=>?_)
  ·simp only[bn,bq]
   exact hQ s v' M6 e6 (by omega) (k05.trans k6) (Own.mono o6 k05.next)
  ·simp only[bn,bq]
   exact hE e' M6 e6 he (k05.trans k6)
end Go.Ab.Hw
set_option maxRecDepth 20000
namespace Go.Ab.Hw
open Go Go.Ab Go.Ab.Sm
open Go.Ab.Vl (mh)
theorem jS {f:(List AV→RM→Prop)→Prop} {g:List AV→RM→Prop} (x:List AV) (N:RM) (hf:∀ J:List AV→RM→Prop,J x N→f J) (hg:g x N) : dG f g:=hf g hg
def uP (n:Nat) : Int:=RU .u8 (n:Int) 32
def Fs (c:ai) : Prop:=∀ {M:RM} {x:UInt8} {Q:ah},Q (N .u8 (uP x.toNat)) M→c [By x] M Q
theorem JL:Fs fun args M Q=>∃ a0,args=[a0]∧gW a0 M Q:=by
 intro M x Q hQ
 refine⟨_,rfl, ?_⟩
 unfold gW
 rw[OP]
 exact hQ
def IJ (n:Nat) : Bool:=!(jW (bJ (UInt8.ofNat n)) && !dI (UInt8.ofNat n)) || (decide (97≤uP n) && decide (uP n≤122) && decide (uP n - 97 + 10=(lQ (UInt8.ofNat n) : Int)) && !decide (n=95))
theorem K9:(List.range 256).all IJ=true:=by decide +kernel
theorem Na (x:UInt8) : IJ x.toNat=true:=List.all_eq_true.1 K9 x.toNat (List.mem_range.2 x.toNat_lt)
theorem Ia {x:UInt8} (h:jW (bJ x)=true) (hd:dI x=false) : 97≤uP x.toNat∧uP x.toNat≤122∧uP x.toNat - 97 + 10=(lQ x:Int)∧x.toNat≠95:=by
 have:=Na x
 unfold IJ at this
 rw[UInt8.ofNat_toNat,h,hd] at this
 simp only[Bool.not_false,Bool.and_self,Bool.not_true,Bool.false_or,Bool.and_eq_true,decide_eq_true_eq,Bool.not_eq_true',decide_eq_false_iff_not] at this
 exact⟨this.1.1.1,this.1.1.2,this.1.2,this.2⟩
theorem K8 {s:Str} {i:Nat} (hi:i<s.length) : kF (s.take (i + 1))=kF (s.take i) * 16 + lQ s[i]:=by
 unfold kF
 rw[List.take_succ_eq_append_getElem hi,List.foldl_append]
 rfl
theorem Ce {n:Int} (h0:0≤n) (h1:n<18446744073709551616) : IntKind.wrap .u64 n=n:=by
 simp only[IntKind.wrap,show(2:Int) ^ IntKind.u64.bits=18446744073709551616 from by decide]
 simp[IntKind.signed]
 omega
theorem Be {TE T8:Nat} {cl cu:ai} (hl:Fs cl) : Dh fun args M Q=>∃ a0 a1 a2,args=[a0,a1,a2]∧fD TE cl T8 cu a0 a1 a2 M Q:=by
 intro M s Q h1 h8 hx hQ
 refine⟨_,_,_,rfl, ?_⟩
 unfold fD
 have hne:(s == [])=false:=by cases s with | nil=>simp at h1 | cons a b=>rfl
 rw[dQ,hne,aY,aX,show((16:Int) == 0)=false from rfl]
 refine jS (x:=[St s,N .i64 16]) (N:=M) (fun J hJ=>?_) ?_
 ·rw[nR,show decide ((2:Int)≤16)=true from rfl]
  simp only[bR,nR]
  rw[show decide ((16:Int)≤36)=true from rfl]
  simp only[cZ,bP]
  exact hJ
 simp only[aZ,bZ]
 refine jS (x:=[N .i64 64]) (N:=M) (fun J hJ=>?_) ?_
 ·rw[aX,show((64:Int) == 0)=false from rfl,aY,iQ,show decide ((64:Int)<0)=false from rfl]
  simp only[dN,ed]
  rw[show decide ((64:Int) > 64)=false from rfl]
  simp only[dK,aY]
  exact hJ
 simp only[aZ,bZ]
 refine jS (x:=[N .u64 1152921504606846976]) (N:=M) (fun J hJ=>?_) ?_
 ·rw[aX,show((16:Int) == 10)=false from rfl,aY,aX,show((16:Int) == 16)=true from rfl,bP]
  exact hJ
 simp only[aZ,bZ]
 rw[kG,OI]
 refine⟨by decide, ?_⟩
 rw[jv,iB]
 simp only[aT,jo]
 have hmax:IntKind.wrap .u64 (Qe .u64 1 (IntKind.wrap .u64 64) - 1)=18446744073709551615:=by decide +kernel
 rw[hmax]
 have hk1:ae [] M (M.push (.row (BY.row s) true T8 0)):=(ae.refl _ _).push _
 have hr1:Rw BY (M.push (.row (BY.row s) true T8 0)) M.next true T8 s:=Rw.new M s
 generalize M.push (.row (BY.row s) true T8 0)=M1 at *
 refine dL (fun m ys M3=>∃ i:Nat,m=s.length - i∧ys=[Bo false,N .u64 (kF (s.take i) : Int),N .i64 (i:Int)]∧i≤s.length∧M3=M1) _ ⟨0,rfl,rfl,Nat.zero_le _,rfl⟩ ?_
 rintro next m ys M3 hnext ⟨i,rfl,rfl,hi,rfl⟩
 simp only[aZ,bZ,vC]
 refine cO (fun h=>?_) fun h=>?_
 ·have hlt:i<s.length:=by simpa using h
  have hc:=hr1.aj hlt
  have cb:=yQ s[i]
  have hmem:jW (bJ s[i])=true:=by
   unfold low at hx
   rw[List.all_map] at hx
   exact List.all_eq_true.1 hx s[i] (List.getElem_mem hlt)
  have hdv:=He hmem
  have hall:(low (s.take i)).all jW=true:=by
   rw[List.all_eq_true]
   intro y hy
   unfold low at hy
   rw[List.mem_map] at hy
   obtain⟨z,hz,rfl⟩:=hy
   unfold low at hx
   rw[List.all_map] at hx
   exact List.all_eq_true.1 hx z (List.mem_of_mem_take hz)
  have hlt2:=Ii hall (by simp; omega)
  have ht:=K8 hlt
  refine jS (x:=[Bo false,N .u64 (kF (s.take (i + 1)) : Int)]) (N:=M3) (fun J hJ=>?_) ?_
  rotate_left
  ·simp only[aZ,bZ]
   rw[add1 (by omega)]
   exact hnext _ _ _ (by omega) ⟨i + 1,rfl,rfl,by omega,rfl⟩
  rw[nI]
  refine⟨by omega,by omega, ?_⟩
  rw[dR]
  refine⟨By s[i],by simpa using hc, ?_⟩
  refine jS (x:=[Bo false,N .u8 (lQ s[i] : Int)]) (N:=M3) (fun J2 hJ2=>?_) ?_
  rotate_left
  ·simp only[aZ,bZ]
   rw[kG,show IntKind.wrap .u8 16=16 by decide,dx,show decide ((lQ s[i] : Int) ≥ 16)=false by simp; omega,aY,dx,show decide ((kF (s.take i) : Int) ≥ 1152921504606846976)=false by simp; omega,aY,kG,show IntKind.wrap .u64 16=16 by decide,
    ME,Ce (by omega) (by omega),kG,Ce (by omega) (by omega),vN,Ce (by omega) (by omega),iQ,show decide ((kF (s.take i) : Int) * 16 + (lQ s[i] : Int)<(kF (s.take i) : Int) * 16)=false from decide_eq_false (by omega)]
   simp only[dN,ed]
   rw[show decide ((kF (s.take i) : Int) * 16 + (lQ s[i] : Int) > 18446744073709551615)=false by simp; omega]
   simp only[dK,aY]
   have e:((kF (s.take (i + 1)) : Nat) : Int)=(kF (s.take i) : Int) * 16 + (lQ s[i] : Int):=by rw[ht]; omega
   rw[e] at hJ
   exact hJ
  rw[aX]
  have h95:((s[i].toNat:Int) == 95)=false:=by
   cases hd:dI s[i] with
   | true =>
     unfold dI at hd
     simp only[Bool.and_eq_true,decide_eq_true_eq] at hd
     simp; omega
   | false =>
     have:=(Ia hmem hd).2.2.2
     simp; omega
  rw[h95]
  simp only[fU,dK,aY,dB,aZ,nR]
  cases hd:dI s[i] with
  | true =>
    have hd':=hd
    unfold dI at hd'
    simp only[Bool.and_eq_true,decide_eq_true_eq] at hd'
    rw[show decide ((48:Int)≤(s[i].toNat:Int))=true by simp; omega]
    simp only[bR]
    rw[show decide ((s[i].toNat:Int)≤57)=true by simp; omega]
    simp only[cZ,bP]
    rw[jv,iq (by omega) (by omega)]
    have hv:(s[i].toNat:Int) - 48=(lQ s[i] : Int):=by unfold lQ; rw[if_pos (by omega)]; omega
    rw[hv]
    exact hJ2
  | false =>
    obtain⟨q1,q2,q3,_⟩:=Ia hmem hd
    have hno:(decide ((48:Int)≤(s[i].toNat:Int)) && decide ((s[i].toNat:Int)≤57))=false:=by
     rw[← hd]; unfold dI; rfl
    refine ou (p:=decide ((s[i].toNat:Int)≤57)) (fun _ k hk=>hk) ?_
    rw[hno,aY]
    refine hl ?_
    rw[nR,show decide ((97:Int)≤uP s[i].toNat)=true by simpa using q1]
    simp only[bR]
    refine hl ?_
    rw[nR,show decide (uP s[i].toNat≤(122:Int))=true by simpa using q2]
    simp only[cZ,bP]
    refine hl ?_
    rw[jv,iq (by omega) (by omega),vN,iq (by omega) (by omega),q3]
    exact hJ2
 ·have:i=s.length:=by simp at h; omega
  subst this
  simp only[fU,dK,aY]
  rw[List.take_length]
  exact hQ _ hk1
theorem CK {cp ct:ai} (hp:Dh cp) : Dh fun args M Q=>∃ a0 a1 a2,args=[a0,a1,a2]∧jJ cp ct a0 a1 a2 M Q:=by
 intro M s Q h1 h8 hx hQ
 refine⟨_,_,_,rfl, ?_⟩
 unfold jJ
 refine hp h1 h8 hx fun M1 k1=>?_
 simp only[bn,bq]
 refine .inr ⟨rfl,rfl, ?_⟩
 dsimp only
 rw[show(!true)=false from rfl,aY]
 exact hQ M1 k1
def iZ (n:Nat) : UInt8:=if n<10 then UInt8.ofNat (48 + n) else UInt8.ofNat (87 + n)
theorem uW {base f n:Nat} (h:n<base) : lU base (f + 1) n=[iZ n]:=by
 rw[lU,BZ h]; rfl
theorem zU {base f n:Nat} (h:¬ n<base) : lU base (f + 1) n=lU base f (n / base)++[iZ (n % base)]:=by
 rw[lU,kJ h]; rfl
abbrev Al:Str:=[48,49,50,51,52,53,54,55,56,57,97,98,99,100,101,102,103,104,105,106,107,108,109,110,111,112,113,114,115,116,117,118,119,120,121,122]
theorem NA:∀ m:Fin 16,Al[m.val]?=some (iZ m.val):=by decide
theorem Hm {n:Nat} (h:n<16) {K:AV→Prop} : dX (St Al) (N .u64 (n:Int)) K=K (By (iZ n)):=by
 have hl:n<Al.length:=Nat.lt_of_lt_of_le h (by decide)
 rw[mh hl]
 have:=NA ⟨n,h⟩
 rw[List.getElem?_eq_getElem hl] at this
 rw[Option.some.inj this]
def RP (B:Base) (c:ai) : Prop:=∀ {M:RM} {Q:ah},M.base=B→Q (N .i64 4) M→c [N .u64 16] M Q
def Jo (c:ai) : Prop:=∀ {M:RM} {Q:ah},Q (Bo true) M→c [N .i64 16] M Q
theorem Mi:Jo fun args M Q=>∃ a0,args=[a0]∧eP a0 M Q:=by
 intro M Q hQ
 refine⟨_,rfl, ?_⟩
 unfold eP
 rw[jv,AL,show JP .i64 16 (IntKind.wrap .i64 (16 - 1))=0 by decide +kernel,aX,show((0:Int) == 0)=true from rfl]
 exact hQ
def Ka (B:Base) (c:ai) : Prop:=∀ {M:RM} {n:Nat} {Q:ah},M.base=B→n<4294967296→(∀ M',ae [] M M'→Q (.tup [aH,St (fV n)]) M')→c [aH,N .u64 (n:Int),N .i64 16,Bo false,Bo false] M Q
theorem KV {B:Base} {TA n:Nat} {cp ct:ai} (hp:Jo cp) (ht:RP B ct) {M M0:RM} {zs:List AV} (hB:M.base=B) (hn:n<4294967296) (hzl:zs.length=65) (k0:ae [] M M0) (n0:M0.heap M.next=some (.row zs false TA 0)) (l0:M.next<M0.next) :
  ∀ J13:List AV→RM→Prop,(∀ (i:Nat) (M3:RM) (X:List AV),M3.heap M.next=some (.row (X++BY.row (fV n)) false TA 0)→X.length=i→i + (fV n).length=65→ae [] M M3→M.next<M3.next→J13 [N .i64 (i:Int)] M3) →
    dG (fun J13=>cp [N .i64 16] M0 fun t34 Pt=>ax t34 ( gZ .u64 (N .i64 16) fun t36=>ct [t36] Pt fun t37 TY=>gZ .u64 t37 fun t38=>gZ .u64 (N .i64 16) fun t40=>gZ .u64 (N .i64 16) fun t42=>af .sub t42 (N .u64 1) fun t43=>fw (fun next yR Qf=>af .geq (ak yR 0) t40 fun t46=>ax t46 ( af .sub (ak yR 1) (N .i64 1) fun t48=>af .and (ak yR 0) t43 fun t52=>dX (St Al) t52 fun t53=>mQ (.ptr M.next 0) t48 65 1 fun t54=>aG Qf t54 t53 1 fun NG=>wR .shr (ak yR 0) t38 fun t57=>next [t57,t48] NG) ( af .sub (ak yR 1) (N .i64 1) fun t59=>dX (St Al) (ak yR 0) fun t62=>mQ (.ptr M.next 0) t59 65 1 fun t63=>aG Qf t63 t62 1 fun Ta=>J13 [t59] Ta)) [N .u64 (n:Int),(N .i64 65)] TY) ( gZ .u64 (N .i64 16) fun t65=>fw (fun Ol yM Px=>af .geq (ak yM 0) t65 fun t68=>ax t68 ( af .sub (ak yM 1) (N .i64 1) fun t70=>af .quo (ak yM 0) t65 fun t73=>af .mul t73 t65 fun t78=>af .sub (ak yM 0) t78 fun t79=>dX (St Al) t79 fun t80=>mQ (.ptr M.next 0) t70 65 1 fun t81=>aG Px t81 t80 1 fun Mg=>Ol [t73,t70] Mg) ( af .sub (ak yM 1) (N .i64 1) fun t84=>dX (St Al) (ak yM 0) fun t87=>mQ (.ptr M.next 0) t84 65 1 fun t88=>aG Px t88 t87 1 fun Sq=>J13 [t84] Sq)) [N .u64 (n:Int),(N .i64 65)] Pt)) J13:=by
 intro J13 hJ
 refine(show ∀ (f:(List AV→RM→Prop)→Prop) (g:List AV→RM→Prop),f g→dG f g from fun _ _ h=>h) _ _ ?_
 refine hp ?_
 rw[bP,kG,show IntKind.wrap .u64 16=16 by decide]
 refine ht (k0.base.trans hB) ?_
 rw[kG,show IntKind.wrap .u64 4=4 by decide,kG,show IntKind.wrap .u64 16=16 by decide,kG,show IntKind.wrap .u64 16=16 by decide,jv,show IntKind.wrap .u64 (16 - 1)=15 by decide]
 refine dL (fun m ys M3=>∃ (u f:Nat) (X:List AV) (ds:Str),u=m∧ys=[N .u64 (u:Int),N .i64 (X.length:Int)]∧X.length + ds.length=65∧f + ds.length=20∧1≤f∧u<16 ^ f∧u<4294967296∧fV n=lU 16 f u++ds∧M3.heap M.next=some (.row (X++BY.row ds) false TA 0)∧ae [] M M3∧M.next<M3.next) _
  ⟨n,20,zs,[],rfl,by rw[hzl]; rfl,by rw[hzl]; rfl,rfl,by decide,Nat.lt_of_lt_of_le hn (by decide),hn,by unfold fV; rw[List.append_nil],by rw[Enc.Oz,List.append_nil]; exact n0,k0,l0⟩ ?_
 rintro next m ys M3 hnext ⟨u,f,X,ds,rfl,rfl,hXl,hf,hf1,huf,hu,P5,hrow,k3,l3⟩
 simp only[aZ,bZ]
 have hXp:1≤X.length:=by omega
 obtain⟨Y,y,rfl⟩ : ∃ Y y,X=Y++[y]:=⟨X.dropLast,X.getLast (by intro e; rw[e] at hXp; simp at hXp),(List.dropLast_concat_getLast _).symm⟩
 simp only[List.length_append,List.length_cons,List.length_nil,Nat.zero_add] at hXl
 have hsub:∀ K:AV→Prop,af .sub (N .i64 (((Y++[y]).length:Nat) : Int)) (N .i64 1) K=K (N .i64 (Y.length:Int)):=fun K=>by
  rw[show(N .i64 1)=N .i64 ((1:Nat) : Int) from rfl,FL (by simp) (by simp; omega)]
  simp
 have hidx:∀ K:AV→Prop,mQ (.ptr M.next 0) (N .i64 (Y.length:Int)) 65 1 K=K (.ptr M.next Y.length):=fun K=>by
  rw[MS]
  simp only[Int.toNat_natCast,Nat.mul_one,Nat.zero_add]
  exact propext ⟨fun h=>h.2.2,fun h=>⟨by omega,by omega,h⟩⟩
 have hset:∀ d:UInt8,((Y++[y])++BY.row ds).set Y.length (By d)=Y++BY.row (d :: ds):=fun d=>by
  rw[List.append_assoc,List.set_append_right _ _ (Nat.le_refl _),Nat.sub_self]
  rfl
 have hput:∀ (d:UInt8) (K:RM→Prop),aG M3 (.ptr M.next Y.length) (By d) 1 K=K (M3.put M.next (.row (Y++BY.row (d :: ds)) false TA 0)):=fun d K =>
  fP _ hrow (by simp) rfl rfl (hset d)
 have PE:∀ d:UInt8,ae [] M (M3.put M.next (.row (Y++BY.row (d :: ds)) false TA 0)):=fun d=>k3.new _ (Nat.le_refl _)
 rw[dx]
 refine cO (fun h=>?_) fun h=>?_
 ·have h16:¬ u<16:=by simp at h; omega
  obtain⟨g,rfl⟩ : ∃ g,f=g + 1:=⟨f - 1,by omega⟩
  have hg1:1≤g:=by
   rcases Nat.eq_zero_or_pos g with e | e
   ·subst e; simp at huf; omega
   ·exact e
  rw[hsub,AL,show(15:Int)=((15:Nat) : Int) from rfl,Nr rfl]
  have hand:(u &&& 15) % 2 ^ AY .u64=u % 16:=by
   rw[show(15:Nat)=2 ^ 4 - 1 from rfl,Nat.and_two_pow_sub_one_eq_mod]
   exact Nat.mod_eq_of_lt (Nat.lt_of_lt_of_le (Nat.mod_lt _ (by decide)) (by decide))
  rw[hand,Hm (Nat.mod_lt _ (by decide)),hidx,hput,Iw]
  refine⟨by decide, ?_⟩
  have Sg:NF .u64 (u:Int) 4=((u / 16:Nat) : Int):=by
   unfold NF
   rw[show(2:Int) ^ min (Int.toNat 4) IntKind.u64.bits=16 by decide,Int.fdiv_eq_ediv_of_nonneg _ (by decide)]
   omega
  rw[Sg]
  refine hnext (u / 16) _ _ (by omega) ⟨u / 16,g,Y,iZ (u % 16) :: ds,rfl,rfl,by simp; omega,by simp; omega,hg1, ?_,by omega, ?_,aN _,PE _,l3⟩
  ·rw[Nat.pow_succ] at huf
   exact Nat.div_lt_of_lt_mul (by rw[Nat.mul_comm]; exact huf)
  ·rw[P5,zU h16]; simp
 ·have h16:u<16:=by simp at h; omega
  obtain⟨g,rfl⟩ : ∃ g,f=g + 1:=⟨f - 1,by omega⟩
  rw[hsub,Hm h16,hidx,hput]
  have hd:fV n=iZ u :: ds:=by rw[P5,uW h16]; rfl
  refine hJ Y.length _ Y ?_ rfl (by rw[hd]; simp; omega) (PE _) l3
  rw[hd]; exact aN _
theorem LQ {B:Base} {TS TA T8:Nat} {cp ct:ai} (hp:Jo cp) (ht:RP B ct) : Ka B fun args M Q=>∃ a0 a1 a2 a3 a4,args=[a0,a1,a2,a3,a4]∧fo TS TA cp ct T8 a0 a1 a2 a3 a4 M Q:=by
 intro M n Q hB hn hQ
 refine⟨_,_,_,_,_,rfl, ?_⟩
 unfold fo
 refine jS [] M (fun J hJ=>?_) ?_
 ·rw[iQ,show decide ((16:Int)<2)=false from rfl]
  simp only[dN,aX]
  rw[show((16:Int) == 10)=false from rfl]
  simp only[dK,dN,ed]
  rw[show decide ((16:Int) > 36)=false from rfl]
  simp only[dK,aY]
  exact hJ
 simp only[aT]
 generalize hz:([(N .u8 0),(N .u8 0),(N .u8 0),(N .u8 0),(N .u8 0),(N .u8 0),(N .u8 0),(N .u8 0),(N .u8 0),(N .u8 0),(N .u8 0),(N .u8 0),(N .u8 0),(N .u8 0),(N .u8 0),(N .u8 0),(N .u8 0),(N .u8 0),(N .u8 0),(N .u8 0),(N .u8 0),(N .u8 0),(N .u8 0),(N .u8 0),(N .u8 0),(N .u8 0),(N .u8 0),(N .u8 0),(N .u8 0),(N .u8 0),(N .u8 0),(N .u8 0),(N .u8 0),(N .u8 0),(N .u8 0),(N .u8 0),(N .u8 0),(N .u8 0),(N .u8 0),(N .u8 0),(N .u8 0),(N .u8 0),(N .u8 0),(N .u8 0),(N .u8 0),(N .u8 0),(N .u8 0),(N .u8 0),(N .u8 0),(N .u8 0),(N .u8 0),(N .u8 0),(N .u8 0),(N .u8 0),(N .u8 0),(N .u8 0),(N .u8 0),(N .u8 0),(N .u8 0),(N .u8 0),(N .u8 0),(N .u8 0),(N .u8 0),(N .u8 0),(N .u8 0)] : List AV)=zs
 have hzl:zs.length=65:=by rw[← hz]; rfl
 have k0:ae [] M (M.push (.row zs false TA 0)):=(ae.refl _ _).push _
 have n0:(M.push (.row zs false TA 0)).heap M.next=some (.row zs false TA 0):=by simp[RM.push]
 have l0:M.next<(M.push (.row zs false TA 0)).next:=by simp[RM.push]
 generalize M.push (.row zs false TA 0)=M0 at *
 refine jS [N .u64 (n:Int)] M0 (fun J hJ=>?_) ?_
 ·rw[aY]; exact hJ
 simp only[aZ]
 -- the digits
 refine KV hp ht hB hn hzl k0 n0 l0 _ ?_
 intro i M3 X hrow hX hil k3 l3
 simp only[aZ]
 refine jS [N .i64 (i:Int)] M3 (fun J hJ=>?_) ?_
 ·rw[aY]; exact hJ
 simp only[aZ]
 have hpos:0<(fV n).length:=by
  unfold fV
  rw[lU]
  split <;> simp
 have hsub:qV 65 1 (.ptr M.next 0) (some (N .i64 (i:Int))) none=some (.slc M.next i (65 - i) (.ex (65 - i))):=by
  have e1:bnd 0 (some (N .i64 (i:Int)))=some i:=kR _ _ _
  have e2:bnd 65 none=some 65:=rfl
  simp only[qV,e1,e2]
  rw[if_pos ⟨(by omega:i≤65),Nat.le_refl _⟩,if_neg (by omega),Nat.zero_add,Nat.mul_one]
 rw[aY,hsub,eB]
 have hs:Sl BY M3 (.slc M.next i (65 - i) (.ex (65 - i))) (fV n):=by
  have e:65 - i=(fV n).length:=by omega
  unfold Sl
  rw[e]
  refine aK.slc _ _ _ _ _ ?_ ?_
  ·exact l3
  ·rw[RM.gP hrow (by rw[List.length_append,jZ,hX]; simp[BY])]
   rw[List.drop_left' hX,List.take_of_length_le (by rw[jZ]; simp[BY])]
 rw[hs.str]
 exact hQ M3 k3
end Go.Ab.Hw
namespace Go.Ab.Hw
open Go Go.Ab Go.Ab.Sm
theorem KF {B:Base} {TA:Nat} {c1 c2 c3 cb:ai} (hb:Ka B cb) : CG B fun args M Q=>∃ a0 a1,args=[a0,a1]∧fF c1 TA c2 c3 cb a0 a1 M Q:=by
 intro M n Q hB hn hQ
 refine⟨_,_,rfl, ?_⟩
 unfold fF
 rw[aX,show((16:Int) == 10)=false from rfl,aY,kG,Ce (by omega) (by omega),iQ,show decide ((n:Int)<0)=false by simp]
 refine hb hB hn fun M1 k1=>?_
 simp only[bn,bq]
 exact hQ M1 k1
theorem Mw {B:Base} {cf:ai} (hf:CG B cf) : CG B fun args M Q=>∃ a0 a1,args=[a0,a1]∧nD cf a0 a1 M Q:=by
 intro M n Q hB hn hQ
 exact⟨_,_,rfl,hf hB hn hQ⟩
end Go.Ab.Hw
set_option maxRecDepth 100000
namespace Go.Ab.Dk
open Go Go.Ab
end Go.Ab.Dk
namespace Go.Ab.Crw
open Go Go.Ab
end Go.Ab.Crw
namespace Go.Ab
open Go Go.RowKit
section
variable {P:Program} {ρ:Ren} {M:RM} {w w' : World}
theorem LX {base:Base} {A:AW} (hw0:bE P base ρ A w) (hbl:Below w.heap.size w w') (hbase:base≤w.heap.size) {x:gm} {ob:Obj} {i:dY} (hge:w.heap.size≤i.cb) (hob:w'.heap[i.cb]?=some ob)
  (hrel:gF P (ρ.add A.next i) i x ob) : bE P base (ρ.add A.next i) (A.push x) w'∧Step base A.next ρ w (ρ.add A.next i) w':=by
 have hb:ρ A.next=none:=hw0.fresh (Nat.le_refl _)
 have hw:=sP hw0 x
 have hx:(A.push x).heap.get A.next=some x:=by simp[AW.push,Tree.aU]
 have hlt:A.next<(A.push x).next:=by simp[AW.push]
 have hle:=Ren.qp (i:=i) hb
 have hadd:∀ c j,ρ.add A.next i c=some j→(c=A.next∧j=i)∨(c≠A.next∧ρ c=some j):=by
  intro c j h
  unfold Ren.add at h
  split at h
  ·cases h; exact .inl ⟨‹_›,rfl⟩
  ·exact .inr ⟨‹_›,h⟩
 have hcb:i.cb<w'.heap.size:=(Array.getElem?_eq_some_iff.1 hob).1
 refine⟨⟨?_, ?_, ?_,hw.top, ?_,base.low w _ (fun c hc=>hbl.block c (by omega)) hw.inv⟩,⟨hbl.os,hbl.tape,hbl.output,hbl.size, ?_, ?_, ?_,fun c hc=>hbl.block c (by omega)⟩⟩
 ·intro c j h
  rcases hadd c j h with⟨rfl,rfl⟩ | ⟨_,h⟩
  ·exact⟨hlt,hcb⟩
  ·have:=hw.dom c j h; have:=hbl.size; omega
 ·intro c j y h hy
  rcases hadd c j h with⟨rfl,rfl⟩ | ⟨_,h⟩
  ·rw[hx] at hy; cases hy
   exact⟨ob,hob,hrel⟩
  ·obtain⟨o,ho,hr⟩:=hw.blk c j y h hy
   exact⟨o,by rw[hbl.block j.cb (hw.dom c j h).2]; exact ho,hr.mono hle⟩
 ·intro b1 b2 i1 i2 x1 x2 h1 h2 g1 g2 he
  rcases hadd _ _ h1 with⟨e1,f1⟩ | ⟨_,k1⟩ <;> rcases hadd _ _ h2 with⟨e2,f2⟩ | ⟨_,k2⟩
  ·rw[e1,e2]
  ·have:=(hw.dom _ _ k2).2; subst f1; omega
  ·have:=(hw.dom _ _ k1).2; subst f2; omega
  ·exact hw.sep _ _ _ _ _ _ k1 k2 g1 g2 he
 ·intro c j y h hy
  rcases hadd c j h with⟨rfl,rfl⟩ | ⟨_,h⟩
  ·omega
  ·exact hw.lo c j y h hy
 ·intro c hc _; exact hbl.block c hc
 ·intro c hc; unfold Ren.add; rw[if_neg (by omega)]
 ·intro c j h
  rcases hadd c j h with⟨rfl,rfl⟩ | ⟨_,h⟩
  ·exact .inr hge
  ·exact .inl ⟨c,j,h,rfl⟩
theorem dH.O7 {f:FuncId} {args:List AV} {T n:Nat} {cs:List AV} {Q:ah} (hP:CJ P f) (hsz:aJ P T=some 1) (h1:cs.all oneCell=true) (hlen:cs.length=n)
  (h:∀ (ρ:Ren) (w:World) (us:List Value),aC ρ args us→bz P ρ M w→Calls P f ⟨us⟩ w fun e w'=>∃ v xs,e=.returned v∧w'.ownsRow w.heap.size T 1 v n xs∧(∀ ρ',aC ρ' cs xs)∧Below w.heap.size w w')
  (hQ:∀ v M',Own M' M.next T 1 v cs n→ae [] M M'→Q v M') : dH P f args M Q:=by
 refine⟨hP,fun ρ w us hargs hw=>(h ρ w us hargs hw).mono fun e w' hR=>?_⟩
 obtain⟨v,xs,rfl,⟨hxl,hrow⟩,hrel,hbl⟩:=hR
 rcases hrow with⟨rfl,h0⟩ | ⟨g,cap,cur,rfl,hge,hg,r1,r2,r3,r4⟩
 ·have:cs=[]:=List.length_eq_zero_iff.1 (by omega)
  subst this
  have hn:n=0:=h0
  subst hn
  exact⟨_,aH,M,ρ,rfl,After.below hw hbl,.sc _ rfl,hQ _ _ .nil (ae.refl _ _)⟩
 ·obtain⟨A,hA⟩:=hw
  obtain⟨tr,htr⟩:=iw cs .leaf 0 h1
  obtain⟨_,hget⟩:=dF _ _ _ htr
  obtain⟨_,hcell⟩:=tO htr
  have hblk:gF P (ρ.add A.next ⟨g,0,cap,1⟩) ⟨g,0,cap,1⟩ (.row n tr [] true T 0) (.cells cur T (0,0)):=by
   refine⟨cur,(0,0),rfl,⟨by show 0 + n≤_; omega,fun k x hx=>?_,fun k _ _=>by simp,fun h=>(by cases h),fun _=>⟨Nat.one_pos,by show cur.size=0 + cap * 1; omega,hsz⟩,rfl⟩⟩
   obtain⟨hk1,hk2⟩:=iY hx
   rw[hget,if_pos (by omega),Nat.sub_zero] at hk2
   obtain⟨v,hv,hvr⟩:=(hrel (ρ.add A.next ⟨g,0,cap,1⟩)).get hk2
   refine⟨v, ?_,hvr⟩
   show cur[0 + k]?=some v
   rw[Nat.zero_add,← Array.getElem?_toList]
   rw[← r4,Nat.mul_one,List.getElem?_take_of_lt (by omega)] at hv
   exact hv
  obtain⟨q1,q2⟩:=LX hA.rel hbl (Nat.le_trans (show M.base.n≤M.lo from Nat.le_refl _) hA.size) (i:=⟨g,0,cap,1⟩) hge hg hblk
  obtain⟨k1,k2,k3⟩:=RM.uo hA (x:=.row cs true T 0) (y:=.row n tr [] true T 0) ⟨hlen,rfl,rfl,rfl,fun k v hk=>by rw[← hlen]; exact hcell k v hk⟩
  have hnx:=hA.next
  refine⟨_,.slc M.next 0 n (.op 1),M.push (.row cs true T 0),_,rfl,gz hA q2 q1 k1 k2 (by simp[AW.push]) k3, ?_,hQ _ _ (.op M.next n cs (Nat.le_refl _) (by simp[RM.push]) (RM.lV _) (by omega)) ((ae.refl _ _).push _)⟩
  have:=ag.iR (ρ:=ρ.add A.next ⟨g,0,cap,1⟩) M.next 0 n ⟨g,0,cap,1⟩ (by rw[← hnx]; simp[Ren.add]) (by show 0 + n≤cap; omega)
  simpa using this
end
end Go.Ab
set_option maxRecDepth 10000
namespace Go.Ab.Hw
open Go Go.Ab Go.Ab.Sm
end Go.Ab.Hw
namespace Go.Ab.Hw
open Go Go.Ab
end Go.Ab.Hw
namespace Go.Ab.Hw
open Go Go.Ab Go.Ab.Sm
open Go.Ab.Vl (brk)
theorem xJ {p:UInt8→Bool} (h:(List.range 256).all (fun n=>p (UInt8.ofNat n))=true) (x:UInt8) : p x=true:=by
 have:=List.all_eq_true.1 h x.toNat (List.mem_range.2 x.toNat_lt)
 simpa using this
def NK (x:UInt8) : Bool:=!rV (bJ x) || (x != 13 && x != 58 && x != 10 && x != 32)
def Pn (x:UInt8) : Bool:=!qy x || (x != 13 && x != 10)
def LF (x:UInt8) : Bool:=!oM x || (x != 13 && x != 10 && x != 32)
def Qu (x:UInt8) : Bool:=!wH x || (x != 13 && x != 10 && x != 32)
theorem Kq:∀ x,NK x=true:=xJ (by decide +kernel)
theorem Nu:∀ x,Pn x=true:=xJ (by decide +kernel)
theorem Ja:∀ x,LF x=true:=xJ (by decide +kernel)
theorem Np:∀ x,Qu x=true:=xJ (by decide +kernel)
theorem AX {s:Str} (h:cB s=true) {x:UInt8} (hx:x∈s) : x≠13∧x≠58∧x≠10∧x≠32:=by
 unfold cB at h
 rw[Bool.and_eq_true] at h
 have h1:=List.all_eq_true.1 h.2 (bJ x) (List.mem_map.2 ⟨x,hx,rfl⟩)
 have h2:=Kq x
 unfold NK at h2
 rw[h1] at h2
 simpa [and_assoc] using h2
theorem Ht {s:Str} (h:bS s=true) {x:UInt8} (hx:x∈s) : x≠13∧x≠10:=by
 unfold bS at h
 rw[Bool.and_eq_true] at h
 have h1:=List.all_eq_true.1 h.2 x hx
 have h2:=Nu x
 unfold Pn at h2
 rw[h1] at h2
 simpa using h2
theorem wI {s:Str} (h:fJ s=true) {x:UInt8} (hx:x∈s) : x≠13∧x≠10∧x≠32:=by
 unfold fJ at h
 rw[Bool.and_eq_true] at h
 have h1:=List.all_eq_true.1 h.2 x hx
 have h2:=Ja x
 unfold LF at h2
 rw[h1] at h2
 simpa [and_assoc] using h2
theorem Av {s:Str} (h:gY s=true) {x:UInt8} (hx:x∈s) : x≠13∧x≠10∧x≠32:=by
 unfold gY at h
 rw[Bool.and_eq_true] at h
 have h1:=List.all_eq_true.1 h.2 x hx
 have h2:=Np x
 unfold Qu at h2
 rw[h1] at h2
 simpa [and_assoc] using h2
theorem OT:∀ m:Fin 10,(dI (iZ m.val) && ((iZ m.val).toNat - 48 == m.val) && qy (iZ m.val) && !([32,9] : Str).contains (iZ m.val))=true:=by decide +kernel
theorem EW (s:Str) (x:UInt8) : gI (s++[x])=gI s * 10 + (x.toNat - 48):=by simp[gI]
theorem Iy {d:Nat} (h:d<10) : dI (iZ d)=true∧(iZ d).toNat - 48=d∧qy (iZ d)=true∧([32,9] : Str).contains (iZ d)=false:=by
 have:=OT ⟨d,h⟩
 simp only[Bool.and_eq_true,beq_iff_eq,Bool.not_eq_true'] at this
 exact⟨this.1.1.1,this.1.1.2,this.1.2,this.2⟩
structure N8 (n:Nat) (s:Str) : Prop where
 val:gI s=n
 dig:s.all dI=true
 vals:s.all qy=true
 bl:∀ x∈s,([32,9] : Str).contains x=false
 pos:1≤s.length
 len:∀ k,1≤k→n<10 ^ k→s.length≤k
theorem NE:∀ (f n:Nat),n<10 ^ f→1≤f→N8 n (lU 10 f n):=by
 intro f
 induction f with
 | zero=>intro n _ h; omega
 | succ f ih =>
   intro n hn _
   by_cases h:n<10
   ·rw[uW h]
    obtain⟨h1,h2,h3,h4⟩:=Iy h
    refine⟨?_,by simp[h1],by simp[h3],fun x hx=>?_,by simp,fun k hk _=>by simpa using hk⟩
    ·rw[show[iZ n]=[]++[iZ n] from rfl,EW]
     simpa [gI] using h2
    ·have:x=iZ n:=by simpa using hx
     rw[this]; exact h4
   ·rw[zU h]
    have hf:1≤f:=by
     rcases Nat.eq_zero_or_pos f with rfl | h'
     ·simp at hn; omega
     ·exact h'
    have i:=ih (n / 10) (by rw[Nat.pow_succ] at hn; exact Nat.div_lt_of_lt_mul (by rw[Nat.mul_comm]; exact hn)) hf
    obtain⟨h1,h2,h3,h4⟩:=Iy (Nat.mod_lt n (show 0<10 by decide))
    refine⟨?_,by rw[List.all_append,i.dig]; simp[h1],by rw[List.all_append,i.vals]; simp[h3],fun x hx=>?_,by simp,fun k hk hk2=>?_⟩
    ·rw[EW,i.val,h2]; omega
    ·rcases List.mem_append.1 hx with hx | hx
     ·exact i.bl x hx
     ·have:x=iZ (n % 10):=by simpa using hx
      rw[this]; exact h4
    ·rcases Nat.lt_or_ge k 2 with h' | h'
     ·have:k=1:=by omega
      subst this
      simp at hk2; omega
     ·obtain⟨j,rfl⟩ : ∃ j,k=j + 1:=⟨k - 1,by omega⟩
      have:=i.len j (by omega) (by rw[Nat.pow_succ] at hk2; exact Nat.div_lt_of_lt_mul (by rw[Nat.mul_comm]; exact hk2))
      simp; omega
structure Us (n:Nat) (s:Str) : Prop where
 val:kF s=n
 dig:(low s).all jW=true
 no13:∀ x∈s,x≠13
 pos:1≤s.length
 len:∀ k,1≤k→n<16 ^ k→s.length≤k
theorem G9 {n:Nat} (h:n≤100000) : N8 n (dJ n):=NE 20 n (Nat.lt_of_le_of_lt h (by decide)) (by decide)
theorem Kc (s:Str) : trimB (32 :: s)=trimB s:=by
 unfold trimB Lib.trimS Lib.trimRightS
 rw[List.reverse_cons,List.dropWhile_append]
 cases h:(s.reverse.dropWhile (([32,9] : Str).contains ·)) with
 | nil =>
   rw[if_pos (by simp)]
   rfl
 | cons x t =>
   rw[if_neg (by simp)]
   rw[List.reverse_append]
   rfl
theorem MO {s:Str} (h:∀ x∈s,([32,9] : Str).contains x=false) : trimB s=s:=by
 have dw:∀ l:Str,(∀ x∈l,([32,9] : Str).contains x=false)→l.dropWhile (([32,9] : Str).contains ·)=l:=fun l hl=>by
  cases l with
  | nil=>rfl
  | cons x t=>rw[List.dropWhile_cons,hl x (by simp),if_neg (by decide)]
 unfold trimB Lib.trimS Lib.trimRightS Lib.trimLeftS
 rw[dw s.reverse (fun x hx=>h x (List.mem_reverse.1 hx)),List.reverse_reverse,dw s h]
theorem CW {x:UInt8} {r:Str} : ∀ {s:Str},x ∉ s→brk x (s++x :: r)=some (s,r)
 | [],_=>by simp[brk]
 | c :: t,h=>by
   have hc:c≠x:=fun e=>h (by simp[e])
   have ht:x ∉ t:=fun e=>h (by simp[e])
   rw[List.cons_append,brk,if_neg hc,CW ht]
   rfl
theorem DT {R:Str} : ∀ {s:Str},(13:UInt8) ∉ s→crlf (s++13 :: 10 :: R)=some (s,R)
 | [],_=>rfl
 | [c],h=>by
   have hc:c≠13:=fun e=>h (by simp[e])
   have:(c == 13 && (13:UInt8) == 10)=false:=by simp
   rw[List.cons_append,List.nil_append,crlf,this]
   rfl
 | c :: d :: t,h=>by
   have hc:(c == 13)=false:=beq_eq_false_iff_ne.2 fun e=>h (by simp[e])
   rw[List.cons_append,List.cons_append,crlf,hc,Bool.false_and]
   have:=DT (R:=R) (s:=d :: t) (fun e=>h (List.mem_cons_of_mem _ e))
   rw[List.cons_append] at this
   rw[this]
theorem uQ {P s R:Str} (h13:(13:UInt8) ∉ s) (hl:P.length + s.length + 2≤2048) : lG (P++(s++13 :: 10 :: R)) P.length=.ok (s,P.length + s.length + 2):=by
 unfold lG
 have:((P++(s++13 :: 10 :: R)).take 2048).drop P.length=s++13 :: 10 :: R.take (2048 - P.length - s.length - 2):=by
  rw[List.take_append,List.take_of_length_le (by omega),List.drop_left' rfl,List.take_append,List.take_of_length_le (by omega)]
  obtain⟨k,hk⟩ : ∃ k,2048 - P.length - s.length=k + 2:=⟨2048 - P.length - s.length - 2,by omega⟩
  rw[hk]
  rfl
 rw[this,DT h13]
theorem Gq {n v:Str} (hn:cB n=true) (hv:bS v=true) : eD (n++58 :: 32 :: v)=some (n,v):=by
 unfold eD
 rw[CW (fun h=>(AX hn h).2.1 rfl)]
 dsimp only
 have:trimB v=v:=by
  unfold bS at hv
  rw[Bool.and_eq_true] at hv
  exact(eq_of_beq hv.1).symm
 rw[Kc,this,hn,hv]
 rfl
theorem Fe (h:Hd) (R:Str) : bG h++R=(h.1++58 :: 32 :: h.2)++13 :: 10 :: R:=by simp[bG]
theorem A7:∀ (L:List Hd) (P R:Str) (acc:List Hd) (f:Nat),(∀ h∈L,cB h.1=true∧bS h.2=true)→L.length≤f→P.length + (L.flatMap bG).length + 2≤2048 →
  hloop (P++(L.flatMap bG++13 :: 10 :: R)) f P.length acc=.ok (acc++L,P.length + (L.flatMap bG).length + 2)
 | [],P,R,acc,f,_,_,hl=>by
   rw[jA,List.flatMap_nil]
   have:=uQ (P:=P) (s:=[]) (R:=R) (by simp) (by simpa using hl)
   rw[this]
   simp
 | h :: L,P,R,acc,f,hg,hf,hl=>by
   obtain⟨hn,hv⟩:=hg h (by simp)
   have e:(h :: L).flatMap bG++13 :: 10 :: R=(h.1++58 :: 32 :: h.2)++13 :: 10 :: (L.flatMap bG++13 :: 10 :: R):=by
    rw[List.flatMap_cons,List.append_assoc,Fe]
   have ll:(bG h).length=(h.1++58 :: 32 :: h.2).length + 2:=by simp[bG]; omega
   have l2:((h :: L).flatMap bG).length=(bG h).length + (L.flatMap bG).length:=by simp
   have h13:(13:UInt8) ∉ h.1++58 :: 32 :: h.2:=fun hm=>by
    rcases List.mem_append.1 hm with hm | hm
    ·exact(AX hn hm).1 rfl
    ·rcases List.mem_cons.1 hm with hm | hm
     ·exact absurd hm (by decide)
     ·rcases List.mem_cons.1 hm with hm | hm
      ·exact absurd hm (by decide)
      ·exact(Ht hv hm).1 rfl
   rw[jA,e,uQ h13 (by omega)]
   dsimp only
   obtain⟨f',rfl⟩ : ∃ f',f=f' + 1:=⟨f - 1,by simp at hf; omega⟩
   have hd:=Gq hn hv
   obtain⟨x,xs,hx⟩ : ∃ x xs,h.1++58 :: 32 :: h.2=x :: xs:=by
    cases h.1 with
    | nil=>exact⟨_,_,rfl⟩
    | cons a b=>exact⟨_,_,rfl⟩
   have ih:=A7 L (P++bG h) R (acc++[h]) f' (fun y hy=>hg y (by simp[hy])) (by simp at hf; omega) (by simp only[List.length_append]; omega)
   rw[List.append_assoc,Fe] at ih
   rw[hx] at hd ll ih ⊢
   dsimp only
   rw[hd]
   dsimp only
   rw[List.length_append,ll] at ih
   rw[show P.length + (x :: xs).length + 2=P.length + ((x :: xs).length + 2) by omega,ih,l2,ll]
   simp only[List.append_assoc,List.cons_append,List.nil_append,Nat.add_assoc]
theorem J9 {p:Str→Bool} {first R:Str} {L:List Hd} (h13:(13:UInt8) ∉ first) (hp:p first=true) (hg:∀ h∈L,cB h.1=true∧bS h.2=true) (hn:L.length≤32)
  (hl:first.length + 2 + (L.flatMap bG).length + 2≤2048) : headD p (first++13 :: 10 :: (L.flatMap bG++13 :: 10 :: R))=.ok (first,L,first.length + 2 + (L.flatMap bG).length + 2):=by
 unfold headD
 have h1:=uQ (P:=[]) (s:=first) (R:=L.flatMap bG++13 :: 10 :: R) h13 (by simp; omega)
 rw[List.nil_append,List.length_nil,Nat.zero_add] at h1
 rw[h1]
 dsimp only
 rw[hp]
 dsimp only
 have h2:=A7 L (first++[13,10]) R [] 32 hg hn (by rw[List.length_append]; exact hl)
 have e:first++[13,10]++(L.flatMap bG++13 :: 10 :: R)=first++13 :: 10 :: (L.flatMap bG++13 :: 10 :: R):=by simp
 have e2:(first++[13,10]).length=first.length + 2:=by simp
 rw[e,e2] at h2
 rw[h2,List.nil_append]
theorem IE {x:UInt8} : ∀ {s:Str},x ∉ s→words x s=[s]:=fun {s} h=>by
 rw[oI]
 cases hb:brk x s with
 | none=>rfl
 | some p =>
   obtain⟨a,b⟩:=p
   have:=rP hb
   have h0:s.count x=0:=List.count_eq_zero.2 h
   omega
theorem DL {x:UInt8} {s r:Str} (h:x ∉ s) : words x (s++x :: r)=s :: words x r:=by
 rw[oI,CW h]
theorem vP {m p:Str} (h:lK m p=true) : iT (fM m p)=some (m,p):=by
 unfold lK at h
 rw[Bool.and_eq_true] at h
 have e:fM m p=m++32 :: (p++32 :: Ct):=by simp[fM]
 unfold iT
 rw[e,DL (fun hx=>(wI h.1 hx).2.2 rfl),DL (fun hx=>(Av h.2 hx).2.2 rfl),IE (by decide)]
 dsimp only
 have:pR m p Ct=true:=by unfold pR; rw[h.1,h.2]; rfl
 rw[this]
theorem Jb {m p:Str} (h:lK m p=true) : (13:UInt8) ∉ fM m p:=by
 unfold lK at h
 rw[Bool.and_eq_true] at h
 intro hx
 have e:fM m p=m++32 :: (p++32 :: Ct):=by simp[fM]
 rw[e] at hx
 rcases List.mem_append.1 hx with hx | hx
 ·exact(wI h.1 hx).1 rfl
 ·rcases List.mem_cons.1 hx with hx | hx
  ·exact absurd hx (by decide)
  ·rcases List.mem_append.1 hx with hx | hx
   ·exact(Av h.2 hx).1 rfl
   ·revert hx; decide
theorem FJ {m p R:Str} {L:List Hd} (h:lK m p=true) (hg:∀ h∈L,cB h.1=true∧bS h.2=true) (hn:L.length≤32)
  (hl:(fM m p).length + 2 + (L.flatMap bG).length + 2≤2048) {out r:Str} (hb:rU R L=.ok (out,r)) : iX (fM m p++13 :: 10 :: (L.flatMap bG++13 :: 10 :: R))=.ok ((m,p,L,out),r):=by
 unfold iX
 have hp:rG (fM m p)=true:=by unfold rG; rw[vP h]; rfl
 rw[J9 (Jb h) hp hg hn hl]
 dsimp only
 have e:fM m p++13 :: 10 :: (L.flatMap bG++13 :: 10 :: R)=(fM m p++[13,10]++L.flatMap bG++[13,10])++R:=by simp
 rw[e,List.drop_left' (by simp; omega),hb]
 dsimp only
 rw[vP h]
theorem IU (a b:List Hd) (n:Str) : bf (a++b) n=bf a n++bf b n:=by simp[bf]
theorem zM {l:List Hd} {n:Str} (h:∀ x∈l,low x.1≠low n) : bf l n=[]:=by
 unfold bf
 have:l.filter (isNamed n)=[]:=List.filter_eq_nil_iff.2 (fun x hx hh=>h x hx (eq_of_beq hh))
 rw[this]
 rfl
theorem PP:low ui=ui:=by decide
theorem LM:low qz=qz:=by decide
theorem Je {x:Hd} {n:Str} (h:low x.1=low n) : bf [x] n=[x.2]:=by
 unfold bf
 have:isNamed n x=true:=by unfold isNamed; rw[h]; exact beq_self_eq_true _
 rw[List.filter_cons,if_pos this]
 rfl
theorem Ko {l:List Hd} {more:Hd} {body t:Str} (hl:∀ x∈l,low x.1≠ui∧low x.1≠qz) (hm:low more.1=qz) (hv:more.2=dJ body.length) (hb:body.length≤16384) : rU (body++t) (l++[more])=.ok (body,t):=by
 have d:=G9 (show body.length≤100000 by omega)
 have e1:bf (l++[more]) ui=[]:=zM fun x hx=>by
  rw[PP]
  rcases List.mem_append.1 hx with hx | hx
  ·exact(hl x hx).1
  ·have:x=more:=by simpa using hx
   rw[this,hm]; decide
 have e2:bf (l++[more]) qz=[dJ body.length]:=by
  rw[IU,zM (fun x hx=>by rw[LM]; exact(hl x hx).2),Je (by rw[hm,LM]),hv]
  rfl
 unfold rU
 rw[e1,e2]
 dsimp only
 have ok:rX (dJ body.length)=true:=by
  unfold rX gT
  have h1:=d.pos
  have h2:=d.len 9 (by decide) (Nat.lt_of_le_of_lt hb (by decide))
  rw[d.dig]
  simp only[Bool.and_true,Bool.and_eq_true,decide_eq_true_eq]
  omega
 rw[ok,d.val]
 dsimp only
 rw[kJ (by omega)]
 dsimp only
 rw[kJ (by simp)]
 dsimp only
 rw[List.take_left' rfl,List.drop_left' rfl]
theorem Ng {l:List Hd} (h:l.all ru=true) : ∀ x∈l,cB x.1=true∧bS x.2=true∧low x.1≠ui∧low x.1≠qz:=fun x hx=>by
 have:=List.all_eq_true.1 h x hx
 unfold ru at this
 simp only[Bool.not_eq_true',Bool.or_eq_false_iff,Bool.not_eq_false',beq_eq_false_iff_ne] at this
 exact⟨this.1.1.1,this.1.1.2,this.1.2,this.2⟩
theorem Iu (first:Str) (l:List Hd) (more:Hd) (R:Str) : kV first l more++R=first++13 :: 10 :: ((l++[more]).flatMap bG++13 :: 10 :: R):=by
 simp[kV,rY]
theorem LH {l:List Hd} {s:Str} {sz:Nat} (h:qd l s sz=false) : l.length + 1≤32∧s.length≤2048∧sz≤16384:=by
 unfold qd at h
 simp only[Bool.or_eq_false_iff,decide_eq_false_iff_not] at h
 omega
theorem zG:cB jg=true:=by decide +kernel
theorem Ov:low jg=qz:=by decide
theorem vW {n:Nat} (h:n≤100000) : bS (dJ n)=true:=by
 have d:=G9 h
 unfold bS
 rw[MO d.bl,beq_self_eq_true,d.vals]
 rfl
theorem GG {first:Str} {l:List Hd} {more:Hd} {sz:Nat} {body s:Str} (h:fE first l more sz body=.ok s) : l.all ru=true∧qd l (kV first l more) sz=false∧s=kV first l more++body:=by
 unfold fE at h
 split at h
 ·cases h
 ·split at h
  ·cases h
  ·cases h; exact⟨by assumption,by assumption,rfl⟩
theorem Nh (first:Str) (l:List Hd) (more:Hd) : (kV first l more).length=first.length + 2 + ((l++[more]).flatMap bG).length + 2:=by
 have:=congrArg List.length (Iu first l more [])
 simp only[List.length_append,List.length_cons,List.length_nil] at this
 omega
end Go.Ab.Hw
namespace Go.Ab.Hw
open Go Go.Ab Go.Ab.Sm
def tT (x:UInt8) : Bool:=Nat.ble 97 x.toNat && Nat.ble x.toNat 122
def Vr:Str→Nat→Str→Prop
 | [],_,B=>B=[]
 | x :: a,m,B=>∃ y b,B=y :: b∧(match m with
   | 0=>y=x∧Vr a (if x == 10 then 1 else 0) b
   | 1=>if x == 58 then y=x∧Vr a 2 b else(y=x∨(tT x=true∧y=x - 32))∧Vr a 1 b
   | _=>y=x∧Vr a (if x == 10 then 1 else 2) b)
theorem xA:∀ {A:Str} {m:Nat} {B:Str},Vr A m B→B.length=A.length
 | [],m,B,h=>by rw[show B=[] from h]
 | x :: a,m,B,h=>by
   obtain⟨y,b,rfl,h⟩:=h
   rw[List.length_cons,List.length_cons]
   congr 1
   match m,h with
   | 0,h=>exact xA h.2
   | 1,h => 
     have h:(if (x == 58)=true then y=x∧Vr a 2 b else(y=x∨(tT x=true∧y=x - 32))∧Vr a 1 b):=h
     split at h
     ·exact xA h.2
     ·exact xA h.2
   | k + 2,h=>exact xA (m:=if x == 10 then 1 else 2) h.2
def Qs (x:UInt8) : Bool:=!tT x || (bJ (x - 32) == bJ x && x - 32 != 58)
theorem Ns:∀ x,Qs x=true:=xJ (by decide +kernel)
theorem Cu {m:Nat} (hm:m≠1) {rest:Str} : ∀ {v Z:Str},(10:UInt8) ∉ v→Vr (v++13 :: 10 :: rest) m Z→∃ Z',Z=v++13 :: 10 :: Z'∧Vr rest 1 Z'
 | [],Z,_,h=>by
   obtain⟨y,b,rfl,h⟩:=h
   have h' : y=13∧Vr (10 :: rest) m b:=by
    match m,hm,h with
    | 0,_,h=>exact⟨h.1,h.2⟩
    | k + 2,_,h=>exact⟨h.1,by
        have:=h.2
        rw[show((13:UInt8) == 10)=false from rfl] at this
        match k,this with
        | 0,t=>exact t
        | k + 1,t => 
          obtain⟨y,b,e,t⟩:=t
          exact⟨y,b,e,t⟩⟩
   clear h
   obtain⟨rfl,y,b,rfl,h4⟩:=h'
   have h2:y=10∧Vr rest 1 b:=by
    match m,hm,h4 with
    | 0,_,h=>exact⟨h.1,h.2⟩
    | k + 2,_,h=>exact⟨h.1,h.2⟩
   obtain⟨rfl,h2⟩:=h2
   exact⟨b,rfl,h2⟩
 | x :: v,Z,hv,h=>by
   obtain⟨y,b,rfl,h⟩:=h
   have hx:(x == 10)=false:=by
    have:x≠10:=fun e=>hv (by rw[e]; exact List.mem_cons_self)
    simpa using this
   have h' : y=x∧∃ k,k≠1∧Vr (v++13 :: 10 :: rest) k b:=by
    match m,hm,h with
    | 0,_,h => 
      have h2:=h.2
      rw[hx] at h2
      exact⟨h.1,0,by decide,h2⟩
    | k + 2,_,h => 
      have h2:=h.2
      rw[hx] at h2
      exact⟨h.1,2,by decide,h2⟩
   obtain⟨rfl,k,hk,h2⟩:=h'
   obtain⟨Z',rfl,hz⟩:=Cu hk (fun e=>hv (List.mem_cons_of_mem _ e)) h2
   exact⟨Z',rfl,hz⟩
theorem Iz {rest:Str} : ∀ {n Z:Str},(58:UInt8) ∉ n→Vr (n++58 :: rest) 1 Z→∃ n' Z',Z=n'++58 :: Z'∧low n'=low n∧Vr rest 2 Z'
 | [],Z,_,h=>by
   obtain⟨y,b,rfl,h⟩:=h
   have h:(if ((58:UInt8) == 58)=true then y=58∧Vr rest 2 b else(y=58∨(tT 58=true∧y=58 - 32))∧Vr rest 1 b):=h
   rw[if_pos (show((58:UInt8) == 58)=true from rfl)] at h
   exact⟨[],b,by rw[h.1]; rfl,rfl,h.2⟩
 | x :: n,Z,hn,h=>by
   obtain⟨y,b,rfl,h⟩:=h
   have hx:¬ (x == 58)=true:=by
    have:x≠58:=fun e=>hn (by rw[e]; exact List.mem_cons_self)
    simpa using this
   have h:(if (x == 58)=true then y=x∧Vr (n++58 :: rest) 2 b else(y=x∨(tT x=true∧y=x - 32))∧Vr (n++58 :: rest) 1 b):=h
   rw[if_neg hx] at h
   obtain⟨n',Z',rfl,hl,hz⟩:=Iz (fun e=>hn (List.mem_cons_of_mem _ e)) h.2
   refine⟨y :: n',Z',rfl, ?_,hz⟩
   have hy:bJ y=bJ x:=by
    rcases h.1 with rfl | ⟨h1,rfl⟩
    ·rfl
    ·have:=Ns x
     unfold Qs at this
     rw[h1] at this
     simp at this
     exact this.1
   show bJ y :: low n'=bJ x :: low n
   rw[hy,hl]
theorem Gl:∀ {L:List Hd} {Z:Str},(∀ h∈L,(58:UInt8) ∉ h.1∧(10:UInt8) ∉ h.2)→Vr (L.flatMap bG++[13,10]) 1 Z→∃ L' : List Hd,Z=L'.flatMap bG++[13,10]∧L'.map (fun h=>(low h.1,h.2))=L.map (fun h=>(low h.1,h.2))
 | [],Z,_,h=>by
   obtain⟨y,b,rfl,h⟩:=h
   have h:(y=13∨(tT 13=true∧y=13 - 32))∧Vr [10] 1 b:=h
   obtain⟨h1,y2,b2,rfl,h2⟩:=h
   have h2:(y2=10∨(tT 10=true∧y2=10 - 32))∧b2=[]:=h2
   obtain⟨h2,rfl⟩:=h2
   have e1:y=13:=by rcases h1 with h | h; exact h; exact absurd h.1 (by decide)
   have e2:y2=10:=by rcases h2 with h | h; exact h; exact absurd h.1 (by decide)
   subst e1 e2
   exact⟨[],rfl,rfl⟩
 | h0 :: L,Z,hg,h=>by
   have e:(h0 :: L).flatMap bG++[13,10]=h0.1++58 :: ((32 :: h0.2)++13 :: 10 :: (L.flatMap bG++[13,10])):=by simp[bG]
   rw[e] at h
   obtain⟨n',Z',rfl,hl,hz⟩:=Iz (hg h0 (by simp)).1 h
   obtain⟨Z2,rfl,hz2⟩:=Cu (by decide) (fun hm=>by
    rcases List.mem_cons.1 hm with h | h
    ·exact absurd h (by decide)
    ·exact(hg h0 (by simp)).2 h) hz
   obtain⟨L',rfl,hm⟩:=Gl (fun h hh=>hg h (List.mem_cons_of_mem _ hh)) hz2
   refine⟨(n',h0.2) :: L',by simp[bG], ?_⟩
   rw[List.map_cons,List.map_cons,hm,hl]
theorem wQ {a b:Str} (h:low a=low b) : cB a=cB b:=by
 have hl:a.length=b.length:=by
  have:=congrArg List.length h
  simpa [low] using this
 unfold cB gT
 rw[h,hl]
theorem EI {m p:Str} {l:List Hd} {body s:Str} (h:jq m p l body=.ok s) : ∃ H,s=H++body∧∀ Z,Vr H 0 Z→∃ L:List Hd,L.length=l.length + 1∧iX (Z++body)=.ok ((m,p,L,body),[]):=by
 unfold jq at h
 split at h
 ·cases h
 ·rename_i hok
  obtain⟨h1,h2,rfl⟩:=GG h
  obtain⟨h3,h4,h5⟩:=LH h2
  have ha:=Ng h1
  refine⟨_,rfl,fun Z hZ=>?_⟩
  have e:=Iu (fM m p) l (jg,dJ body.length) []
  rw[List.append_nil] at e
  rw[e] at hZ
  have TQ:(10:UInt8) ∉ fM m p:=by
   have hok':=hok
   unfold lK at hok'
   rw[Bool.and_eq_true] at hok'
   intro hx
   have e:fM m p=m++32 :: (p++32 :: Ct):=by simp[fM]
   rw[e] at hx
   rcases List.mem_append.1 hx with hx | hx
   ·exact(wI hok'.1 hx).2.1 rfl
   ·rcases List.mem_cons.1 hx with hx | hx
    ·exact absurd hx (by decide)
    ·rcases List.mem_append.1 hx with hx | hx
     ·exact(Av hok'.2 hx).2.1 rfl
     ·revert hx; decide
  have gd:∀ x∈l++[(jg,dJ body.length)],cB x.1=true∧bS x.2=true:=fun x hx=>by
   rcases List.mem_append.1 hx with hx | hx
   ·exact⟨(ha x hx).1,(ha x hx).2.1⟩
   ·have:x=(jg,dJ body.length):=by simpa using hx
    subst this
    exact⟨zG,vW (by omega)⟩
  obtain⟨Z1,rfl,hz1⟩:=Cu (by decide) TQ hZ
  obtain⟨L',rfl,hm⟩:=Gl (fun x hx=>⟨fun hh=>(AX (gd x hx).1 hh).2.1 rfl,fun hh=>(Ht (gd x hx).2 hh).2 rfl⟩) hz1
  have hlen:=xA hZ
  have hll:L'.length=l.length + 1:=by
   have:=congrArg List.length hm
   simpa using this
  refine⟨L',hll, ?_⟩
  rw[List.map_append] at hm
  obtain⟨l1,l2,rfl,hm1,hm2⟩:=List.map_eq_append_iff.1 hm
  obtain⟨more,rfl⟩ : ∃ more,l2=[more]:=by
   have:=congrArg List.length hm2
   match l2,this with
   | [x],_=>exact⟨x,rfl⟩
  have IL:low more.1=low jg∧more.2=dJ body.length:=by
   have:=(List.cons.inj hm2).1
   exact Prod.mk.inj this
  have mem1:∀ x∈l1,∃ y∈l,low y.1=low x.1∧y.2=x.2:=fun x hx=>by
   have:(low x.1,x.2)∈l.map (fun h=>(low h.1,h.2)):=by
    rw[← hm1]; exact List.mem_map.2 ⟨x,hx,rfl⟩
   obtain⟨y,hy,e⟩:=List.mem_map.1 this
   exact⟨y,hy,(Prod.mk.inj e).1,(Prod.mk.inj e).2⟩
  rw[Nh] at h4
  have e3:fM m p++13 :: 10 :: ((l1++[more]).flatMap bG++[13,10])++body=fM m p++13 :: 10 :: ((l1++[more]).flatMap bG++13 :: 10 :: body):=by simp
  rw[e3]
  refine FJ hok (fun x hx=>?_) (by omega) ?_ ?_
  ·rcases List.mem_append.1 hx with hx | hx
   ·obtain⟨y,hy,e1,e2⟩:=mem1 x hx
    rw[← wQ e1,← e2]
    exact⟨(ha y hy).1,(ha y hy).2.1⟩
   ·have:x=more:=by simpa using hx
    subst this
    rw[wQ IL.1,IL.2]
    exact⟨zG,vW (by omega)⟩
  ·have h6:((l1++[more]).flatMap bG).length=((l++[(jg,dJ body.length)]).flatMap bG).length:=by
    have:=hlen
    simp only[List.length_append,List.length_cons,List.length_nil] at this
    omega
   omega
  ·have:=Ko (l:=l1) (more:=more) (body:=body) (t:=[]) (fun x hx=>by
    obtain⟨y,hy,e1,e2⟩:=mem1 x hx
    rw[← e1]
    exact(ha y hy).2.2) (IL.1.trans Ov) IL.2 h5
   rw[List.append_nil] at this
   exact this
end Go.Ab.Hw
namespace Go.Ab.Hw
open Go Go.Ab Go.Ab.Sm
open Go.Ab.Vl (brk dU fI fe mh)
end Go.Ab.Hw
namespace Go.Ab.Hw
open Go Go.Ab Go.Ab.Sm
open Go.Ab.Vl (brk dU fI fe mh oV mO)
theorem PM (x:UInt8) (n:Nat) (hn:n<256) : ((x.toNat:Int) == (n:Int))=(x == UInt8.ofNat n):=by
 rw[Bool.eq_iff_iff,beq_iff_eq,beq_iff_eq]
 constructor
 ·intro h
  have:x.toNat=n:=by omega
  rw[← this]; simp
 ·intro h
  rw[h,UInt8.toNat_ofNat',Nat.mod_eq_of_lt (by omega)]
end Go.Ab.Hw
namespace Go.Ab
open Go Go.RowKit
variable {H:Type} {enc:TypeId × Value→H}
theorem zA {a:Assume} {C:Checked} {os:Os} {f:FuncId} {fn:Func} {s:ChangeSpec} {conds:List PathCond} {apart fresh handsOn again:Bool} {X:World→Array Value→Prop}
  (hX:∀ (w w' : World) (args:Array Value),w.heap=w'.heap→X w args→X w' args)
  (own:ownKnob C.prog.godebug=none) (started:os.Started) (noInit:C.prog.inits.idxOf? f=none) (hfn:C.prog.funcs[f]?=some fn)
  (witness:∃ (w:World) (tape:Tape) (i:Input),w.os=os∧(w.forCall tape i).Shaped C.prog∧i.vars=[]∧Input.okWide C.prog (w.forCall tape i) .any w.heap.size f i ∧
   ((s.pre enc C.prog fn conds apart (w.forCall tape i).memory i.args∧X (w.forCall tape i).memory i.args)∧sizedMet enc C.prog fn (OpenSpec.ofChange s) apart (w.forCall tape i).memory i.args)∧a.holds C.prog (lone (Frame.enter C.prog f i.args .normal) [] (w.forCall tape i)))
  (contract:∀ (W:World) (base:Nat) (args:Array Value) (ds gs:List (DataW H)) (before:List MemPlace),
   (∀ (j:Nat) t v,fn.params[j]?=some t→args[j]?=some v→Value.okWide C.prog W .any base t v) →
   DataW.Whole enc C.prog fn.params.toList s.vars apart W args.toList ds gs before →
   conds.all (PathCond.test C.prog ⟨fn.params.toList,ds,s.plain.varTypes C.prog,gs⟩)=true →
   (DataW.weightsEach C.prog (fn.params.toList++s.plain.varTypes C.prog) (ds++gs)).all (· ≤ reachBytes)=true→X W args →
   W.ShapedOpen C.prog →
   a.holds C.prog (lone (Frame.enter C.prog f args .normal) [] W) →
   Calls C.prog f args W fun e W'=>∃ v,e=.returned v∧s.post enc C.prog fn apart fresh handsOn again W args v W') :
  ReturnsInHanded a C os f .any (fun w args=>(s.pre enc C.prog fn conds apart w args∧X w args)∧sizedMet enc C.prog fn (OpenSpec.ofChange s) apart w args) (s.post enc C.prog fn apart fresh handsOn again):=by
 refine returnsInHanded_of_calls own started noInit witness ?_
 intro w tape i _ hsh _ hok hpre hholds
 obtain⟨_,_,_,fn',hfn',_,_,_,_,hval⟩:=hok
 have e:fn'=fn:=Option.some.inj (hfn'.symm.trans hfn)
 subst e
 obtain⟨⟨⟨ds,gs,before,hw,hc⟩,hx⟩,hz⟩:=hpre
 have hw':=DataW.Whole.of_heap (w':=w.forCall tape i) (by rfl) hw
 refine(contract (w.forCall tape i) w.heap.size i.args ds gs before hval hw' hc (hz.weights hw) (hX _ _ _ (by rfl) hx) hsh hholds).mono fun e W' ⟨v,he,hp⟩=>?_
 subst he
 exact ChangeSpec.post_blind hp
end Go.Ab
