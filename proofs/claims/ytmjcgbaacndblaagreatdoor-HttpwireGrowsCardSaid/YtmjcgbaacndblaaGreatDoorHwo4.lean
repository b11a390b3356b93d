/- Part 4 of the ground of the proofs of this seat (texts H4 to R27). By an AI agent. -/
import Derived.Test.YtmjcgbaacndblaaGreatDoorHwo3
import Derived.Lib.SplitLaws
import Derived.Laws.AppendOwn
import Derived.HandedShaped
set_option maxRecDepth 10000
set_option linter.unusedVariables false
set_option linter.unusedSimpArgs false
namespace Go.Ab.Hw
open Go Go.Ab Go.Ab.Sm
open Go.Ab.Vl (brk kE pO gm fG iF gI Al)
def isNamed (n:Str) (h:Hd) : Bool:=low h.1 == low n
def bO (l:List Hd) (n:Str) : List Str:=(l.filter (isNamed n)).map (·.2)
theorem Hz {l:List Hd} {n:Str} {i:Nat} (hi:i<l.length) : bO (l.take (i + 1)) n=bO (l.take i) n++(if isNamed n l[i] then[l[i].2] else[]):=by
 unfold bO
 rw[List.take_succ_eq_append_getElem hi,List.filter_append,List.map_append]
 congr 1
 cases h:isNamed n l[i] <;> simp[h]
def Bi (T:Nat) (c:ai) : Prop:=∀ {M:RM} {v:AV} {l:List Hd} {n:Str} {Q:ah},Sl HD M v l→l.length≤1000000→(∀ h∈l,h.1.length<4611686018427387904)→n.length<4611686018427387904 →
 (∀ v' M',Ow mV M' M.next T v' (bO l n)→ae [] M M'→Q v' M')→c [v,St n] M Q
theorem Il {TH T:Nat} {cs:ai} (hs:zZ cs) : Bi T fun args M Q=>∃ a0 a1,args=[a0,a1]∧lI TH cs T a0 a1 M Q:=by
 intro M v l n Q hv hl hnl hn hQ
 refine⟨_,_,rfl, ?_⟩
 unfold lI
 rw[aC.len hv]
 refine dG (fun m ys M3=>∃ (i:Nat) (o:AV),m=l.length - i∧ys=[o,N .i64 (i:Int)]∧i≤l.length∧Ow mV M3 M.next T o (bO (l.take i) n)∧ae [] M M3) _ ⟨0,aF,rfl,rfl,Nat.zero_le _,.nil,ae.refl _ _⟩ ?_
 rintro next m ys M3 hnext ⟨i,o,rfl,rfl,hi,hO,k3⟩
 simp only[bz,cK,uW]
 refine dF (fun h=>?_) fun h=>?_
 ·have hlt:i<l.length:=by simpa using h
  have hv3:Sl HD M3 v l:=aC.keep hv k3 (by simp)
  obtain⟨b,off,hb,_,hix,hld⟩:=hv3.at 2 (i:Int) hlt
  rw[nM,hix,ow]
  refine⟨_,hld, ?_⟩
  simp only[aR]
  have n4:(M3.push (.row [St [],St []] false TH 0)).heap M3.next=some (.row [St [],St []] false TH 0):=by simp[RM.push]
  rw[iZ n4 (by rfl) (by rfl) (by rfl)]
  have k4:ae [] M3 ((M3.push (.row [St [],St []] false TH 0)).put M3.next (.row (HD.cells l[i]) false TH 0)):=((ae.refl _ _).push _).new _ (Nat.le_refl _)
  have n5:((M3.push (.row [St [],St []] false TH 0)).put M3.next (.row (HD.cells l[i]) false TH 0)).heap M3.next=some (.row (HD.cells l[i]) false TH 0):=aM _
  have l5:M3.next<((M3.push (.row [St [],St []] false TH 0)).put M3.next (.row (HD.cells l[i]) false TH 0)).next:=by simp[RM.push,RM.put]
  generalize (M3.push (.row [St [],St []] false TH 0)).put M3.next (.row (HD.cells l[i]) false TH 0)=M4 at *
  rw[jk,aL n5 (by rfl:(HD.cells l[i])[0]?=some (St l[i].1))]
  refine hs (by have:=hnl l[i] (List.getElem_mem hlt); omega) fun M5 k5=>?_
  refine hs (by omega) fun M6 k6=>?_
  have k46:=k4.trans (k5.trans k6)
  have n6:=(k5.trans k6).aN n5 l5 (by simp)
  simp only[dU,add1 (show i<4611686018427387904 by omega)]
  have nt:=Hz (n:=n) hlt
  refine dF (fun h=>?_) fun h=>?_
  ·have hin:isNamed n l[i]=true:=h
   rw[hin,if_pos rfl] at nt
   rw[jk,aL n6 (by rfl:(HD.cells l[i])[1]?=some (St l[i].2)),u6 (by rfl) (by rfl) (by rfl)]
   simp only[aR]
   have hO6:Ow mV M6 M.next T o (bO (l.take i) n):=hO.keep k46 (by simp)
   have hlen:(bO (l.take i) n).length≤1000000:=by
    unfold bO
    rw[List.length_map]
    refine Nat.le_trans (List.length_filter_le _ _) ?_
    simp; omega
   refine ui (E:=mV) (a:=l[i].2) hO6 (Nat.le_trans k3.next k46.next) (by decide) (by omega) (by omega) fun v7 M7 o7 k7 _ _=>?_
   refine hnext _ _ _ (by omega) ⟨i + 1,v7,rfl,rfl,by omega,by rw[nt]; exact o7, ?_⟩
   have kk:=k3.trans k46
   refine⟨k7.base.trans kk.base,Nat.le_trans kk.next k7.next,fun x hx hb=>?_⟩
   rw[k7.heap x (Nat.lt_of_lt_of_le hx kk.next) (fun h=>by have:=(hO6.blk x h).1; omega),kk.heap x hx hb]
  ·have hin:isNamed n l[i]=false:=h
   rw[hin,if_neg (by decide),List.append_nil] at nt
   exact hnext _ _ _ (by omega) ⟨i + 1,o,rfl,rfl,by omega,by rw[nt]; exact hO.keep k46 (by simp),k3.trans k46⟩
 ·have:i=l.length:=by simp at h; omega
  subst this
  rw[List.take_length] at hO
  exact hQ o M3 hO k3
def j6:List Str→AV
 | []=>.tup [St [],Bo false]
 | s :: _=>.tup [St s,Bo true]
def IX (c:ai) : Prop:=∀ {M:RM} {v:AV} {l:List Hd} {n:Str} {Q:ah},Sl HD M v l→l.length≤1000000→(∀ h∈l,h.1.length<4611686018427387904)→n.length<4611686018427387904 →
 (∀ M',ae [] M M'→Q (j6 (bO l n)) M')→c [v,St n] M Q
theorem Jt {T:Nat} {cn:ai} (hn:Bi T cn) : IX fun args M Q=>∃ a0 a1,args=[a0,a1]∧lM cn a0 a1 M Q:=by
 intro M v l n Q hv hl h1 h2 hQ
 refine⟨_,_,rfl, ?_⟩
 unfold lM
 refine hn hv hl h1 h2 fun v' M1 o k1=>?_
 have hs:Sl mV M1 v' (bO l n):=Own.j3 o
 rw[hs.len,dS]
 have hQ:=hQ M1 k1
 generalize bO l n=xs at *
 cases xs with
 | nil =>
   rw[show decide ((([] : List Str).length:Int) > 0)=false from rfl,aY]
   exact hQ
 | cons x xs =>
   rw[show decide (((x :: xs).length:Int) > 0)=true by simp,bP]
   obtain⟨b,o',_,_,hix,hld⟩:=hs.at 1 0 (i:=0) (by simp)
   rw[hix,dz]
   exact⟨_,dQ.1 hld,hQ⟩
theorem Lg {T:Nat} {cf:ai} (hf:IX cf) {M:RM} {x y v:AV} {tl:List AV} {l:List Hd} {n:Str} {Q:ah} (hv:Sl HD M v l) (hl:l.length≤1000000) (h1:∀ h∈l,h.1.length<4611686018427387904) (h2:n.length<4611686018427387904)
  (hc:(x :: y :: v :: tl).all oneCell=true) (hQ:∀ M',ae [] M M'→Q (j6 (bO l n)) M') : iQ T cf (.agg (x :: y :: v :: tl)) (St n) M Q:=by
 unfold iQ
 rw[iL hc (by simp)]
 simp only[aR]
 have k1:ae [] M (M.push (.row (x :: y :: v :: tl) false T 0)):=(ae.refl _ _).push _
 have n1:(M.push (.row (x :: y :: v :: tl) false T 0)).heap M.next=some (.row (x :: y :: v :: tl) false T 0):=by simp[RM.push]
 rw[jk,aL n1 (by rfl:(x :: y :: v :: tl)[2]?=some v)]
 refine hf (aC.keep hv k1 (by simp)) hl h1 h2 fun M2 k2=>?_
 have:=hQ M2 (k1.trans k2)
 generalize bO l n=xs at *
 cases xs <;> simpa only[j6,bg,bf] using this
theorem La {T:Nat} {cf:ai} (hf:IX cf) {M:RM} {x v:AV} {tl:List AV} {l:List Hd} {n:Str} {Q:ah} (hv:Sl HD M v l) (hl:l.length≤1000000) (h1:∀ h∈l,h.1.length<4611686018427387904) (h2:n.length<4611686018427387904)
  (hc:(x :: v :: tl).all oneCell=true) (hQ:∀ M',ae [] M M'→Q (j6 (bO l n)) M') : gZ T cf (.agg (x :: v :: tl)) (St n) M Q:=by
 unfold gZ
 rw[iL hc (by simp)]
 simp only[aR]
 have k1:ae [] M (M.push (.row (x :: v :: tl) false T 0)):=(ae.refl _ _).push _
 have n1:(M.push (.row (x :: v :: tl) false T 0)).heap M.next=some (.row (x :: v :: tl) false T 0):=by simp[RM.push]
 rw[jk,aL n1 (by rfl:(x :: v :: tl)[1]?=some v)]
 refine hf (aC.keep hv k1 (by simp)) hl h1 h2 fun M2 k2=>?_
 have:=hQ M2 (k1.trans k2)
 generalize bO l n=xs at *
 cases xs <;> simpa only[j6,bg,bf] using this
def Jr (B:Base) (c:ai) : Prop:=∀ {M:RM} {v w:AV} {s:Str} {Q:ah},M.base=B→Bs M v s→Bs M w [13,10]→s.length≤1000000000 →
 (∀ a r v1 v2,crlf s=some (a,r)→Bs M v1 a→Q (.tup [v1,v2,Bo true]) M)→(crlf s=none→Q (.tup [v,aF,Bo false]) M)→c [v,w] M Q
theorem lK {s a r:Str} (h:crlf s=some (a,r)) : s=a++13 :: 10 :: r∧a.length + 2 + r.length=s.length:=by
 rcases uA s with⟨h1,_⟩ | ⟨a',r',h1,_,h3⟩
 ·rw[h] at h1; cases h1
 ·rw[h] at h1; cases h1
  refine⟨h3, ?_⟩
  rw[h3]; simp; omega
theorem JJ {B:Base} {ci:ai} (hi:Bl B ci) : Jr B fun args M Q=>∃ a0 a1,args=[a0,a1]∧sG ci a0 a1 M Q:=by
 intro M v w s Q hB hv hw hl hQ hN
 refine⟨_,_,rfl, ?_⟩
 unfold sG
 refine hi hB hv hw hl ?_
 rcases uA s with⟨e1,e2⟩ | ⟨a,r,e1,e2,e3⟩
 ·rw[e2,dC,show decide ((-1:Int) ≥ 0)=false from rfl,aY]
  exact hN e1
 ·have hal:=(lK e1).2
  rw[e2,dC,show decide ((a.length:Int) ≥ 0)=true by simp,bP]
  refine hv.sub (Fp 0) (kP _ _ _) (Nat.zero_le _) (by omega) fun v1 hv1 _=>?_
  rw[hw.len,addN (show a.length + ([13,10] : Str).length<4611686018427387904 by simp; omega)]
  refine hv.sub (kP _ _ _) (Fp _) (by simp; omega) (Nat.le_refl _) fun v2 hv2 _=>?_
  refine hQ a r v1 v2 e1 ?_
  have:(s.drop 0).take (a.length - 0)=a:=by rw[e3]; simp
  rw[this] at hv1; exact hv1
def lJ (x:UInt8) : Nat:=if x.toNat≤57 then x.toNat - 48 else if x.toNat≤90 then x.toNat - 55 else x.toNat - 87
def kS (s:Str) : Nat:=s.foldl (fun n x=>n * 16 + lJ x) 0
def gB (s:Str) : Nat:=s.foldl (fun n x=>n * 10 + (x.toNat - 48)) 0
def Cb (c:ai) : Prop:=∀ {M:RM} {s:Str} {Q:ah},1≤s.length→s.length≤8→(low s).all kL=true→(∀ M',ae [] M M'→Q (.tup [N .u64 (kS s:Int),.sc .nilIface]) M')→c [St s,N .i64 16,N .i64 64] M Q
def Jz (c:ai) : Prop:=∀ {M:RM} {s:Str} {Q:ah},1≤s.length→s.length≤9→s.all dM=true→(∀ M',ae [] M M'→Q (.tup [N .i64 (gB s:Int),.sc .nilIface]) M')→c [St s] M Q
theorem Ht {x:UInt8} (h:kL (bZ x)=true) : lJ x<16:=by
 unfold kL dM at h
 unfold lJ
 simp only[Bool.or_eq_true,Bool.and_eq_true,decide_eq_true_eq] at h
 have hx:=AZ x
 have hl:(bZ x).toNat=x.toNat∨((bZ x).toNat=x.toNat + 32∧65≤x.toNat∧x.toNat≤90):=by
  unfold bZ
  split
  ·right
   refine⟨?_,by omega,by omega⟩
   rw[UInt8.toNat_add]
   show(x.toNat + 32) % 256=_
   omega
  ·exact .inl rfl
 split
 ·omega
 ·split <;> omega
theorem EH:∀ (s:Str) (n:Nat),(low s).all kL=true→s.foldl (fun n x=>n * 16 + lJ x) n<(n + 1) * 16 ^ s.length
 | [],n,_=>by simp
 | x :: s,n,h=>by
   simp only[low,List.map_cons,List.all_cons,Bool.and_eq_true] at h
   have hd:=Ht h.1
   have:=EH s (n * 16 + lJ x) h.2
   rw[List.foldl_cons]
   refine Nat.lt_of_lt_of_le this ?_
   rw[List.length_cons,Nat.pow_succ,Nat.mul_comm (16 ^ s.length) 16,← Nat.mul_assoc]
   exact Nat.mul_le_mul_right _ (by omega)
theorem GV {s:Str} (h:(low s).all kL=true) (hl:s.length≤8) : kS s<4294967296:=by
 have:=EH s 0 h
 unfold kS
 refine Nat.lt_of_lt_of_le this ?_
 rw[Nat.zero_add,Nat.one_mul]
 exact Nat.le_trans (Nat.pow_le_pow_right (by decide) hl) (by decide)
def jC (s:Str) : Bool:=ig s 1 8 && (low s).all kL
def iU (r:Str) : Except Nat (Nat × Str):=match crlf r with
 | none=>match Nat.blt 10 r.length with
   | true=>.error 14
   | false=>.error 15
 | some p=>match jC p.1 with
   | true=>.ok (kS p.1,p.2)
   | false=>.error 14
def Jf (B:Base) (c:ai) : Prop:=∀ {M:RM} {v:AV} {b:Str} {at' : Nat} {Q:ah},M.base=B→Bs M v b→at'≤b.length→b.length≤1000000000 →
 (∀ n r at2 M',iU (b.drop at')=.ok (n,r)→at2≤b.length→at' + 2<at2→b.drop at2=r→n<4294967296→ae [] M M'→Q (.tup [N .i64 (n:Int),N .i64 (at2:Int),N .i64 0]) M') →
 (∀ (e:Nat) M',iU (b.drop at')=.error e→(e=14∨e=15)→ae [] M M'→Q (.tup [N .i64 0,N .i64 0,N .i64 (e:Int)]) M')→c [v,N .i64 (at' : Int)] M Q
theorem JW {B:Base} {T g:Nat} {cc cw cs ca cp:ai} (hc:Jr B cc) (hw:qa cw) (hs:zZ cs) (ha:kU kL (.fn (.func g) [] []) ca) (hp:Cb cp) :
  Jf B fun args M Q=>∃ a0 a1,args=[a0,a1]∧mP T cc cw cs ca g cp a0 a1 M Q:=by
 intro M v b at' Q hB hv h1 hl hQ hE
 refine⟨_,_,rfl, ?_⟩
 unfold mP
 refine hv.sub (kP _ _ _) (Fp _) h1 (Nat.le_refl _) fun v1 hv1 _=>?_
 have hd:(b.drop at').take (b.length - at')=b.drop at':=List.take_of_length_le (by simp)
 rw[hd] at hv1
 refine Fu fun w M1 hw1 k1=>?_
 have hv2:=hv1.keep k1 (by simp)
 have hdl:(b.drop at').length=b.length - at':=by simp
 refine hc (k1.base.trans hB) hv2 hw1 (by rw[hdl]; omega) (fun a r u1 u2 hcr hu1=>?_) (fun hcr=>?_)
 ·have hlen:=(lK hcr).2
  simp only[bg,bf,dJ,dh,Bool.not_true,di,jh,dL,aY]
  rw[hu1.str]
  refine hw ?_
  simp only[dh]
  -- the two tests
  have tail:∀ M2,ae [] M M2→Bs M2 u1 a→((au (Bo (!jC a)) (Q (.tup [(N .i64 0),(N .i64 0),(N .i64 14)]) M2) (
    dI M2 u1 fun t44=>cp [t44,(N .i64 16),(N .i64 64)] M2 fun t45 zD=>aD t45 0 fun t46=>aD t45 1 fun t47=>gY .i64 t46 fun t49=>aU u1 fun t52=>af .add (N .i64 (at' : Int)) t52 fun t53=>af .add t53 (N .i64 2) fun t54=>Q (.tup [t49,t54,(N .i64 0)]) zD))):=by
   intro M2 k2 hu2
   refine dF (fun h=>?_) fun h=>?_
   ·have hk:jC a=false:=by simpa using h
    exact hE 14 M2 (by unfold iU; rw[hcr]; simp only[hk]) (.inl rfl) k2
   ·have hk:jC a=true:=by simpa using h
    have hk':=hk
    unfold jC ig at hk'
    simp only[Bool.and_eq_true,decide_eq_true_eq] at hk'
    rw[hu2.str]
    refine hp (by omega) (by omega) hk'.2 fun M3 k3=>?_
    have hlt:=GV hk'.2 (by omega)
    simp only[bg,bf,kZ]
    rw[gH (by omega) (by omega),hu2.len,addN (by omega),show(N .i64 2)=(N .i64 ((2:Nat) : Int)) from rfl,addN (by omega)]
    refine hQ (kS a) r (at' + a.length + 2) M3 (by unfold iU; rw[hcr]; simp only[hk]) (by omega) (by omega) ?_ hlt (k2.trans k3)
    have e3:=(lK hcr).1
    rw[show at' + a.length + 2=at' + (a.length + 2) by omega,← List.drop_drop,e3,← List.drop_drop]
    simp
  cases hwi:ig a 1 8 with
  | false =>
    simp only[Bool.not_false,dH,bW]
    have:=tail M1 k1 hu1
    unfold jC at this
    rw[hwi] at this
    simpa only[Bool.false_and,Bool.not_false] using this
  | true =>
    simp only[Bool.not_true,cB,dL]
    rw[hu1.str]
    refine hs (by omega) fun M2 k2=>?_
    refine ha (by rw[low,List.length_map]; omega) fun M3 k3=>?_
    have k23:=k2.trans k3
    have:=tail M3 (k1.trans k23) (hu1.keep k23 (by simp))
    unfold jC at this
    rw[hwi] at this
    simpa only[dh,Bool.true_and,dL] using this
 ·simp only[bg,bf,dJ,dh,Bool.not_false,di,bU,bW]
  rw[hv2.len,dS,hdl]
  by_cases h10:10<b.length - at'
  ·rw[show decide (((b.length - at' : Nat) : Int) > 10)=true by simp; omega,bP]
   exact hE 14 M1 (by unfold iU; rw[hcr]; simp only[hdl]; rw[show Nat.blt 10 (b.length - at')=true by rw[Nat.blt_eq]; exact h10]) (.inl rfl) k1
  ·rw[show decide (((b.length - at' : Nat) : Int) > 10)=false by simp; omega,aY,bP]
   refine hE 15 M1 ?_ (.inr rfl) k1
   unfold iU; rw[hcr]; simp only[hdl]
   have:Nat.blt 10 (b.length - at')=false:=by
    cases h:Nat.blt 10 (b.length - at')
    ·rfl
    ·rw[Nat.blt_eq] at h; exact absurd h h10
   rw[this]
end Go.Ab.Hw
namespace Go.Ab.Hw
open Go Go.Ab Go.Ab.Sm
theorem ae.own {bs:List Nat} {M M1 M2:RM} {v:AV} (k1:ae bs M M1) (k2:ae (aP v) M1 M2) (hv:∀ b∈aP v,M.next≤b) : ae bs M M2 :=
 ⟨k2.base.trans k1.base,Nat.le_trans k1.next k2.next,fun x hx hb=>by
  rw[k2.heap x (Nat.lt_of_lt_of_le hx k1.next) (fun h=>by have:=hv x h; omega),k1.heap x hx hb]⟩
def bn:Nat→Str→Str→Except Nat (Str × Str)
 | 0,_,_=>.error 99
 | f + 1,r,out=>match iU r with
   | .error e=>.error e
   | .ok (n,r1)=>match Nat.blt (16384 - out.length) n with
     | true=>.error 2
     | false=>match Nat.blt r1.length (n + 2) with
       | true=>.error 15
       | false=>match (r1.drop n).take 2 == [13,10] with
         | false=>.error 14
         | true=>match Nat.beq n 0 with
           | true=>.ok (out,r1.drop 2)
           | false=>bn f (r1.drop (n + 2)) (out++r1.take n)
theorem pG {a b:Nat} (h:a<b) : Nat.blt a b=true:=by rw[Nat.blt_eq]; exact h
theorem jK {a b:Nat} (h:¬ a<b) : Nat.blt a b=false:=by
 cases e:Nat.blt a b
 ·rfl
 ·rw[Nat.blt_eq] at e; exact absurd e h
theorem Pv {n:Nat} (h:n≠0) : Nat.beq n 0=false:=by cases n <;> first | exact absurd rfl h | rfl
theorem Dv {r r1:Str} {n:Nat} (h:iU r=.ok (n,r1)) : r1.length + 2<r.length:=by
 unfold iU at h
 split at h
 ·split at h <;> cases h
 ·rename_i p hp
  obtain⟨a,q⟩:=p
  have:=(lK hp).2
  split at h
  ·rename_i hk
   cases h
   unfold jC ig at hk
   simp only[Bool.and_eq_true,decide_eq_true_eq] at hk
   show q.length + 2<r.length
   omega
  ·cases h
theorem vZ:∀ (f g:Nat) (r out:Str),r.length<f→r.length<g→bn f r out=bn g r out
 | 0,_,_,_,h,_=>absurd h (by omega)
 | _,0,_,_,_,h=>absurd h (by omega)
 | f + 1,g + 1,r,out,h1,h2=>by
   rw[bn,bn]
   cases hs:iU r with
   | error e=>rfl
   | ok p =>
     obtain⟨n,r1⟩:=p
     have:=Dv hs
     dsimp only
     repeat' split
     all_goals first | rfl | skip
     exact vZ f g _ _ (by simp; omega) (by simp; omega)
def zW (B:Base) (T:Nat) (c:ai) : Prop:=∀ {M:RM} {v:AV} {b:Str} {at' : Nat} {Q:ah},M.base=B→Bs M v b→at'≤b.length→b.length≤1000000000 →
 (∀ out r at2 ov M',bn (b.length - at' + 1) (b.drop at') []=.ok (out,r)→at2≤b.length→at'≤at2→b.drop at2=r→out.length≤16384→ae [] M M'→Ow BY M' M.next T ov out→Q (.tup [ov,N .i64 (at2:Int),N .i64 0]) M') →
 (∀ (e:Nat) M',bn (b.length - at' + 1) (b.drop at') []=.error e→(e=14∨e=15∨e=2)→ae [] M M'→Q (.tup [aF,N .i64 0,N .i64 (e:Int)]) M')→c [v,N .i64 (at' : Int)] M Q
theorem EE {B:Base} {T:Nat} {cs:ai} (hs:Jf B cs) : zW B T fun args M Q=>∃ a0 a1,args=[a0,a1]∧jY cs T a0 a1 M Q:=by
 intro M v b at0 Q hB hv h0 hl hQ hE
 refine⟨_,_,rfl, ?_⟩
 unfold jY
 generalize hr0:bn (b.length - at0 + 1) (b.drop at0) []=target at *
 refine dG (fun m ys M3=>∃ (at' : Nat) (ov:AV) (out:Str),ys=[N .i64 (at' : Int),ov]∧at'≤b.length∧at0≤at'∧m=b.length - at'∧out.length≤16384∧Ow BY M3 M.next T ov out∧ae [] M M3∧bn (m + 1) (b.drop at') out=target) _
  ⟨at0,aF,[],rfl,h0,Nat.le_refl _,rfl,by simp,.nil,ae.refl _ _,hr0⟩ ?_
 rintro next m ys M3 hnext ⟨at',ov,out,rfl,h1,h2,rfl,hol,hO,k3,heq⟩
 simp only[bz,cK]
 have hv3:=hv.keep k3 (by simp)
 refine hs (k3.base.trans hB) hv3 h1 hl (fun n r at2 M4 e4 a1 a2 hr hn k4=>?_) (fun e M4 e4 he k4=>?_)
 rotate_left
 ·simp only[bg,bf,dJ,gM]
  rw[show(((e:Nat) : Int) != 0)=true by rcases he with rfl | rfl <;> rfl,bP]
  refine hE e M4 ?_ (by omega) (k3.trans k4)
  rw[← heq,bn,e4]
 simp only[bg,bf,dJ,zP,aY]
 have hO4:Ow BY M4 M.next T ov out:=hO.keep k4 (by simp)
 have k34:=k3.trans k4
 have hv4:=hv3.keep k4 (by simp)
 rw[hO4.j3.len,show(N .i64 16384)=N .i64 ((16384:Nat) : Int) from rfl,Jy hol (by omega),Jh]
 have hrl:r.length=b.length - at2:=by rw[← hr]; simp
 refine dF (fun h=>?_) fun h=>?_
 ·have h:16384 - out.length<n:=by simpa using h
  refine hE 2 M4 ?_ (by omega) k34
  rw[← heq,bn,e4]
  simp only[pG h]
 have hf1:¬ 16384 - out.length<n:=by simpa using h
 rw[show(N .i64 2)=N .i64 ((2:Nat) : Int) from rfl,addN (by omega),hv4.len,Jy a1 (by omega),Jh]
 refine dF (fun h=>?_) fun h=>?_
 ·have h:b.length - at2<n + 2:=by simpa using h
  refine hE 15 M4 ?_ (by omega) k34
  rw[← heq,bn,e4]
  simp only[jK hf1,hrl,pG h]
 have hf2:¬ b.length - at2<n + 2:=by simpa using h
 simp only[addN (show at2 + n<4611686018427387904 by omega),addN (show at2 + n + 2<4611686018427387904 by omega)]
 refine hv4.sub (kP _ _ _) (kP _ _ _) (by omega) (by omega) fun v5 hv5 _=>?_
 have hdr:(b.drop (at2 + n)).take (at2 + n + 2 - (at2 + n))=(r.drop n).take 2:=by
  rw[← hr,List.drop_drop,show at2 + n + 2 - (at2 + n)=2 by omega]
 rw[hdr] at hv5
 rw[hv5.str,vD]
 cases he2:(r.drop n).take 2 == [13,10] with
 | false =>
   rw[show((r.drop n).take 2 != [13,10])=true by unfold bne; rw[he2]; rfl,bP]
   refine hE 14 M4 ?_ (by omega) k34
   rw[← heq,bn,e4]
   simp only[jK hf1,hrl,jK hf2,he2]
 | true =>
   rw[show((r.drop n).take 2 != [13,10])=false by unfold bne; rw[he2]; rfl,aY]
   rw[show(N .i64 0)=N .i64 ((0:Nat) : Int) from rfl,Rn]
   refine dF (fun h=>?_) fun h=>?_
   ·have h0:n=0:=by simpa using h
    subst h0
    refine hQ out (r.drop 2) (at2 + 0 + 2) ov M4 ?_ (by omega) (by omega) ?_ hol k34 hO4
    ·rw[← heq,bn,e4]
     simp only[jK hf1,hrl,jK hf2,he2]
     try rfl
    ·rw[← hr,List.drop_drop,Nat.add_zero]
   ·have hn0:n≠0:=by simpa using h
    refine hv4.sub (kP _ _ _) (kP _ _ _) (by omega) (by omega) fun v6 hv6 hsub6=>?_
    have htk:(b.drop at2).take (at2 + n - at2)=r.take n:=by rw[hr,Nat.add_sub_cancel_left]
    rw[htk] at hv6
    have htl:(r.take n).length=n:=by simp; omega
    refine lU (E:=BY) hO4 k34.next (by decide) hv6.sl (by rw[htl]; omega) (by rw[htl]; omega) fun v7 M7 o7 k7 _ _=>?_
    refine hnext _ _ _ (show b.length - (at2 + n + 2)<b.length - at' by omega) ⟨at2 + n + 2,v7,out++r.take n,rfl,by omega,by omega,rfl,by rw[List.length_append,htl]; omega,o7,ae.own k34 k7 (fun x hx=>(hO4.blk x hx).1), ?_⟩
    have hd:b.drop (at2 + n + 2)=r.drop (n + 2):=by rw[← hr,List.drop_drop,Nat.add_assoc]
    rw[← heq,hd]
    conv=>rhs; rw[bn,e4]
    simp only[jK hf1,hrl,jK hf2,he2,Pv hn0]
    exact vZ _ _ _ _ (by simp; omega) (by simp; omega)
end Go.Ab.Hw
set_option maxRecDepth 100000
namespace Go.Ab.Dot
open Go Go.Ab
def qP (p1:Nat) (a0:AV) (M0:RM) (Q:ah) : Prop:=gu false 2 a0 (.sc (.slice none 0 0)) fun h=>au h ( Q (.sc (.slice none 0 0)) M0) ( cz p1 0 [(N .u8 0)] [] fun g e=>aW g e M0 fun i c=>appW p1 1 1 [(N .u8 0)] false i a0 c fun j d=>Q j d)
end Go.Ab.Dot
set_option maxRecDepth 10000
namespace Go.Ab.Hw
open Go Go.Ab Go.Ab.Sm
def Ey (T:Nat) (c:ai) : Prop:=∀ {M:RM} {v:AV} {s:Str} {Q:ah},Sl BY M v s→s.length≤1000000000→(∀ v' M',Ow BY M' M.next T v' s→ae [] M M'→Q v' M')→c [v] M Q
theorem IU {T:Nat} : Ey T fun args M Q=>∃ a0,args=[a0]∧Go.Ab.Dot.qP T a0 M Q:=by
 intro M v s Q hv hl hQ
 refine⟨_,rfl, ?_⟩
 unfold Go.Ab.Dot.qP
 rcases aC.uF hv false with⟨rfl,he⟩ | ⟨hne,he⟩
 ·rw[he,show(!false)=true from rfl,bP]
  have:s=[]:=by
   unfold Sl at hv
   cases s with
   | nil=>rfl
   | cons x s=>generalize hcs:BY.row (x :: s)=cs at *; generalize hn:(x :: s).length=n at *; cases hv; cases hcs
  subst this
  exact hQ aF M .nil (ae.refl _ _)
 ·rw[he,aY,Eh]
  simp only[aR]
  have k1:ae [] M (M.push (.row [] false T 0)):=(ae.refl _ _).push _
  refine lU (E:=BY) (Ow.lit BY M) (by simp[RM.push]) (by decide) (aC.keep hv k1 (by simp)) (by simp; omega) (by simp; omega) fun v7 M7 o7 k7 _ _=>?_
  refine hQ v7 M7 (by simpa using o7) ?_
  refine ae.own k1 k7 (fun b hb=>?_)
  simp[aP] at hb; omega
abbrev BH:Str:=[116,114,97,110,115,102,101,114,45,101,110,99,111,100,105,110,103]
abbrev yR:Str:=[99,111,110,116,101,110,116,45,108,101,110,103,116,104]
abbrev BF:Str:=[99,104,117,110,107,101,100]
def vB (v:Str) : Bool:=ig v 1 9 && v.all dM
def mh (r:Str) (l:List Hd) : Except Nat (Str × Str):=match bO l BH with
 | x :: xs=>match xs with
   | _ :: _=>.error 14
   | []=>match low x == BF with
     | false=>.error 14
     | true=>match bO l yR with
       | _ :: _=>.error 14
       | []=>bn (r.length + 1) r []
 | []=>match bO l yR with
   | []=>.ok ([],r)
   | v :: vs=>match vs with
     | _ :: _=>.error 14
     | []=>match vB v with
       | false=>.error 14
       | true=>match Nat.blt 16384 (gB v) with
         | true=>.error 2
         | false=>match Nat.blt r.length (gB v) with
           | true=>.error 15
           | false=>.ok (r.take (gB v),r.drop (gB v))
def El (B:Base) (T:Nat) (c:ai) : Prop:=∀ {M:RM} {v hv:AV} {b:Str} {l:List Hd} {at' : Nat} {Q:ah},M.base=B→Bs M v b→at'≤b.length→b.length≤1000000000→Sl HD M hv l→l.length≤1000000→(∀ h∈l,h.1.length<4611686018427387904∧h.2.length<4611686018427387904) →
 (∀ out r at2 ov M',mh (b.drop at') l=.ok (out,r)→at2≤b.length→at'≤at2→b.drop at2=r→out.length≤16384→ae [] M M'→Ow BY M' M.next T ov out→Q (.tup [ov,N .i64 (at2:Int),N .i64 0]) M') →
 (∀ (e:Nat) M',mh (b.drop at') l=.error e→(e=14∨e=15∨e=2)→ae [] M M'→Q (.tup [aF,N .i64 0,N .i64 (e:Int)]) M')→c [v,N .i64 (at' : Int),hv] M Q
theorem J9 {l:List Hd} {n s:Str} (h:s∈bO l n) : ∃ x∈l,x.2=s:=by
 unfold bO at h
 rw[List.mem_map] at h
 obtain⟨x,hx,e⟩:=h
 exact⟨x,(List.mem_filter.1 hx).1,e⟩
theorem FP:∀ (s:Str) (n:Nat),s.all dM=true→s.foldl (fun n x=>n * 10 + (x.toNat - 48)) n<(n + 1) * 10 ^ s.length
 | [],n,_=>by simp
 | x :: s,n,h=>by
   simp only[List.all_cons,Bool.and_eq_true] at h
   have hd:x.toNat - 48<10:=by
    have:=h.1
    unfold dM at this
    simp only[Bool.and_eq_true,decide_eq_true_eq] at this
    omega
   have:=FP s (n * 10 + (x.toNat - 48)) h.2
   rw[List.foldl_cons]
   refine Nat.lt_of_lt_of_le this ?_
   rw[List.length_cons,Nat.pow_succ,Nat.mul_comm (10 ^ s.length) 10,← Nat.mul_assoc]
   exact Nat.mul_le_mul_right _ (by omega)
theorem Nw {s:Str} (h:s.all dM=true) (hl:s.length≤9) : gB s<1000000000:=by
 have:=FP s 0 h
 unfold gB
 refine Nat.lt_of_lt_of_le this ?_
 rw[Nat.zero_add,Nat.one_mul]
 exact Nat.le_trans (Nat.pow_le_pow_right (by decide) hl) (by decide)
theorem K8 {B:Base} {T TS g:Nat} {cn cs cc cw ca ci cl:ai} (hn:Bi TS cn) (hs:zZ cs) (hc:zW B T cc) (hw:qa cw) (ha:kU dM (.fn (.func g) [] []) ca) (hi:Jz ci) (hcl:Ey T cl) :
  El B T fun args M Q=>∃ a0 a1 a2,args=[a0,a1,a2]∧mU cn cs cc cw ca g ci cl a0 a1 a2 M Q:=by
 intro M v hv b l at' Q hB hb h1 hl hh hll hnl hQ hE
 refine⟨_,_,_,rfl, ?_⟩
 unfold mU
 have hval:∀ {n s},s∈bO l n→s.length<4611686018427387904:=fun hm=>by
  obtain⟨x,hx,rfl⟩:=J9 hm
  exact(hnl x hx).2
 have hrl:(b.drop at').length=b.length - at':=by simp
 refine hn hh hll (fun h hx=>(hnl h hx).1) (by decide) fun v1 M1 o1 k1=>?_
 refine hn (aC.keep hh k1 (by simp)) hll (fun h hx=>(hnl h hx).1) (by decide) fun v2 M2 o2 k2=>?_
 have k12:=k1.trans k2
 have s1:Sl mV M2 v1 (bO l BH):=aC.keep (Own.j3 o1) k2 (by simp)
 have s2:Sl mV M2 v2 (bO l yR):=Own.j3 o2
 have P8 := @hval BH
 have Qn := @hval yR
 unfold mh at hQ hE
 rw[hrl] at hQ hE
 change Sl mV M2 v1 (bO l BH) at s1
 generalize bO l BH=xs at *
 generalize bO l yR=ys at *
 rw[s1.len,dS]
 cases xs with
 | cons x xs =>
   rw[show decide (((x :: xs).length:Int) > 0)=true by simp,bP,s1.len,dS]
   simp only[di]
   cases xs with
   | cons x2 xs =>
     rw[show decide (((x :: x2 :: xs).length:Int) > 1)=true by simp; omega]
     simp only[dH,bW,bP]
     exact hE 14 M2 rfl (.inl rfl) k12
   | nil =>
     rw[show decide ((([x] : List Str).length:Int) > 1)=false from rfl]
     simp only[cB,dL]
     obtain⟨b0,o0,_,_,hix,hld⟩:=s1.at 1 0 (i:=0) (by simp)
     rw[hix,dz]
     refine⟨_,dQ.1 hld, ?_⟩
     refine hs (by have:=P8 (List.mem_singleton.2 rfl); simpa using (by omega:x.length<9223372036854775807)) fun M3 k3=>?_
     simp only[List.getElem_cons_zero,vD]
     cases hlow:low x == BF with
     | false =>
       rw[show(low x != BF)=true by unfold bne; rw[hlow]; rfl]
       simp only[dH,bW,bP]
       exact hE 14 M3 (by simp only[hlow]) (.inl rfl) (k12.trans k3)
     | true =>
       rw[show(low x != BF)=false by unfold bne; rw[hlow]; rfl]
       simp only[cB,dL]
       have s23:Sl mV M3 v2 ys:=aC.keep s2 k3 (by simp)
       rw[s23.len,dS]
       cases ys with
       | cons y ys =>
         rw[show decide (((y :: ys).length:Int) > 0)=true by simp,bP]
         exact hE 14 M3 (by simp only[hlow]) (.inl rfl) (k12.trans k3)
       | nil =>
         rw[show decide ((([] : List Str).length:Int) > 0)=false from rfl,aY]
         have k13:=k12.trans k3
         refine hc (k13.base.trans hB) (hb.keep k13 (by simp)) h1 hl (fun out r at2 ov M4 e4 a1 a2 hr ho k4 o4=>?_) (fun e M4 e4 he k4=>?_)
         ·simp only[bg,bf,dJ]
          exact hQ out r at2 ov M4 (by simp only[hlow]; exact e4) a1 a2 hr ho (k13.trans k4) (Own.mono o4 k13.next)
         ·simp only[bg,bf,dJ]
          exact hE e M4 (by simp only[hlow]; exact e4) he (k13.trans k4)
 | nil =>
   rw[show decide ((([] : List Str).length:Int) > 0)=false from rfl,aY,s2.len,bq]
   cases ys with
   | nil =>
     rw[show((([] : List Str).length:Int) == 0)=true from rfl,bP]
     exact hQ [] (b.drop at') at' aF M2 rfl h1 (Nat.le_refl _) rfl (by simp) k12 .nil
   | cons y ys =>
     rw[show(((y :: ys).length:Int) == 0)=false by simp; omega,aY,s2.len,dS]
     simp only[di]
     cases ys with
     | cons y2 ys =>
       rw[show decide (((y :: y2 :: ys).length:Int) > 1)=true by simp; omega]
       simp only[dH,bW,bP]
       exact hE 14 M2 rfl (.inl rfl) k12
     | nil =>
       rw[show decide ((([y] : List Str).length:Int) > 1)=false from rfl]
       simp only[cB,dL]
       obtain⟨b0,o0,hb0,hb0v,hix,hld⟩:=s2.at 1 0 (i:=0) (by simp)
       have hc0:=dQ.1 hld
       have hyl:y.length<4611686018427387904:=Qn (List.mem_singleton.2 rfl)
       rw[hix,dz]
       refine⟨_,hc0, ?_⟩
       refine hw ?_
       simp only[List.getElem_cons_zero,dh]
       have tail:∀ M3,ae [] M2 M3→au (Bo (!vB y)) (Q (.tup [(.sc (.slice none 0 0)),(N .i64 0),(N .i64 14)]) M3) (
         dm v2 (N .i64 0) 1 fun t67=>aj M3 t67 fun t68=>ci [t68] M3 fun t69 L9=>aD t69 0 fun t70=>aD t69 1 fun t71=>af .gtr t70 (N .i64 16384) fun t74=>au t74 ( Q (.tup [(.sc (.slice none 0 0)),(N .i64 0),(N .i64 2)]) L9) ( aU v fun t78=>af .sub t78 (N .i64 (at' : Int)) fun t80=>af .gtr t70 t80 fun t81=>au t81 ( Q (.tup [(.sc (.slice none 0 0)),(N .i64 0),(N .i64 15)]) L9) ( af .add (N .i64 (at' : Int)) t70 fun t86=>bI (dB 1 v (some (N .i64 (at' : Int))) (some t86) none) fun t87=>cl [t87] L9 fun t88 QW=>af .add (N .i64 (at' : Int)) t70 fun t91=>Q (.tup [t88,t91,(N .i64 0)]) QW))):=by
        intro M3 k3
        cases hok:vB y with
        | false =>
          simp only[Bool.not_false,bP]
          exact hE 14 M3 (by simp only[hok]) (.inl rfl) (k12.trans k3)
        | true =>
          have hok':=hok
          unfold vB ig at hok'
          simp only[Bool.and_eq_true,decide_eq_true_eq] at hok'
          simp only[Bool.not_true,aY]
          have s23:Sl mV M3 v2 [y]:=aC.keep s2 k3 (by simp)
          obtain⟨b3,o3,hb3,_,RO,Rv⟩:=s23.at 1 0 (i:=0) (by simp)
          rw[RO,dz]
          refine⟨_,dQ.1 Rv, ?_⟩
          simp only[List.getElem_cons_zero]
          refine hi (by omega) (by omega) hok'.2 fun M4 k4=>?_
          have hlt:=Nw hok'.2 (by omega)
          have k14:=k12.trans (k3.trans k4)
          have hb4:=hb.keep k14 (by simp)
          simp only[bg,bf]
          rw[show(N .i64 16384)=N .i64 ((16384:Nat) : Int) from rfl,Jh]
          refine dF (fun h=>?_) fun h=>?_
          ·have h:16384<gB y:=by simpa using h
           exact hE 2 M4 (by simp only[hok,pG h]) (by omega) k14
          have hf1:¬ 16384<gB y:=by simpa using h
          rw[hb4.len,Jy h1 (by omega),Jh]
          refine dF (fun h=>?_) fun h=>?_
          ·have h:b.length - at'<gB y:=by simpa using h
           exact hE 15 M4 (by simp only[hok,jK hf1,pG h]) (by omega) k14
          have hf2:¬ b.length - at'<gB y:=by simpa using h
          simp only[addN (show at' + gB y<4611686018427387904 by omega)]
          refine hb4.sub (kP _ _ _) (kP _ _ _) (by omega) (by omega) fun v5 hv5 _=>?_
          rw[Nat.add_sub_cancel_left] at hv5
          refine hcl hv5.sl (by simp; omega) fun v6 M6 o6 k6=>?_
          exact hQ ((b.drop at').take (gB y)) ((b.drop at').drop (gB y)) (at' + gB y) v6 M6 (by simp only[hok,jK hf1,jK hf2]) (by omega) (by omega) (by rw[List.drop_drop]) (by simp; omega) (k14.trans k6) (Own.mono o6 k14.next)
       cases hwi:ig y 1 9 with
       | false =>
         simp only[Bool.not_false,dH,bW]
         have:=tail M2 (ae.refl _ _)
         unfold vB at this
         rw[hwi] at this
         simpa only[Bool.false_and,Bool.not_false] using this
       | true =>
         simp only[Bool.not_true,cB,dL]
         rw[hix,dz]
         refine⟨_,hc0, ?_⟩
         simp only[List.getElem_cons_zero]
         refine ha hyl fun M3 k3=>?_
         have:=tail M3 k3
         unfold vB at this
         rw[hwi] at this
         simpa only[dh,Bool.true_and,dL] using this
end Go.Ab.Hw
namespace Go.Ab.Hw
open Go Go.Ab Go.Ab.Sm
open Go.Ab.Vl (brk kE pO gm fG iF gI Al qb)
def IQ (c:UInt8) : List Str→List Str
 | []=>[[c]]
 | w :: ws=>(c :: w) :: ws
def words (x:UInt8) : Str→List Str
 | []=>[[]]
 | c :: t=>match c == x with
   | true=>[] :: words x t
   | false=>IQ c (words x t)
theorem Mm (x:UInt8) (s:Str) : words x s≠[]:=by
 cases s with
 | nil=>simp[words]
 | cons c t =>
   unfold words
   split
   ·simp
   ·cases words x t <;> simp[IQ]
theorem xM (x:UInt8) : ∀ s:Str,words x s=(match brk x s with | none=>[s] | some p=>p.1 :: words x p.2)
 | []=>rfl
 | c :: t=>by
   rw[words,brk]
   cases h:c == x
   ·have hc:¬ c=x:=by simpa using h
    rw[if_neg hc]
    dsimp only
    rw[xM x t]
    cases brk x t with
    | none=>rfl
    | some p=>rfl
   ·have hc:c=x:=by simpa using h
    rw[if_pos hc]
theorem xE {x:UInt8} : ∀ {s a b:Str},brk x s=some (a,b)→s.count x=b.count x + 1
 | [],_,_,h=>by simp[brk] at h
 | c :: t,a,b,h=>by
   rw[brk] at h
   split at h
   ·rename_i e; subst e; cases h; simp
   ·rename_i e
    cases hb:brk x t with
    | none=>rw[hb] at h; simp at h
    | some p =>
      rw[hb] at h
      simp only[Option.map_some,Option.some.injEq,Prod.mk.injEq] at h
      obtain⟨_,rfl⟩:=h
      rw[List.count_cons_of_ne e]
      exact xE (a:=p.1) (b:=p.2) hb
theorem CV {x:UInt8} {s:Str} (h:brk x s=none) : s.count x=0:=by
 rcases Vl.ug x s with⟨_,_,h3⟩ | ⟨a,b,h1,_⟩
 ·exact List.count_eq_zero.2 h3
 ·rw[h] at h1; cases h1
theorem wP (x:UInt8) : ∀ (k:Nat) (s:Str),s.count x=k→Lib.splitK [x] 0 k s=words x s
 | 0,s,h=>by
   rw[xM]
   cases hb:brk x s with
   | none=>rfl
   | some p=>have:=xE (a:=p.1) (b:=p.2) hb; omega
 | k + 1,s,h=>by
   rw[xM,Lib.splitK,Lib.index_one]
   rcases Vl.ug x s with⟨h1,h2,_⟩ | ⟨a,b,h1,h2,h3,_⟩
   ·have:=CV h1; omega
   ·have hn:((a.length:Int) == -1)=false:=by simp
    have hc:=xE h1
    rw[h1,h2,hn]
    simp only[Int.toNat_natCast,Nat.add_zero,List.length_cons,List.length_nil]
    rw[← wP x k b (by omega)]
    have e1:s.take a.length=a:=by rw[h3]; simp
    have e2:s.drop (a.length + (0 + 1))=b:=by rw[h3,← List.drop_drop]; simp
    rw[e1,e2]
    rfl
theorem rT {x:UInt8} : ∀ {s w:Str},w∈words x s→w.length≤s.length
 | [],w,h=>by simp[words] at h; subst h; simp
 | c :: t,w,h=>by
   rw[words] at h
   split at h
   ·rcases List.mem_cons.1 h with rfl | h
    ·simp
    ·have:=rT h; simp; omega
   ·cases hw:words x t with
    | nil=>exact absurd hw (Mm x t)
    | cons v vs =>
      rw[hw] at h
      simp only[IQ] at h
      rcases List.mem_cons.1 h with rfl | h
      ·have:=rT (x:=x) (s:=t) (w:=v) (by rw[hw]; simp); simp; omega
      ·have:=rT (x:=x) (s:=t) (w:=w) (by rw[hw]; simp[h]); simp; omega
def Fj (B:Base) (T:Nat) (c:ai) : Prop:=∀ {M:RM} {s:Str} {Q:ah},M.base=B→s.length≤1000000→(∀ v M',Ow mV M' M.next T v (words 32 s)→ae [] M M'→Q v M')→c [St s,St [32]] M Q
abbrev Oe:Str:=[72,84,84,80,47,49,46,49]
def uJ (m p v:Str) : Bool:=iD m && jl p && (v == Oe)
def ji (s:Str) : Option (Str × Str):=match words 32 s with
 | [m,p,v]=>match uJ m p v with
   | true=>some (m,p)
   | false=>none
 | _=>none
def oM (s:Str) : Bool:=(ji s).isSome
abbrev jb (T:Nat) (m p:Str) : RB:=.row [St m,St p,aF,aF] false T 0
def FV (T:Nat) (s:Str) : RB:=match ji s with
 | some (m,p)=>jb T m p
 | none=>jb T [] []
theorem Ot (l:List Str) : (∃ a b c,l=[a,b,c])∨l.length≠3:=by
 rcases l with _ | ⟨a,_ | ⟨b,_ | ⟨c,_ | ⟨d,l⟩⟩⟩⟩ <;> simp
theorem KE {B:Base} {T TS br:Nat} {cs cm cp:ai} (hs:Fj B TS cs) (hm:lm iD cm) (hp:lm jl cp) {M:RM} {s:Str} {K:ah} (hB:M.base=B) (hbr:br<M.next) (hX:M.heap br=some (jb T [] []))
  (hl:s.length≤2048) (h0:oM s=false→∀ M',ae [br] M M'→K (Bo false) M') (h1:oM s=true→∀ M',ae [br] M M'→M'.heap br=some (FV T s)→K (Bo true) M') : gN cs cm cp (St s) (.ptr br 0) M K:=by
 unfold gN
 refine hs hB (by omega) fun v M1 o1 k1=>?_
 have s1:Sl mV M1 v (words 32 s):=Own.j3 o1
 have hwl:∀ w∈words 32 s,w.length≤2048:=fun w hw=>Nat.le_trans (rT hw) hl
 have kb:∀ {M'},ae [] M M'→ae [br] M M':=fun k=>k.mono (by simp)
 rw[s1.len]
 simp only[gM,di]
 rcases Ot (words 32 s) with⟨a,b,c,hw⟩ | hne
 ·have hq:ji s=if uJ a b c then some (a,b) else none:=by
   unfold ji; rw[hw]; dsimp only; cases uJ a b c <;> rfl
  rw[hw] at s1 hwl ⊢
  rw[show((([a,b,c] : List Str).length:Int) != 3)=false from rfl]
  simp only[cB,dL]
  have at_:∀ {M2:RM} (k:ae [] M1 M2) {K' : AV→Prop},(∀ x:AV,(dm v (N .i64 0) 1 fun t=>aj M2 t fun u=>K' u)=K' (St a))∧(∀ x:AV,(dm v (N .i64 1) 1 fun t=>aj M2 t fun u=>K' u)=K' (St b))∧(∀ x:AV,(dm v (N .i64 2) 1 fun t=>aj M2 t fun u=>K' u)=K' (St c)):=by
   intro M2 k K'
   have s2:Sl mV M2 v [a,b,c]:=aC.keep s1 k (by simp)
   obtain⟨b0,o0,_,_,hix,hld⟩:=s2.at 1 0 (i:=0) (by simp)
   obtain⟨b1,o1',_,_,EK,CL⟩:=s2.at 1 1 (i:=1) (by simp)
   obtain⟨b2,o2,_,_,LH,Ml⟩:=s2.at 1 2 (i:=2) (by simp)
   refine⟨fun _=>?_,fun _=>?_,fun _=>?_⟩
   ·rw[hix,dz,dQ.1 hld]; exact CY _ _
   ·rw[EK,dz,dQ.1 CL]; exact CY _ _
   ·rw[LH,dz,dQ.1 Ml]; exact CY _ _
  have tail:∀ M2,ae [] M1 M2→(au (Bo (!uJ a b c)) (K (Bo false) M2) (
    dm v (N .i64 0) 1 fun t31=>aj M2 t31 fun t32=>dm v (N .i64 1) 1 fun t34=>aj M2 t34 fun t35=>aQ (.ptr br 0) 0 fun t36=>aH M2 t36 t32 1 fun Pn=>aj Pn t34 fun Ou=>(Ou=t35∧aQ (.ptr br 0) 1 fun t37=>aH Pn t37 t35 1 fun Ry=>K (Bo true) Ry))):=by
   intro M2 k2
   have k02:ae [] M M2:=k1.trans k2
   refine dF (fun h=>?_) fun h=>?_
   ·have hk:uJ a b c=false:=by simpa using h
    exact h0 (by unfold oM; rw[hq,hk]; rfl) M2 (kb k02)
   ·have hk:uJ a b c=true:=by simpa using h
    have X2:=k02.aN hX hbr (by simp)
    have s2:Sl mV M2 v [a,b,c]:=aC.keep s1 k2 (by simp)
    rw[((at_ k2).1 aF)]
    obtain⟨b1,o1',hb1,Sr,EK,CL⟩:=s2.at 1 1 (i:=1) (by simp)
    have hvn:=(o1.blk b1 Sr).1
    rw[EK,dz]
    refine⟨_,dQ.1 CL, ?_⟩
    simp only[List.getElem_cons_succ,List.getElem_cons_zero]
    rw[jk,fO [St a,St [],aF,aF] X2 (by simp) rfl rfl rfl,dz]
    have k3:ae [br] M2 (M2.put br (.row [St a,St [],aF,aF] false T 0)):=(ae.refl _ _).put _ (.inr (by simp))
    have hne:b1≠br:=fun e=>by omega
    refine⟨St b, ?_,rfl, ?_⟩
    ·have hcell:M2.cell b1 o1'=some (St b):=dQ.1 CL
     rw[← hcell]
     unfold RM.cell
     rw[RM.qE,RM.qE,k3.heap b1 hb1 (by simpa using hne)]
     rfl
    rw[jk,fO [St a,St b,aF,aF] (aM _) (by simp) rfl rfl rfl]
    refine h1 (by unfold oM; rw[hq,hk]; rfl) _ ((kb k02).trans (k3.trans ((ae.refl _ _).put _ (.inr (by simp))))) ?_
    rw[aM]
    unfold FV; rw[hq,hk]; rfl
  have ha:=hwl a (by simp)
  have hb:=hwl b (by simp)
  rw[((at_ (ae.refl _ _)).1 aF)]
  refine hm (by omega) fun M2 k2=>?_
  simp only[dh]
  unfold uJ at tail
  cases hgm:iD a with
  | false =>
    simp only[Bool.not_false,dH,bW]
    have:=tail M2 k2
    simpa only[hgm,Bool.false_and,Bool.not_false] using this
  | true =>
    simp only[Bool.not_true,cB,dL]
    rw[((at_ k2).2.1 aF)]
    refine hp (by omega) fun M3 k3=>?_
    have k13:=k2.trans k3
    simp only[dh]
    cases hgp:jl b with
    | false =>
      simp only[Bool.not_false,dH,bW]
      have:=tail M3 k13
      simpa only[hgm,hgp,Bool.false_and,Bool.and_false,Bool.not_false] using this
    | true =>
      simp only[Bool.not_true,cB,dL]
      rw[((at_ k13).2.2 aF),vD]
      have:=tail M3 k13
      simpa only[hgm,hgp,Bool.true_and,bne] using this
 ·have hq:ji s=none:=by
   unfold ji
   split
   ·rename_i m p v hw; rw[hw] at hne; exact absurd rfl hne
   ·rfl
  rw[show(((words 32 s).length:Int) != 3)=true by
   simp only[bne_iff_ne,ne_eq]
   omega]
  simp only[dH,bW,bP]
  exact h0 (by unfold oM; rw[hq]; rfl) M1 (kb k1)
abbrev Eu:Str:=[72,84,84,80,47,49,46,49,32]
def og (s:Str) : Str:=if pre Eu s then s.drop 9 else s
def EI (s:Str) : Bool:=!pre Eu s || decide (((og s).length:Int)<4)
def IZ (s:Str) : Bool:=EI s || !((og s).take 3).all dM
def I5 (s:Str) : Bool:=IZ s || ((((og s).getD 3 0).toNat:Int) != 32)
def Mo (s:Str) : Bool:=I5 s || !((og s).drop 3).all p32
def codeOf (s:Str) : Nat:=gB ((og s).take 3)
def oQ (s:Str) : Bool:=!Mo s && (decide ((codeOf s:Int) ≥ 100) && decide ((codeOf s:Int)≤599))
abbrev gD (T:Nat) (n:Int) : RB:=.row [N .i64 n,aF,aF] false T 0
def Ep (T:Nat) (s:Str) : RB:=gD T (codeOf s)
theorem IM {T br g1 g2:Nat} {cc ca ci:ai} (hc:pY cc) (ha1:kU dM (.fn (.func g1) [] []) ca) (ha2:kU p32 (.fn (.func g2) [] []) ca) (hi:Jz ci) {M:RM} {s:Str} {K:ah} (hbr:br<M.next)
  (hX:M.heap br=some (gD T 0)) (hl:s.length≤2048) (h0:oQ s=false→∀ M',ae [br] M M'→K (Bo false) M') (h1:oQ s=true→∀ M',ae [br] M M'→M'.heap br=some (Ep T s)→K (Bo true) M') :
  gG cc ca g1 g2 ci (St s) (.ptr br 0) M K:=by
 unfold gG
 refine hc ?_
 have kb:∀ {M'},ae [] M M'→ae [br] M M':=fun k=>k.mono (by simp)
 have hrl:(og s).length≤s.length:=by unfold og; split <;> simp
 have e9:wJ Eu s=.tup [St (og s),Bo (pre Eu s)]:=by
  unfold wJ og; cases pre Eu s <;> rfl
 rw[e9]
 simp only[bg,bf,dh,di]
 generalize hr:og s=r at *
 have hb1:EI s=(!pre Eu s || decide ((r.length:Int)<4)):=by unfold EI; rw[hr]
 have hb2:IZ s=(EI s || !(r.take 3).all dM):=by unfold IZ; rw[hr]
 have hb3:I5 s=(IZ s || (((r.getD 3 0).toNat:Int) != 32)):=by unfold I5; rw[hr]
 have hb4:Mo s=(I5 s || !(r.drop 3).all p32):=by unfold Mo; rw[hr]
 have IE:EI s=false→4≤r.length:=fun h=>by
  rw[hb1] at h
  simp only[Bool.or_eq_false_iff,decide_eq_false_iff_not] at h
  omega
 refine zR (P:=ae [] M) (p:=decide ((r.length:Int)<4)) (ae.refl _ _) (fun _ k hk=>?_) fun M1 k1=>?_
 ·simpa only[go_sem] using hk M (ae.refl _ _)
 rw[← hb1]
 refine zR (P:=ae [] M) (p:=!(r.take 3).all dM) k1 (fun hf k hk=>?_) fun M2 k2=>?_
 ·have:=IE hf
  rw[show(N .i64 3)=N .i64 ((3:Nat) : Int) from rfl,gI (by omega)]
  simp only[eF]
  refine ha1 (by simp; omega) fun M2 k2=>?_
  simp only[dh]
  exact hk M2 (k1.trans k2)
 rw[← hb2]
 refine zR (P:=ae [] M) (p:=(((r.getD 3 0).toNat:Int) != 32)) k2 (fun hf k hk=>?_) fun M3 k3=>?_
 ·have:=IE (by rw[hb2,Bool.or_eq_false_iff] at hf; exact hf.1)
  rw[show(N .i64 3)=N .i64 ((3:Nat) : Int) from rfl,qb (by omega),gM]
  have:r.getD 3 0=r[3]:=by simp[List.getD_eq_getElem?_getD,List.getElem?_eq_getElem (show 3<r.length by omega)]
  rw[this] at hk
  exact hk _ k2
 rw[← hb3]
 refine zR (P:=ae [] M) (p:=!(r.drop 3).all p32) k3 (fun hf k hk=>?_) fun M4 k4=>?_
 ·have:=IE (by
   rw[hb3,Bool.or_eq_false_iff] at hf
   have:=hf.1
   rw[hb2,Bool.or_eq_false_iff] at this; exact this.1)
  rw[show(N .i64 3)=N .i64 ((3:Nat) : Int) from rfl,fG (by omega)]
  simp only[eF]
  refine ha2 (by simp; omega) fun M2 k2=>?_
  simp only[dh]
  exact hk M2 (k3.trans k2)
 rw[← hb4]
 refine dF (fun h=>?_) fun h=>?_
 ·exact h0 (by unfold oQ; rw[h]; rfl) M4 (kb k4)
 ·have h':=h
  rw[hb4,Bool.or_eq_false_iff] at h'
  have h'':=h'.1
  rw[hb3,Bool.or_eq_false_iff] at h''
  have h3:=h''.1
  rw[hb2,Bool.or_eq_false_iff] at h3
  have hd:(r.take 3).all dM=true:=by simpa using h3.2
  have l4:=IE h3.1
  rw[show(N .i64 3)=N .i64 ((3:Nat) : Int) from rfl,gI (by omega)]
  simp only[eF]
  refine hi (by simp; omega) (by simp; omega) hd fun M5 k5=>?_
  have X5:=(k4.trans k5).aN hX hbr (by simp)
  have hcode:codeOf s=gB (r.take 3):=by unfold codeOf; rw[hr]
  rw[← hcode]
  simp only[bg,bf]
  rw[jk,fO [N .i64 (codeOf s:Int),aF,aF] X5 (by simp) rfl rfl rfl]
  have k6:ae [br] M (M5.put br (.row [N .i64 (codeOf s:Int),aF,aF] false T 0)):=(kb (k4.trans k5)).put _ (.inr (by simp))
  have X6:(M5.put br (.row [N .i64 (codeOf s:Int),aF,aF] false T 0)).heap br=some (Ep T s):=aM _
  generalize M5.put br (.row [N .i64 (codeOf s:Int),aF,aF] false T 0)=M6 at *
  have ld:∀ {K' : AV→Prop},aj M6 (.ptr br 0) K'=K' (N .i64 (codeOf s:Int)):=fun {K'} => aL X6 rfl
  rw[jk,ld,dC]
  try simp only[di]
  refine nX (p:=decide ((codeOf s:Int)≤599)) (fun _ k hk=>?_) ?_
  ·rw[jk,ld]
   simpa only[go_sem] using hk
  ·have hp:oQ s=(decide ((codeOf s:Int) ≥ 100) && decide ((codeOf s:Int)≤599)):=by unfold oQ; rw[h]; rfl
   rw[← hp]
   cases hv:oQ s with
   | false=>exact h0 hv _ k6
   | true=>exact h1 hv _ k6 X6
theorem Gg {s:Str} {h:Hd} (e:ek s=some h) : h.1.length≤s.length∧h.2.length≤s.length:=by
 unfold ek at e
 split at e
 ·cases e
 ·rename_i a b hb
  have:=Hm hb
  have:=Da b
  split at e
  ·cases e; exact⟨by show a.length≤_; omega,by show(trimB b).length≤_; omega⟩
  ·cases e
theorem K6 {b s:Str} {at' n:Nat} (e:dP b at'=.ok (s,n)) : s.length≤2048:=by
 unfold dP at e
 split at e
 ·rename_i p hp
  cases e
  obtain⟨a,r⟩:=p
  have:=(lK hp).2
  simp at this
  show a.length≤2048
  omega
 ·split at e <;> cases e
theorem Kn (b:Str) : ∀ (f at' : Nat) (l l' : List Hd) (n:Nat),(∀ h∈l,h.1.length≤2048∧h.2.length≤2048)→hloop b f at' l=.ok (l',n)→∀ h∈l',h.1.length≤2048∧h.2.length≤2048:=by
 intro f
 induction f with
 | zero =>
   intro at' l l' n hl e
   rw[dY] at e
   split at e
   ·cases e
   ·split at e
    ·cases e; exact hl
    ·cases e
 | succ f ih =>
   intro at' l l' n hl e
   rw[dY] at e
   split at e
   ·cases e
   ·rename_i s n' hL
    split at e
    ·cases e; exact hl
    ·dsimp only at e
     split at e
     ·cases e
     ·rename_i h hh
      refine ih _ _ _ _ (fun x hx=>?_) e
      rcases List.mem_append.1 hx with hx | hx
      ·exact hl x hx
      ·have:x=h:=by simpa using hx
       subst this
       have h1:=Gg hh
       have h2:=K6 hL
       exact⟨by omega,by omega⟩
theorem Dl {p:Str→Bool} {b s:Str} {l:List Hd} {n:Nat} (e:headD p b=.ok (s,l,n)) : (∀ h∈l,h.1.length≤2048∧h.2.length≤2048)∧p s=true:=by
 unfold headD at e
 split at e
 ·cases e
 ·split at e
  ·cases e
  ·split at e
   ·cases e
   ·rename_i hh
    cases e
    exact⟨Kn b _ _ _ _ _ (by simp) hh,by assumption⟩
def fB (b:Str) : Except Nat ((Str × Str × List Hd × Str) × Str):=match headD oM b with
 | .error e=>.error e
 | .ok (s,l,at')=>match mh (b.drop at') l with
   | .error e=>.error e
   | .ok (out,r)=>match ji s with
     | some (m,p)=>.ok ((m,p,l,out),r)
     | none=>.error 14
def EF (B:Base) (TH T8:Nat) (c:ai) : Prop:=∀ {M:RM} {v:AV} {b:Str} {Q:ah},M.base=B→Bs M v b→b.length≤1000000000 →
 (∀ m p l out r at2 hv ov M',fB b=.ok ((m,p,l,out),r)→at2≤b.length→b.drop at2=r→out.length≤16384→l.length≤32→(∀ h∈l,h.1.length≤2048∧h.2.length≤2048)→ae [] M M'→Ow HD M' M.next TH hv l→Ow BY M' M.next T8 ov out →
  Q (.tup [.agg [St m,St p,hv,ov],N .i64 (at2:Int),N .i64 0]) M') →
 (∀ (e:Nat) M',fB b=.error e→(e=14∨e=15∨e=2)→ae [] M M'→Q (.tup [.agg [St [],St [],aF,aF],N .i64 0,N .i64 (e:Int)]) M')→c [v] M Q
theorem qF {br:Nat} {M M0 M1:RM} (k0:ae [] M M0) (h:ae [br] M0 M1) (hb:M.next≤br) : ae [] M M1 :=
 ⟨h.base.trans k0.base,Nat.le_trans k0.next h.next,fun x hx _=>by rw[h.heap x (Nat.lt_of_lt_of_le hx k0.next) (fun e=>by simp at e; omega),k0.heap x hx (by simp)]⟩
theorem Bs.lt {M:RM} {v:AV} {b:Str} (h:Bs M v b) : ∀ x∈aP v,x<M.next:=aC.lt h.sl
theorem EN {B:Base} {T TH T8 g:Nat} {ch cb:ai} (hH:∀ br,Eb B (.fn (.func g) [] [.ptr br 0]) oM br (jb T [] []) (FV T) TH ch) (hb:El B T8 cb) : EF B TH T8 fun args M Q=>∃ a0,args=[a0]∧iI T g ch cb a0 M Q:=by
 intro M v b Q hB hv hl hQ hE
 refine⟨_,rfl, ?_⟩
 unfold iI
 simp only[aR]
 have k0:ae [] M ((M.push (jb T [] [])).push (jb T [] [])):=((ae.refl _ _).push _).push _
 have a2:((M.push (jb T [] [])).push (jb T [] [])).heap M.next=some (jb T [] []):=by simp[RM.push]
 have a5:((M.push (jb T [] [])).push (jb T [] [])).heap (M.push (jb T [] [])).next=some (jb T [] []):=by simp[RM.push]
 have e5:(M.push (jb T [] [])).next=M.next + 1:=rfl
 have n0:((M.push (jb T [] [])).push (jb T [] [])).next=M.next + 2:=rfl
 rw[e5] at a5 ⊢
 generalize (M.push (jb T [] [])).push (jb T [] [])=M0 at *
 have hv0:=hv.keep k0 (by simp)
 have err:∀ (e:Nat) (M1:RM),ae [M.next + 1] M0 M1→fB b=.error e→(e=14∨e=15∨e=2) →
   fq [(St []),(St []),(.sc (.slice none 0 0)),(.sc (.slice none 0 0))] [] fun t18=>aH M1 (.ptr M.next 0) t18 4 fun M_2=>bi M_2 (.ptr M.next 0) 4 fun res=>Q (.tup [res,(N .i64 0),N .i64 (e:Int)]) M_2:=by
  intro e M1 k1 he1 he
  rw[gK]
  refine⟨_,rfl, ?_⟩
  have n1:=k1.aN a2 (by omega) (by simp)
  rw[iZ n1 (by rfl) (by rfl) (by rfl),bH (aM _) (by rfl)]
  exact hE e _ he1 he ((qF k0 k1 (by omega)).new _ (Nat.le_refl _))
 refine hH (M.next + 1) (k0.base.trans hB) hv0 hl (by omega) (fun hx=>by have:=hv.lt _ hx; omega) a5 (fun e M1 h1 he k1=>?_) (fun s l at' hv' M1 h1 hat hs hll k1 X1 o1=>?_)
 ·simp only[bg,bf,dJ,gM]
  rw[show(((e:Nat) : Int) != 0)=true by rcases he with rfl | rfl | rfl <;> rfl,bP]
  exact err e M1 k1 (by unfold fB; rw[h1]) (by omega)
 obtain⟨hlen,hp⟩:=Dl h1
 simp only[bg,bf,dJ,zP,aY,gL]
 obtain⟨⟨m,p⟩,hmp⟩ : ∃ q,ji s=some q:=by unfold oM at hp; exact Option.isSome_iff_exists.1 hp
 have X1' : M1.heap (M.next + 1)=some (jb T m p):=by rw[X1]; unfold FV; rw[hmp]
 have hone:oneCell hv'=true:=Own.one o1
 have hcell:hv'.cells=[hv']:=Own.cells o1
 simp only[Nat.zero_add]
 rw[fO [St m,St p,hv',aF] X1' (by simp) hcell hone rfl]
 have k2:ae [M.next + 1] M0 (M1.put (M.next + 1) (.row [St m,St p,hv',aF] false T 0)):=k1.put _ (.inr (by simp))
 have X2:(M1.put (M.next + 1) (.row [St m,St p,hv',aF] false T 0)).heap (M.next + 1)=some (.row [St m,St p,hv',aF] false T 0):=aM _
 have o2:Ow HD (M1.put (M.next + 1) (.row [St m,St p,hv',aF] false T 0)) M0.next TH hv' l:=Own.keep o1 ((ae.refl [M.next + 1] M1).put _ (.inr (by simp))) (fun x hx hm=>by
  have:=(Own.blk o1 x hx).1
  simp at hm; omega)
 generalize M1.put (M.next + 1) (.row [St m,St p,hv',aF] false T 0)=M2 at *
 have k02:=qF k0 k2 (by omega)
 refine hb (k02.base.trans hB) (hv.keep k02 (by simp)) hat hl (Own.j3 o2) (by omega) (fun h hx=>by have:=hlen h hx; omega) (fun out r at2 ov M3 e3 ha2 ha3 hr ho k3 o3=>?_) (fun e M3 e3 he k3=>?_)
 ·simp only[bg,bf,dJ,zP,aY,gL,Nat.zero_add]
  have X3:=k3.aN X2 (Nat.lt_of_lt_of_le (by omega) k2.next) (by simp)
  rw[fO [St m,St p,hv',ov] X3 (by simp) (Own.cells o3) (Own.one o3) rfl]
  have n3:=(k2.trans (k3.mono (by simp))).aN a2 (by omega) (by simp)
  rw[bH (aM _) (by rfl),iZ (sJ n3 (by omega)) (by rfl) (by rfl) (by have:=Own.one o3; simp only[List.all_cons,List.all_nil,hone,this]; rfl),bH (aM _) (by rfl)]
  have k4:ae [] M (((M3.put (M.next + 1) (.row [St m,St p,hv',ov] false T 0))).put M.next (.row [St m,St p,hv',ov] false T 0)):=((k02.trans k3).new _ (by omega)).new _ (Nat.le_refl _)
  have k34:ae [M.next,M.next + 1] M3 (((M3.put (M.next + 1) (.row [St m,St p,hv',ov] false T 0))).put M.next (.row [St m,St p,hv',ov] false T 0)):=((ae.refl _ _).put _ (.inr (by simp))).put _ (.inr (by simp))
  refine hQ m p l out r at2 hv' ov _ (by unfold fB; rw[h1]; dsimp only; rw[e3,hmp]) ha2 hr ho hll hlen k4 ?_ ?_
  ·have o2' : Ow HD M3 M0.next TH hv' l:=Own.keep o2 k3 (by simp)
   refine Own.mono (Own.keep o2' k34 (fun x hx hm=>?_)) k0.next
   have:=(Own.blk o2' x hx).1
   simp at hm; omega
  ·refine Own.mono (Own.keep o3 k34 (fun x hx hm=>?_)) k02.next
   have:=(Own.blk o3 x hx).1
   have:=k2.next
   simp at hm; omega
 ·simp only[bg,bf,dJ,gL,Nat.zero_add]
  have X3:=k3.aN X2 (Nat.lt_of_lt_of_le (by omega) k2.next) (by simp)
  rw[fO [St m,St p,hv',aF] X3 (by simp) rfl rfl rfl,gM,show(((e:Nat) : Int) != 0)=true by rcases he with rfl | rfl | rfl <;> rfl,bP]
  exact err e _ ((k2.trans (k3.mono (by simp))).put _ (.inr (by simp))) (by unfold fB; rw[h1]; dsimp only; rw[e3]) (by omega)
def lu (b:Str) : Except Nat ((Nat × List Hd × Str) × Str):=match headD oQ b with
 | .error e=>.error e
 | .ok (s,l,at')=>match mh (b.drop at') l with
   | .error e=>.error e
   | .ok (out,r)=>.ok ((codeOf s,l,out),r)
def DJ (B:Base) (TH T8:Nat) (c:ai) : Prop:=∀ {M:RM} {v:AV} {b:Str} {Q:ah},M.base=B→Bs M v b→b.length≤1000000000 →
 (∀ n l out r at2 hv ov M',lu b=.ok ((n,l,out),r)→at2≤b.length→b.drop at2=r→out.length≤16384→l.length≤32→(∀ h∈l,h.1.length≤2048∧h.2.length≤2048)→ae [] M M'→Ow HD M' M.next TH hv l→Ow BY M' M.next T8 ov out →
  Q (.tup [.agg [N .i64 (n:Int),hv,ov],N .i64 (at2:Int),N .i64 0]) M') →
 (∀ (e:Nat) M',lu b=.error e→(e=14∨e=15∨e=2)→ae [] M M'→Q (.tup [.agg [N .i64 0,aF,aF],N .i64 0,N .i64 (e:Int)]) M')→c [v] M Q
theorem DT {B:Base} {T TH T8 g:Nat} {ch cb:ai} (hH:∀ br,Eb B (.fn (.func g) [] [.ptr br 0]) oQ br (gD T 0) (Ep T) TH ch) (hb:El B T8 cb) : DJ B TH T8 fun args M Q=>∃ a0,args=[a0]∧gX T g ch cb a0 M Q:=by
 intro M v b Q hB hv hl hQ hE
 refine⟨_,rfl, ?_⟩
 unfold gX
 simp only[aR]
 have k0:ae [] M ((M.push (gD T 0)).push (gD T 0)):=((ae.refl _ _).push _).push _
 have a2:((M.push (gD T 0)).push (gD T 0)).heap M.next=some (gD T 0):=by simp[RM.push]
 have a5:((M.push (gD T 0)).push (gD T 0)).heap (M.push (gD T 0)).next=some (gD T 0):=by simp[RM.push]
 have e5:(M.push (gD T 0)).next=M.next + 1:=rfl
 have n0:((M.push (gD T 0)).push (gD T 0)).next=M.next + 2:=rfl
 rw[e5] at a5 ⊢
 generalize (M.push (gD T 0)).push (gD T 0)=M0 at *
 have hv0:=hv.keep k0 (by simp)
 have err:∀ (e:Nat) (M1:RM),ae [M.next + 1] M0 M1→lu b=.error e→(e=14∨e=15∨e=2) →
   fq [(N .i64 0),(.sc (.slice none 0 0)),(.sc (.slice none 0 0))] [] fun t18=>aH M1 (.ptr M.next 0) t18 3 fun M_2=>bi M_2 (.ptr M.next 0) 3 fun res=>Q (.tup [res,(N .i64 0),N .i64 (e:Int)]) M_2:=by
  intro e M1 k1 he1 he
  rw[gK]
  refine⟨_,rfl, ?_⟩
  have n1:=k1.aN a2 (by omega) (by simp)
  rw[iZ n1 (by rfl) (by rfl) (by rfl),bH (aM _) (by rfl)]
  exact hE e _ he1 he ((qF k0 k1 (by omega)).new _ (Nat.le_refl _))
 refine hH (M.next + 1) (k0.base.trans hB) hv0 hl (by omega) (fun hx=>by have:=hv.lt _ hx; omega) a5 (fun e M1 h1 he k1=>?_) (fun s l at' hv' M1 h1 hat hs hll k1 X1 o1=>?_)
 ·simp only[bg,bf,dJ,gM]
  rw[show(((e:Nat) : Int) != 0)=true by rcases he with rfl | rfl | rfl <;> rfl,bP]
  exact err e M1 k1 (by unfold lu; rw[h1]) (by omega)
 obtain⟨hlen,hp⟩:=Dl h1
 simp only[bg,bf,dJ,zP,aY,gL]
 have X1' : M1.heap (M.next + 1)=some (gD T (codeOf s)):=X1
 have hone:oneCell hv'=true:=Own.one o1
 have hcell:hv'.cells=[hv']:=Own.cells o1
 simp only[Nat.zero_add]
 rw[fO [N .i64 (codeOf s:Int),hv',aF] X1' (by simp) hcell hone rfl]
 have k2:ae [M.next + 1] M0 (M1.put (M.next + 1) (.row [N .i64 (codeOf s:Int),hv',aF] false T 0)):=k1.put _ (.inr (by simp))
 have X2:(M1.put (M.next + 1) (.row [N .i64 (codeOf s:Int),hv',aF] false T 0)).heap (M.next + 1)=some (.row [N .i64 (codeOf s:Int),hv',aF] false T 0):=aM _
 have o2:Ow HD (M1.put (M.next + 1) (.row [N .i64 (codeOf s:Int),hv',aF] false T 0)) M0.next TH hv' l:=Own.keep o1 ((ae.refl [M.next + 1] M1).put _ (.inr (by simp))) (fun x hx hm=>by
  have:=(Own.blk o1 x hx).1
  simp at hm; omega)
 generalize M1.put (M.next + 1) (.row [N .i64 (codeOf s:Int),hv',aF] false T 0)=M2 at *
 have k02:=qF k0 k2 (by omega)
 refine hb (k02.base.trans hB) (hv.keep k02 (by simp)) hat hl (Own.j3 o2) (by omega) (fun h hx=>by have:=hlen h hx; omega) (fun out r at2 ov M3 e3 ha2 ha3 hr ho k3 o3=>?_) (fun e M3 e3 he k3=>?_)
 ·simp only[bg,bf,dJ,zP,aY,gL,Nat.zero_add]
  have X3:=k3.aN X2 (Nat.lt_of_lt_of_le (by omega) k2.next) (by simp)
  rw[fO [N .i64 (codeOf s:Int),hv',ov] X3 (by simp) (Own.cells o3) (Own.one o3) rfl]
  have n3:=(k2.trans (k3.mono (by simp))).aN a2 (by omega) (by simp)
  rw[bH (aM _) (by rfl),iZ (sJ n3 (by omega)) (by rfl) (by rfl) (by have:=Own.one o3; simp only[List.all_cons,List.all_nil,hone,this]; rfl),bH (aM _) (by rfl)]
  have k4:ae [] M (((M3.put (M.next + 1) (.row [N .i64 (codeOf s:Int),hv',ov] false T 0))).put M.next (.row [N .i64 (codeOf s:Int),hv',ov] false T 0)):=((k02.trans k3).new _ (by omega)).new _ (Nat.le_refl _)
  have k34:ae [M.next,M.next + 1] M3 (((M3.put (M.next + 1) (.row [N .i64 (codeOf s:Int),hv',ov] false T 0))).put M.next (.row [N .i64 (codeOf s:Int),hv',ov] false T 0)):=((ae.refl _ _).put _ (.inr (by simp))).put _ (.inr (by simp))
  refine hQ (codeOf s) l out r at2 hv' ov _ (by unfold lu; rw[h1]; dsimp only; rw[e3]) ha2 hr ho hll hlen k4 ?_ ?_
  ·have o2' : Ow HD M3 M0.next TH hv' l:=Own.keep o2 k3 (by simp)
   refine Own.mono (Own.keep o2' k34 (fun x hx hm=>?_)) k0.next
   have:=(Own.blk o2' x hx).1
   simp at hm; omega
  ·refine Own.mono (Own.keep o3 k34 (fun x hx hm=>?_)) k02.next
   have:=(Own.blk o3 x hx).1
   have:=k2.next
   simp at hm; omega
 ·simp only[bg,bf,dJ,gL,Nat.zero_add]
  have X3:=k3.aN X2 (Nat.lt_of_lt_of_le (by omega) k2.next) (by simp)
  rw[fO [N .i64 (codeOf s:Int),hv',aF] X3 (by simp) rfl rfl rfl,gM,show(((e:Nat) : Int) != 0)=true by rcases he with rfl | rfl | rfl <;> rfl,bP]
  exact err e _ ((k2.trans (k3.mono (by simp))).put _ (.inr (by simp))) (by unfold lu; rw[h1]; dsimp only; rw[e3]) (by omega)
end Go.Ab.Hw
namespace Go.Ab.Hw
open Go Go.Ab Go.Ab.Sm
def wB (h:Hd) : Bool:=!(!kg h.1 || !iy h.2 || low h.1 == BH || low h.1 == yR)
def xU (h:Hd) : Str:=h.1++[58,32]++h.2++[13,10]
def uk (first:Str) (l:List Hd) : Str:=first++[13,10]++l.flatMap xU
def qf (first:Str) (l:List Hd) (more:Hd) : Str:=uk first l++(xU more++[13,10])
def CS (l:List Hd) (s:Str) (sz:Nat) : Bool:=decide (((l.length + 1:Nat) : Int) > 32) || decide ((s.length:Int) > 2048) || decide ((sz:Int) > 16384)
def gQ (first:Str) (l:List Hd) (more:Hd) (sz:Nat) (body:Str) : Except Nat Str:=match l.all wB with
 | false=>.error 1
 | true=>match CS l (qf first l more) sz with
   | true=>.error 2
   | false=>.ok (qf first l more++body)
theorem EA:∀ (l:List Hd) (k:Nat),(∀ h∈l,h.1.length≤k∧h.2.length≤k)→(l.flatMap xU).length≤l.length * (2 * k + 4)
 | [],k,_=>by simp
 | h :: l,k,hk=>by
   have:=EA l k fun x hx=>hk x (.tail _ hx)
   have h0:=hk h (.head _)
   rw[List.flatMap_cons,List.length_append,List.length_cons,Nat.succ_mul]
   have:(xU h).length=h.1.length + h.2.length + 4:=by unfold xU; simp; omega
   omega
def rf (B:Base) (T:Nat) (c:ai) : Prop:=∀ {M:RM} {v bv:AV} {first body:Str} {l:List Hd} {more:Hd} {sz:Nat} {Q:ah},M.base=B→Sl HD M v l→l.length≤1000→(∀ h∈l,h.1.length≤281474976710656∧h.2.length≤281474976710656) →
 first.length≤1000000→more.1.length≤1000000→more.2.length≤1000000→Sl BY M bv body→body.length≤1000000000 →
 (∀ s v' M',gQ first l more sz body=.ok s→s.length≤2048 + body.length→ae [] M M'→Ow BY M' M.next T v' s→Q (.tup [v',N .i64 0]) M')→(∀ (e:Nat) M',gQ first l more sz body=.error e→(e=1∨e=2)→ae [] M M'→Q (.tup [aF,N .i64 (e:Int)]) M') →
 c [St first,v,.agg [St more.1,St more.2],N .i64 (sz:Int),bv] M Q
theorem Ev {B:Base} {TH T:Nat} {cn cv cs:ai} (hn:lm kg cn) (hg:Br B iy cv) (hs:zZ cs) :
  rf B T fun args M Q=>∃ a0 a1 a2 a3 a4,args=[a0,a1,a2,a3,a4]∧jQ TH cn cv cs T a0 a1 a2 a3 a4 M Q:=by
 intro M v bv first body l more sz Q hB hv hll hle hf hm1 hm2 hbv hbl hQ hE
 refine⟨_,_,_,_,_,rfl, ?_⟩
 unfold jQ
 rw[iL rfl (by simp)]
 simp only[aR]
 have k0:ae [] M (M.push (.row [St more.1,St more.2] false TH 0)):=(ae.refl _ _).push _
 have n0:(M.push (.row [St more.1,St more.2] false TH 0)).heap M.next=some (.row [St more.1,St more.2] false TH 0):=by simp[RM.push]
 have l0:M.next<(M.push (.row [St more.1,St more.2] false TH 0)).next:=by simp[RM.push]
 generalize M.push (.row [St more.1,St more.2] false TH 0)=M0 at *
 rw[bN]
 refine⟨by simp; omega, ?_⟩
 rw[aC.len hv]
 refine dG (fun m ys M3=>∃ i:Nat,m=l.length - i∧ys=[St (uk first (l.take i)),N .i64 (i:Int)]∧i≤l.length∧(l.take i).all wB=true∧ae [] M0 M3) _
  ⟨0,rfl,by simp[uk],Nat.zero_le _,rfl,ae.refl _ _⟩ ?_
 rintro next m ys M3 hnext ⟨i,rfl,rfl,hi,hA,k3⟩
 simp only[bz,cK,uW]
 have k03:=k0.trans k3
 have hv3:Sl HD M3 v l:=aC.keep hv k03 (by simp)
 have hlen:(uk first (l.take i)).length≤1000002 + 1000 * (2 * 281474976710656 + 4):=by
  have:=EA (l.take i) 281474976710656 fun h hh=>hle h (List.mem_of_mem_take hh)
  have h2:(l.take i).length≤1000:=by simp; omega
  have h3:=Nat.mul_le_mul_right (2 * 281474976710656 + 4) h2
  unfold uk
  simp only[List.length_append,List.length_cons,List.length_nil]
  omega
 refine dF (fun h=>?_) fun h=>?_
 ·have hlt:i<l.length:=by simpa using h
  obtain⟨b,off,hb,_,hix,hld⟩:=hv3.at 2 (i:Int) hlt
  have hhl:=hle l[i] (List.getElem_mem hlt)
  rw[hix,ow]
  refine⟨_,hld, ?_⟩
  try simp only[aR]
  have n4:(M3.push (.row [St [],St []] false TH 0)).heap M3.next=some (.row [St [],St []] false TH 0):=by simp[RM.push]
  rw[iZ n4 (by rfl) (by rfl) (by rfl)]
  have k4:ae [] M3 ((M3.push (.row [St [],St []] false TH 0)).put M3.next (.row (HD.cells l[i]) false TH 0)):=((ae.refl _ _).push _).new _ (Nat.le_refl _)
  have n5:((M3.push (.row [St [],St []] false TH 0)).put M3.next (.row (HD.cells l[i]) false TH 0)).heap M3.next=some (.row (HD.cells l[i]) false TH 0):=aM _
  have l5:M3.next<((M3.push (.row [St [],St []] false TH 0)).put M3.next (.row (HD.cells l[i]) false TH 0)).next:=by simp[RM.push,RM.put]
  generalize (M3.push (.row [St [],St []] false TH 0)).put M3.next (.row (HD.cells l[i]) false TH 0)=M4 at *
  have ld0:∀ {M' : RM} (k:ae [] M4 M') {K' : AV→Prop},aj M' (.ptr M3.next 0) K'=K' (St l[i].1):=fun k=>aL (k.aN n5 l5 (by simp)) rfl
  have ld1:∀ {M' : RM} (k:ae [] M4 M') {K' : AV→Prop},aj M' (.ptr M3.next 1) K'=K' (St l[i].2):=fun k=>aL (k.aN n5 l5 (by simp)) rfl
  simp only[jk,di]
  rw[ld0 (ae.refl _ _)]
  have kM4:ae [] M M4:=k03.trans k4
  refine hn (by omega) fun M5 k5=>?_
  simp only[dh]
  refine zR (P:=ae [] M4) (p:=!iy l[i].2) k5 (fun _ k hk=>?_) fun M6 k6=>?_
  ·rw[ld1 k5]
   refine hg ((kM4.trans k5).base.trans hB) (by omega) fun M6 k6=>?_
   simp only[dh]
   exact hk M6 (k5.trans k6)
  refine zR (P:=ae [] M4) (p:=low l[i].1 == BH) k6 (fun _ k hk=>?_) fun M7 k7=>?_
  ·rw[ld0 k6]
   refine hs (by omega) fun M7 k7=>?_
   simp only[dU]
   exact hk M7 (k6.trans k7)
  refine zR (P:=ae [] M4) (p:=low l[i].1 == yR) k7 (fun _ k hk=>?_) fun M8 k8=>?_
  ·rw[ld0 k7]
   refine hs (by omega) fun M8 k8=>?_
   simp only[dU]
   exact hk M8 (k7.trans k8)
  have hok:wB l[i]=!(!kg l[i].1 || !iy l[i].2 || low l[i].1 == BH || low l[i].1 == yR):=rfl
  have htk:(l.take (i + 1)).all wB=wB l[i]:=by
   rw[List.take_succ_eq_append_getElem hlt,List.all_append,hA]; simp
  refine dF (fun h=>?_) fun h=>?_
  ·have hbad:wB l[i]=false:=by rw[hok,h]; rfl
   refine hE 1 M8 ?_ (.inl rfl) (kM4.trans k8)
   have:l.all wB=false:=by
    rw[← List.take_append_drop (i + 1) l,List.all_append,htk,hbad]; rfl
   unfold gQ; rw[this]
  ·have hgd:wB l[i]=true:=by rw[hok,h]; rfl
   rw[ld0 k8,bN]
   refine⟨by simp; omega, ?_⟩
   rw[ld1 k8,bN]
   refine⟨by simp; omega, ?_⟩
   rw[bN]
   refine⟨by simp; omega, ?_⟩
   rw[bN]
   refine⟨by simp; omega, ?_⟩
   rw[add1 (by omega)]
   refine hnext _ _ _ (by omega) ⟨i + 1,rfl, ?_,by omega,by rw[htk,hgd],k3.trans (k4.trans k8)⟩
   congr 2
   unfold uk
   rw[List.take_succ_eq_append_getElem hlt,List.flatMap_append]
   simp[xU]
 ·have:i=l.length:=by simp at h; omega
  subst this
  rw[List.take_length] at hA hlen
  have n3:=k3.aN n0 l0 (by simp)
  simp only[List.take_length,jk,di]
  rw[aL n3 rfl,bN]
  refine⟨by simp; omega, ?_⟩
  rw[aL n3 (by rfl:([St more.1,St more.2] : List AV)[1]?=some (St more.2)),bN]
  refine⟨by simp; omega, ?_⟩
  rw[bN]
  refine⟨by simp; omega, ?_⟩
  rw[bN]
  refine⟨by simp; omega, ?_⟩
  rw[bN]
  refine⟨by simp; omega, ?_⟩
  have hs:uk first l++(more.1++[58,32]++more.2++[13,10]++[13,10])=qf first l more:=rfl
  rw[hs,aC.len hv,add1 (by omega),show(N .i64 32)=N .i64 ((32:Nat) : Int) from rfl,dS]
  refine Cy (p:=decide (((qf first l more).length:Int) > 2048)) (fun _ k hk=>by simpa only[go_sem] using hk) ?_
  refine Cy (p:=decide ((sz:Int) > 16384)) (fun _ k hk=>by simpa only[go_sem] using hk) ?_
  have ht:(decide (((l.length + 1:Nat) : Int) > ((32:Nat) : Int)) || decide (((qf first l more).length:Int) > 2048) || decide ((sz:Int) > 16384))=CS l (qf first l more) sz:=rfl
  rw[ht]
  refine dF (fun h=>?_) fun h=>?_
  ·exact hE 2 M3 (by unfold gQ; rw[hA]; simp only[h]) (.inr rfl) k03
  ·rw[iq]
   simp only[aR]
   have k4:ae [] M3 (M3.push (.row (BY.row (qf first l more)) true T 0)):=(ae.refl _ _).push _
   have hal:(qf first l more).length≤2048:=by
    have h':=h
    unfold CS at h'
    simp only[Bool.or_eq_false_iff,decide_eq_false_iff_not] at h'
    omega
   have o4:Ow BY (M3.push (.row (BY.row (qf first l more)) true T 0)) M3.next T (.slc M3.next 0 (qf first l more).length (.op 1)) (qf first l more) :=
    Own.op _ _ _ (Nat.le_refl _) (by simp[RM.push]) (RM.lG _) (by rw[Enc.fA])
   refine lU (E:=BY) o4 k4.next (by decide) (aC.keep (aC.keep hbv k03 (by simp)) k4 (by simp)) (by omega) (by omega) fun v7 M7 o7 k7 _ _=>?_
   refine hQ _ v7 M7 (by unfold gQ; rw[hA]; simp only[h]) (by simp; omega) ?_ (Own.mono o7 k03.next)
   refine ae.own (k03.trans k4) k7 (fun x hx=>?_)
   have:=k03.next
   simp[aP] at hx; omega
def mJ (base:Nat) : Nat→Nat→Str
 | 0,_=>[]
 | f + 1,n=>match Nat.blt n base with
   | true=>[if n<10 then UInt8.ofNat (48 + n) else UInt8.ofNat (87 + n)]
   | false=>mJ base f (n / base)++[if n % base<10 then UInt8.ofNat (48 + n % base) else UInt8.ofNat (87 + n % base)]
def gV (n:Nat) : Str:=mJ 10 20 n
def fM (n:Nat) : Str:=mJ 16 20 n
def IW (B:Base) (c:ai) : Prop:=∀ {M:RM} {n:Nat} {Q:ah},M.base=B→n<1000000000000→(∀ M',ae [] M M'→Q (St (gV n)) M')→c [N .i64 (n:Int)] M Q
def Ci (B:Base) (c:ai) : Prop:=∀ {M:RM} {n:Nat} {Q:ah},M.base=B→n<4294967296→(∀ M',ae [] M M'→Q (St (fM n)) M')→c [N .i64 (n:Int),N .i64 16] M Q
theorem qO:∀ (base f n:Nat),(mJ base f n).length≤f
 | _,0,_=>by simp[mJ]
 | base,f + 1,n=>by
   rw[mJ]
   split
   ·simp
   ·have:=qO base f (n / base); simp; omega
abbrev nK:Str:=[67,111,110,116,101,110,116,45,76,101,110,103,116,104]
abbrev IR:Str:=[84,114,97,110,115,102,101,114,45,69,110,99,111,100,105,110,103]
def uY (B:Base) (c:ai) : Prop:=∀ {M:RM} {n:Nat} {Q:ah},M.base=B→n<1000000000000→(∀ M',ae [] M M'→Q (.agg [St nK,St (gV n)]) M')→c [N .i64 (n:Int)] M Q
theorem FW {B:Base} {T:Nat} {ci:ai} (hi:IW B ci) : uY B fun args M Q=>∃ a0,args=[a0]∧jX T ci a0 M Q:=by
 intro M n Q hB hn hQ
 refine⟨_,rfl, ?_⟩
 unfold jX
 simp only[aR]
 have k0:ae [] M (M.push (.row [St [],St []] false T 0)):=(ae.refl _ _).push _
 have n0:(M.push (.row [St [],St []] false T 0)).heap M.next=some (.row [St [],St []] false T 0):=by simp[RM.push]
 have l0:M.next<(M.push (.row [St [],St []] false T 0)).next:=by simp[RM.push]
 generalize M.push (.row [St [],St []] false T 0)=M0 at *
 refine hi (k0.base.trans hB) hn fun M1 k1=>?_
 rw[gK]
 refine⟨_,wG rfl rfl rfl rfl, ?_⟩
 rw[iZ (k1.aN n0 l0 (by simp)) (by rfl) (by rfl) (by rfl),bH (aM _) (by rfl)]
 exact hQ _ ((k0.trans k1).new _ (Nat.le_refl _))
def uX (m p:Str) : Bool:=iD m && jl p
def uC (c:ai) : Prop:=∀ {M:RM} {m p:Str} {x y:AV} {Q:ah},oneCell x=true→oneCell y=true→m.length<4611686018427387904→p.length<4611686018427387904→(∀ M',ae [] M M'→Q (Bo (uX m p)) M')→c [.agg [St m,St p,x,y]] M Q
theorem EY {T:Nat} {cm cp:ai} (hm:lm iD cm) (hp:lm jl cp) : uC fun args M Q=>∃ a0,args=[a0]∧iH T cm cp a0 M Q:=by
 intro M m p x y Q hx hy h1 h2 hQ
 refine⟨_,rfl, ?_⟩
 unfold iH
 rw[iL (by simp only[List.all_cons,List.all_nil,hx,hy]; rfl) (by simp)]
 simp only[aR,di]
 have k0:ae [] M (M.push (.row [St m,St p,x,y] false T 0)):=(ae.refl _ _).push _
 have n0:(M.push (.row [St m,St p,x,y] false T 0)).heap M.next=some (.row [St m,St p,x,y] false T 0):=by simp[RM.push]
 have l0:M.next<(M.push (.row [St m,St p,x,y] false T 0)).next:=by simp[RM.push]
 generalize M.push (.row [St m,St p,x,y] false T 0)=M0 at *
 rw[jk,aL n0 rfl]
 refine hm h1 fun M1 k1=>?_
 refine AX (P:=ae [] M) (p:=jl p) (k0.trans k1) (fun _ k hk=>?_) hQ
 rw[jk,aL (k1.aN n0 l0 (by simp)) rfl]
 exact hp h2 fun M2 k2=>hk M2 (k0.trans (k1.trans k2))
def D8 (m p:Str) : Str:=m++[32]++p++[32]++Oe
def nQ (m p:Str) (l:List Hd) (body:Str) : Except Nat Str:=match uX m p with
 | false=>.error 1
 | true=>gQ (D8 m p) l (nK,gV body.length) body.length body
theorem Et {m p:Str} (h:uX m p=true) : m.length≤8∧p.length≤201:=by
 unfold uX iD jl ig at h
 simp only[Bool.and_eq_true,decide_eq_true_eq] at h
 omega
def C8 (B:Base) (T:Nat) (c:ai) : Prop:=∀ {M:RM} {hv bv:AV} {m p body:Str} {l:List Hd} {Q:ah},M.base=B→Sl HD M hv l→l.length≤1000→(∀ h∈l,h.1.length≤281474976710656∧h.2.length≤281474976710656) →
 m.length≤281474976710656→p.length≤281474976710656→Sl BY M bv body→body.length≤1000000000 →
 (∀ s v' M',nQ m p l body=.ok s→s.length≤2048 + body.length→ae [] M M'→Ow BY M' M.next T v' s→Q (.tup [v',N .i64 0]) M')→(∀ (e:Nat) M',nQ m p l body=.error e→(e=1∨e=2)→ae [] M M'→Q (.tup [aF,N .i64 (e:Int)]) M') →
 c [.agg [St m,St p,hv,bv]] M Q
theorem DY {B:Base} {T T8:Nat} {cg cc cp:ai} (hg:uC cg) (hc:uY B cc) (hp:rf B T8 cp) : C8 B T8 fun args M Q=>∃ a0,args=[a0]∧ic T cg cc cp a0 M Q:=by
 intro M hv bv m p body l Q hB hh hll hle hm hpl hb hbl hQ hE
 refine⟨_,rfl, ?_⟩
 unfold ic
 have ohv:=aC.one hh
 have obv:=aC.one hb
 rw[iL (by simp only[List.all_cons,List.all_nil,ohv,obv]; rfl) (by simp)]
 simp only[aR]
 have k0:ae [] M (M.push (.row [St m,St p,hv,bv] false T 0)):=(ae.refl _ _).push _
 have n0:(M.push (.row [St m,St p,hv,bv] false T 0)).heap M.next=some (.row [St m,St p,hv,bv] false T 0):=by simp[RM.push]
 have l0:M.next<(M.push (.row [St m,St p,hv,bv] false T 0)).next:=by simp[RM.push]
 generalize M.push (.row [St m,St p,hv,bv] false T 0)=M0 at *
 rw[bH n0 (by rfl)]
 refine hg ohv obv (by omega) (by omega) fun M1 k1=>?_
 have n1:=k1.aN n0 l0 (by simp)
 have l1:=Nat.lt_of_lt_of_le l0 k1.next
 have k01:=k0.trans k1
 simp only[dh]
 refine dF (fun h=>?_) fun h=>?_
 ·have hk:uX m p=false:=by simpa using h
  exact hE 1 M1 (by unfold nQ; rw[hk]) (.inl rfl) k01
 have hk:uX m p=true:=by simpa using h
 obtain⟨q1,q2⟩:=Et hk
 have e:nQ m p l body=gQ (D8 m p) l (nK,gV body.length) body.length body:=by unfold nQ; rw[hk]
 rw[e] at hQ hE
 have ld0:∀ {M' : RM} (k:ae [] M1 M') {K' : AV→Prop},aj M' (.ptr M.next 0) K'=K' (St m):=fun k=>aL (k.aN n1 l1 (by simp)) rfl
 have ld1:∀ {M' : RM} (k:ae [] M1 M') {K' : AV→Prop},aj M' (.ptr M.next 1) K'=K' (St p):=fun k=>aL (k.aN n1 l1 (by simp)) rfl
 have ld2:∀ {M' : RM} (k:ae [] M1 M') {K' : AV→Prop},aj M' (.ptr M.next 2) K'=K' hv:=fun k=>aL (k.aN n1 l1 (by simp)) rfl
 have ld3:∀ {M' : RM} (k:ae [] M1 M') {K' : AV→Prop},aj M' (.ptr M.next 3) K'=K' bv:=fun k=>aL (k.aN n1 l1 (by simp)) rfl
 simp only[jk,ld0 (ae.refl _ M1),ld1 (ae.refl _ M1),ld2 (ae.refl _ M1),ld3 (ae.refl _ M1)]
 rw[bN]
 refine⟨by simp; omega, ?_⟩
 rw[bN]
 refine⟨by simp; omega, ?_⟩
 rw[bN]
 refine⟨by simp; omega, ?_⟩
 rw[bN]
 refine⟨by simp; omega, ?_⟩
 rw[aC.len hb,aC.len hb]
 refine hc (n:=body.length) (k01.base.trans hB) (by omega) fun M2 k2=>?_
 have k02:=k01.trans k2
 rw[ld0 k2]; refine⟨rfl, ?_⟩
 rw[ld1 k2]; refine⟨rfl, ?_⟩
 rw[ld2 k2]; refine⟨rfl, ?_⟩
 rw[ld3 k2]; refine⟨rfl, ?_⟩
 rw[ld3 k2]; refine⟨rfl, ?_⟩
 have hil:(gV body.length).length≤20:=qO _ _ _
 refine hp (more:=(nK,gV body.length)) (k02.base.trans hB) (aC.keep hh k02 (by simp)) hll hle (by simp; omega) (by simp) (by simpa using (by omega:(gV body.length).length≤1000000)) (aC.keep hb k02 (by simp)) hbl (fun s v' M3 e3 hl3 k3 o3=>?_) (fun e' M3 e3 he k3=>?_)
 ·simp only[bg,bf]
  exact hQ s v' M3 e3 hl3 (k02.trans k3) (Own.mono o3 k02.next)
 ·simp only[bg,bf]
  exact hE e' M3 e3 he (k02.trans k3)
def Cw (n:Int) : Bool:=decide (n<100) || decide (n > 599)
def wD (n:Int) : Str:=if (n.tdiv 100 == 2)=true then[79,75] else[78,111]
def Ej (n:Int) : Str:=Eu++gV n.toNat++[32]++wD n
def j4 (n:Int) (l:List Hd) (body:Str) : Except Nat Str:=match Cw n with
 | true=>.error 1
 | false=>gQ (Ej n) l (nK,gV body.length) body.length body
def AL (B:Base) (T:Nat) (c:ai) : Prop:=∀ {M:RM} {hv bv:AV} {n:Int} {body:Str} {l:List Hd} {Q:ah},M.base=B→Sl HD M hv l→l.length≤1000→(∀ h∈l,h.1.length≤281474976710656∧h.2.length≤281474976710656) →
 Sl BY M bv body→body.length≤1000000000 →
 (∀ s v' M',j4 n l body=.ok s→s.length≤2048 + body.length→ae [] M M'→Ow BY M' M.next T v' s→Q (.tup [v',N .i64 0]) M')→(∀ (e:Nat) M',j4 n l body=.error e→(e=1∨e=2)→ae [] M M'→Q (.tup [aF,N .i64 (e:Int)]) M') →
 c [.agg [N .i64 n,hv,bv]] M Q
theorem Cx {B:Base} {T T8:Nat} {ci cc cp:ai} (hi:IW B ci) (hc:uY B cc) (hp:rf B T8 cp) : AL B T8 fun args M Q=>∃ a0,args=[a0]∧gU T ci cc cp a0 M Q:=by
 intro M hv bv n body l Q hB hh hll hle hb hbl hQ hE
 refine⟨_,rfl, ?_⟩
 unfold gU
 have ohv:=aC.one hh
 have obv:=aC.one hb
 rw[iL (by simp only[List.all_cons,List.all_nil,ohv,obv]; rfl) (by simp)]
 simp only[aR]
 have k0:ae [] M (M.push (.row [N .i64 n,hv,bv] false T 0)):=(ae.refl _ _).push _
 have n0:(M.push (.row [N .i64 n,hv,bv] false T 0)).heap M.next=some (.row [N .i64 n,hv,bv] false T 0):=by simp[RM.push]
 have l0:M.next<(M.push (.row [N .i64 n,hv,bv] false T 0)).next:=by simp[RM.push]
 generalize M.push (.row [N .i64 n,hv,bv] false T 0)=M1 at *
 have ld0:∀ {M' : RM} (k:ae [] M1 M') {K' : AV→Prop},aj M' (.ptr M.next 0) K'=K' (N .i64 n):=fun k=>aL (k.aN n0 l0 (by simp)) rfl
 have ld1:∀ {M' : RM} (k:ae [] M1 M') {K' : AV→Prop},aj M' (.ptr M.next 1) K'=K' hv:=fun k=>aL (k.aN n0 l0 (by simp)) rfl
 have ld2:∀ {M' : RM} (k:ae [] M1 M') {K' : AV→Prop},aj M' (.ptr M.next 2) K'=K' bv:=fun k=>aL (k.aN n0 l0 (by simp)) rfl
 simp only[jk,di,ld0 (ae.refl _ M1),ld1 (ae.refl _ M1),ld2 (ae.refl _ M1),iG]
 refine Cy (p:=decide (n > 599)) (fun _ k hk=>?_) ?_
 ·simpa only[dS,ld0 (ae.refl _ M1)] using hk
 have hbc:(decide (n<100) || decide (n > 599))=Cw n:=rfl
 rw[hbc]
 refine dF (fun h=>?_) fun h=>?_
 ·exact hE 1 M1 (by unfold j4; rw[h]) (.inl rfl) k0
 have h':=h
 unfold Cw at h'
 simp only[Bool.or_eq_false_iff,decide_eq_false_iff_not] at h'
 have e:j4 n l body=gQ (Ej n) l (nK,gV body.length) body.length body:=by unfold j4; rw[h]
 rw[e] at hQ hE
 rw[nM,ld0 (ae.refl _ M1),LJ]
 refine⟨by decide, ?_⟩
 have hdv:1≤n.tdiv 100∧n.tdiv 100≤5:=by
  rw[Int.tdiv_eq_ediv_of_nonneg (by omega)]; omega
 rw[gH (by omega) (by omega),bq]
 have tail:∀ w:Str,w=wD n→((aj M1 (.ptr M.next 0) fun t18=>aj M1 (.ptr M.next 1) fun t25=>aj M1 (.ptr M.next 2) fun t27=>aU t27 fun t28=>aj M1 (.ptr M.next 2) fun t31=>aU t31 fun t32=>aj M1 (.ptr M.next 2) fun t34=>ci [t18] M1 fun t19 M_9=>aj M_9 (.ptr M.next 1) fun Pb=>(Pb=t25∧aj M_9 (.ptr M.next 2) fun OC=>(OC=t27∧aj M_9 (.ptr M.next 2) fun Pg=>(Pg=t31∧aj M_9 (.ptr M.next 2) fun Pj=>(Pj=t34∧aX .add (St [72,84,84,80,47,49,46,49,32]) t19 fun t20=>aX .add t20 (St [32]) fun t21=>aX .add t21 (St w) fun t23=>cc [t28] M_9 fun t29 Ct=>aj Ct (.ptr M.next 1) fun Om=>(Om=t25∧aj Ct (.ptr M.next 2) fun OV=>(OV=t31∧aj Ct (.ptr M.next 2) fun OL=>(OL=t34∧cp [t23,t25,t29,t32,t34] Ct fun t35 Fg=>aD t35 0 fun t36=>aD t35 1 fun t37=>Q (.tup [t36,t37]) Fg)))))))) : Prop):=by
  intro w hw
  rw[ld0 (ae.refl _ M1),ld1 (ae.refl _ M1),ld2 (ae.refl _ M1),aC.len hb,ld2 (ae.refl _ M1),aC.len hb,ld2 (ae.refl _ M1)]
  obtain⟨m,rfl⟩ : ∃ m:Nat,n=(m:Int):=⟨n.toNat,by omega⟩
  refine hi (k0.base.trans hB) (by omega) fun M2 k2=>?_
  rw[ld1 k2]; refine⟨rfl, ?_⟩
  rw[ld2 k2]; refine⟨rfl, ?_⟩
  rw[ld2 k2]; refine⟨rfl, ?_⟩
  rw[ld2 k2]; refine⟨rfl, ?_⟩
  have hl1:(gV m).length≤20:=qO _ _ _
  have hl2:(gV body.length).length≤20:=qO _ _ _
  have hwl:w.length≤2:=by rw[hw]; unfold wD; split <;> simp
  rw[bN]
  refine⟨by simp; omega, ?_⟩
  rw[bN]
  refine⟨by simp; omega, ?_⟩
  rw[bN]
  refine⟨by simp; omega, ?_⟩
  have k02:=k0.trans k2
  refine hc (n:=body.length) (k02.base.trans hB) (by omega) fun M3 k3=>?_
  have k23:=k2.trans k3
  rw[ld1 k23]; refine⟨rfl, ?_⟩
  rw[ld2 k23]; refine⟨rfl, ?_⟩
  rw[ld2 k23]; refine⟨rfl, ?_⟩
  have k03:=k0.trans k23
  have MP:[72,84,84,80,47,49,46,49,32]++gV m++[32]++w=Ej (m:Int):=by rw[hw]; rfl
  rw[MP]
  have RU:(Ej (m:Int)).length≤1000000:=by rw[← MP]; simp; omega
  refine hp (more:=(nK,gV body.length)) (k03.base.trans hB) (aC.keep hh k03 (by simp)) hll hle RU (by simp) (by simpa using (by omega:(gV body.length).length≤1000000)) (aC.keep hb k03 (by simp)) hbl (fun s v' M4 e4 hl4 k4 o4=>?_) (fun e' M4 e4 he k4=>?_)
  ·simp only[bg,bf]
   exact hQ s v' M4 e4 hl4 (k03.trans k4) (Own.mono o4 k03.next)
  ·simp only[bg,bf]
   exact hE e' M4 e4 he (k03.trans k4)
 refine dF (fun h=>?_) fun h=>?_
 ·exact tail [79,75] (by unfold wD; rw[if_pos h])
 ·exact tail [78,111] (by unfold wD; rw[if_neg (by rw[h]; decide)])
abbrev ZB:List AV:=[N .u8 0]
theorem vF (n:Nat) : (bX ZB n).length=n∧(bX ZB n).all oneCell=true:=by
 induction n with
 | zero=>simp[bX]
 | succ n ih=>rw[bX,List.length_append,List.all_append,ih.1,ih.2]; simp[oneCell]; omega
theorem FI:∀ (a b:Nat),bX ZB (a + b)=bX ZB a++bX ZB b
 | 0,b=>by simp[bX]
 | a + 1,b=>by rw[show a + 1 + b=(a + b) + 1 by omega,bX,bX,FI a b]; simp
theorem jZ (s:Str) : (BY.row s).length=s.length:=by rw[Enc.fA]; simp[BY]
theorem PR {M:RM} {b T k:Nat} {ps ys:Str} {u:AV} {zs:List AV} {K:ah} (hb:M.heap b=some (.row (BY.row ps++bX ZB k) true T 0)) (hu:Sl BY M u ys) (hk:ys.length≤k) (hl:ps.length + ys.length≤1000000000)
  (hK:∀ M',M'.heap b=some (.row (BY.row (ps++ys)++bX ZB (k - ys.length)) true T 0)→ae [b] M M'→M'.next=M.next→K (.slc b 0 (ps++ys).length (.op 1)) M') :
  appW T 1 1 zs false (.slc b 0 ps.length (.op 1)) u M K:=by
 have hn:=aC.mX hu zs
 refine⟨ys.length,BY.row ys,hn,by omega,by omega, ?_⟩
 by_cases h0:ys.length=0
 ·have:ys=[]:=List.length_eq_zero_iff.1 h0
  subst this
  refine⟨.slc b 0 ps.length (.op 1),M,by simp[qc], ?_⟩
  have:=hK M (by simpa using hb) (ae.refl _ _) rfl
  simpa using this
 ·have hfit:0 + (ps.length + ys.length) * 1≤(BY.row ps++bX ZB k).length:=by
   rw[List.length_append,jZ,(vF k).1]; omega
  refine⟨.slc b 0 (ps.length + ys.length) (.op 1),M.put b (.row (BY.row (ps++ys)++bX ZB (k - ys.length)) true T 0), ?_, ?_⟩
  ·simp only[qc,if_neg h0,hb]
   rw[if_pos (by simp),if_pos hfit,RM.wQ hb,qo (by rw[jZ,List.length_append,jZ,(vF k).1]; omega) (by omega) (BY.pW ys)]
   simp only[Option.map_some]
   congr 4
   rw[Enc.mF]
   have e1:(BY.row ps++bX ZB k).take (0 + ps.length * 1)=BY.row ps:=by rw[List.take_left' (by rw[jZ]; omega)]
   have e2:(BY.row ps++bX ZB k).drop (0 + ps.length * 1 + (BY.row ys).length)=bX ZB (k - ys.length):=by
    rw[show bX ZB k=bX ZB ys.length++bX ZB (k - ys.length) by rw[← FI]; congr 1; omega,← List.append_assoc,List.drop_left' (by rw[List.length_append,jZ,(vF _).1,jZ]; omega)]
   rw[e1,e2]
  ·have:=hK _ (aM _) ((ae.refl _ _).put _ (.inr (by simp))) rfl
   rw[List.length_append] at this
   exact this
theorem NP {M:RM} {base T n:Nat} {v:AV} {cs:List AV} (h:Own M base T 1 v cs n) (hn:0<n) : ∃ b,v=.slc b 0 n (.op 1)∧base≤b∧b<M.next∧M.heap b=some (.row cs true T 0):=by
 cases h with
 | nil=>omega
 | ex0 b o _ _ _=>omega
 | op b n cs h1 h2 h3 h4=>exact⟨b,rfl,h1,h2,h3⟩
def FZ (T:Nat) (c:ai) : Prop:=∀ {M:RM} {n:Nat} {Q:ah},n≤1000000000→0<n →
 (∀ b M',M.next≤b→b<M'.next→M'.heap b=some (.row (bX ZB n) true T 0)→ae [] M M'→Q (.slc b 0 0 (.op 1)) M')→c [aF,N .i64 (n:Int)] M Q
theorem HV {TS T:Nat} : FZ T fun args M Q=>∃ a0 a1,args=[a0,a1]∧sM TS T a0 a1 M Q:=by
 intro M n Q hn hz h1
 refine⟨_,_,rfl, ?_⟩
 unfold sM
 rw[nM,iG,show decide ((n:Int)<0)=false by simp,aY]
 dsimp only
 rw[nM]
 have hcap:∀ K:AV→Prop,uL aF K=K (N .i64 0):=fun K=>by
  unfold uL
  exact propext ⟨fun⟨m,h,k⟩=>by cases h; exact k,fun k=>⟨0,rfl,k⟩⟩
 rw[hcap,zS,jV,show IntKind.wrap .i64 ((0:Int) - 0)=0 from by rw[gH] <;> decide,jV,Int.sub_zero,gH (by omega) (by omega),dS]
 dsimp only[ax]
 rw[show decide ((n:Int) > 0)=true by simp; omega,bP,hcap,show dB 1 aF none (some (N .i64 0)) none=some aF by simp[dB,bnd],eF]
 have hr:=vF n
 refine yH (base:=M.next) (m:=n) (ds:=bX ZB n) .nil (Nat.le_refl _) (Nat.le_refl _) (by simp[mX]) (by rw[hr.1,Nat.mul_one]) hr.2 (by omega) (by omega) ?_
 intro v' M' o k _ _
 rw[Nat.zero_add] at o
 obtain⟨b,rfl,q1,q2,q3⟩:=NP o (by omega)
 rw[zS,show dB 1 (.slc b 0 n (.op 1)) none (some (N .i64 0)) none=some (.slc b 0 0 (.op 1)) by simp[dB,bnd]; omega,eF]
 exact h1 b M' q1 q2 (by simpa using q3) (by simpa [aP] using k)
def zV (T:Nat) (c:ai) : Prop:=∀ {M:RM} {bb TB:Nat} {vs:List AV} {xss:List Str} {Q:ah},M.heap bb=some (.row vs false TB 0)→bb<M.next→vs.length=xss.length→vs.length≤1000→(∀ (i:Nat) (v:AV) (x:Str),vs[i]?=some v→xss[i]?=some x→Sl BY M v x) →
 0<xss.flatten.length→xss.flatten.length≤1000000000→(∀ r M',Ow BY M' M.next T r xss.flatten→ae [] M M'→Q r M')→c [.slc bb 0 vs.length (.ex vs.length)] M Q
theorem Ff {TS T:Nat} {cg:ai} (hg:FZ T cg) : zV T fun args M Q=>∃ a0,args=[a0]∧oN TS cg T a0 M Q:=by
 intro M bb TB vs xss Q hb hbl hlen hvl hv hpos hmax hQ
 refine⟨_,rfl, ?_⟩
 unfold oN
 simp only[nM]
 have at_:∀ (i:Nat) (K:AV→Prop),i<vs.length→dm (.slc bb 0 vs.length (.ex vs.length)) (N .i64 (i:Int)) 1 K=K (.ptr bb i):=fun i K hi=>by
  rw[qw]
  simp only[Int.toNat_natCast,Nat.mul_one,Nat.zero_add]
  exact propext ⟨fun h=>h.2.2,fun h=>⟨by omega,by omega,h⟩⟩
 have hfl:∀ i,i≤xss.length→(xss.take i).flatten.length≤xss.flatten.length:=fun i _=>by
  have e:xss.flatten=(xss.take i).flatten++(xss.drop i).flatten:=by rw[← List.flatten_append,List.take_append_drop]
  rw[e,List.length_append]; omega
 have hst:∀ i (hi:i<xss.length),(xss.take (i + 1)).flatten=(xss.take i).flatten++xss[i]:=fun i hi=>by
  rw[List.take_succ_eq_append_getElem hi,List.flatten_append,List.flatten_cons,List.flatten_nil,List.append_nil]
 rw[jS]
 refine dG (fun m zs M3=>∃ i:Nat,m=vs.length - i∧i≤vs.length∧zs=[N .i64 ((xss.take i).flatten.length:Int),N .i64 (i:Int)]∧M3=M) _ ⟨0,rfl,Nat.zero_le _,rfl,rfl⟩ ?_
 rintro next m zs M3 hnext ⟨i,rfl,hi,rfl,rfl⟩
 simp only[bz,cK,uW]
 refine dF (fun h=>?_) fun h=>?_
 ·have hlt:i<vs.length:=by simpa using h
  have hlx:i<xss.length:=by omega
  have sl:=hv i vs[i] xss[i] (List.getElem?_eq_getElem hlt) (List.getElem?_eq_getElem hlx)
  have h1:=hfl (i + 1) (by omega)
  have h2:=congrArg List.length (hst i hlx)
  rw[List.length_append] at h2
  rw[at_ i _ hlt,aL hb (List.getElem?_eq_getElem hlt),aC.len sl,addN (by omega),iG,show decide ((((xss.take i).flatten.length + xss[i].length:Nat) : Int)<0)=false by simp; omega,aY]
  try simp only[bz]
  rw[add1 (by omega)]
  exact hnext _ _ _ (by omega) ⟨i + 1,rfl,by omega,by rw[h2],rfl⟩
 ·have:i=vs.length:=by simp at h; omega
  subst this
  rw[hlen,List.take_length]
  refine hg hmax hpos fun b M4 hb0 hb1 hrow k4=>?_
  rw[← hlen,jS]
  have hbb:bb≠b:=by omega
  refine dG (fun m zs M5=>∃ i:Nat,m=vs.length - i∧i≤vs.length∧zs=[.slc b 0 (xss.take i).flatten.length (.op 1),N .i64 (i:Int)]∧ae [b] M4 M5∧M5.next=M4.next ∧
    M5.heap b=some (.row (BY.row (xss.take i).flatten++bX ZB (xss.flatten.length - (xss.take i).flatten.length)) true T 0)) _
   ⟨0,rfl,Nat.zero_le _,rfl,ae.refl _ _,rfl,by simpa [Enc.row] using hrow⟩ ?_
  rintro next2 m zs M5 N9 ⟨i,rfl,hi2,rfl,k5,n5,Ef⟩
  simp only[bz,cK,uW]
  refine dF (fun h=>?_) fun h=>?_
  ·have hlt:i<vs.length:=by simpa using h
   have hlx:i<xss.length:=by omega
   have sl:=hv i vs[i] xss[i] (List.getElem?_eq_getElem hlt) (List.getElem?_eq_getElem hlx)
   have hb4:=k4.aN hb hbl (by simp)
   have hb5:=k5.aN hb4 (by omega) (by simp; exact hbb)
   have sl5:Sl BY M5 vs[i] xss[i]:=aC.keep (aC.keep sl k4 (by simp)) k5 (fun d hd hm=>by have:=aC.lt sl d hd; simp at hm; omega)
   have h1:=hfl (i + 1) (by omega)
   have h2:=congrArg List.length (hst i hlx)
   rw[List.length_append] at h2
   rw[at_ i _ hlt,aL hb5 (List.getElem?_eq_getElem hlt)]
   refine PR Ef sl5 (by omega) (by omega) fun M6 Qo k6 n6=>?_
   rw[add1 (by omega)]
   refine N9 _ _ _ (by omega) ⟨i + 1,rfl,by omega,by rw[hst i hlx],k5.trans k6,by rw[n6,n5], ?_⟩
   rw[Qo,hst i hlx,List.length_append,Nat.sub_sub]
  ·have:i=vs.length:=by simp at h; omega
   subst this
   rw[hlen,List.take_length] at Ef ⊢
   rw[Nat.sub_self] at Ef
   have O7:M5.heap b=some (.row (BY.row xss.flatten) true T 0):=by simpa [bX] using Ef
   refine hQ _ M5 (Own.op _ _ _ hb0 (by omega) O7 (by rw[Enc.fA])) ?_
   exact⟨k5.base.trans k4.base,by rw[n5]; exact k4.next,fun x hx _=>by rw[k5.heap x (Nat.lt_of_lt_of_le hx k4.next) (by simp; omega),k4.heap x hx (by simp)]⟩
def CE (T:Nat) (c:ai) : Prop:=∀ {M:RM} {v:AV} {s:List Int} {Q:ah},Sl INT M v s→s.length≤1000000→(∀ v' M',Ow INT M' M.next T v' s→ae [] M M'→Q v' M')→c [v] M Q
theorem GD {T:Nat} : CE T fun args M Q=>∃ a0,args=[a0]∧sK T a0 M Q:=by
 intro M v s Q hv hl hQ
 refine⟨_,rfl, ?_⟩
 unfold sK
 rcases aC.uF hv false with⟨rfl,he⟩ | ⟨hne,he⟩
 ·rw[he,show(!false)=true from rfl,bP]
  have:s=[]:=by
   unfold Sl at hv
   cases s with
   | nil=>rfl
   | cons x s=>generalize hcs:INT.row (x :: s)=cs at *; generalize hn:(x :: s).length=n at *; cases hv; cases hcs
  subst this
  exact hQ aF M .nil (ae.refl _ _)
 ·rw[he,aY,Eh]
  simp only[aR]
  have k1:ae [] M (M.push (.row [] false T 0)):=(ae.refl _ _).push _
  refine lU (E:=INT) (Ow.lit INT M) (by simp[RM.push]) (by decide) (aC.keep hv k1 (by simp)) (by simp; omega) (by simp; omega) fun v7 M7 o7 k7 _ _=>?_
  refine hQ v7 M7 (by simpa using o7) ?_
  refine ae.own k1 k7 (fun b hb=>?_)
  simp[aP] at hb; omega
theorem Hl {M:RM} {base T:Nat} {v:AV} {xs s:Str} {zs:List AV} {K:ah} (ho:Ow BY M base T v xs) (hb:base≤M.next) (hn:xs.length + s.length≤1000000000)
  (hK:∀ v' M',Ow BY M' base T v' (xs++s)→ae (aP v) M M'→K v' M') : appW T 1 1 zs false v (St s) M K:=by
 have e:mX M 1 zs false (St s)=some (s.length,BY.row s):=by simp[mX,A9]
 refine yH ho hb (by decide) e (by rw[jZ,Nat.mul_one]) (BY.pW s) (by omega) (by omega) fun v' M' h1 h2 _ _=>?_
 refine hK v' M' ?_ h2
 rw[← Enc.mF] at h1
 unfold Ow; rw[List.length_append]; exact h1
def sQ (n:Int) (rest:Str) : Int:=if (rest.length:Int)<n then(rest.length:Int) else n
def oJ (s:Str) : Str:=fM s.length++[13,10]++s++[13,10]
def je:List Int→Str→Str→Str × Str
 | [],acc,rest=>(acc,rest)
 | n :: ns,acc,rest=>match decide (sQ n rest<1) with
   | true=>je ns acc rest
   | false=>je ns (acc++oJ (rest.take (sQ n rest).toNat)) (rest.drop (sQ n rest).toNat)
abbrev Jw:Str:=[48,13,10,13,10]
def jq (m p:Str) (l:List Hd) (body:Str) (sizes:List Int) : Except Nat Str:=match uX m p with
 | false=>.error 1
 | true=>gQ (D8 m p) l (IR,BF) body.length ((je (sizes++[(body.length:Int)]) [] body).1++Jw)
theorem Ql {T:Nat} {zs:List AV} {a b c d z:AV} {K:RB→(Nat→AV)→Prop} (ha:a.cells=[a]) (hb:b.cells=[b]) (hc:c.cells=[c]) (hd:d.cells=[d]) (ha1:oneCell a=true) (hb1:oneCell b=true) (hc1:oneCell c=true) (hd1:oneCell d=true) :
  cz T 4 [z] [(0,1,a),(1,1,b),(2,1,c),(3,1,d)] K=K (.row [a,b,c,d] false T 0) (fun b=>.slc b 0 4 (.ex 4)):=by
 have:nW (bX [z] 4) [(0,1,a),(1,1,b),(2,1,c),(3,1,d)]=some [a,b,c,d]:=by
  simp[nW,bX,ha,hb,hc,hd,ha1,hb1,hc1,hd1]
 apply propext; unfold cz
 constructor
 ·rintro⟨l,h,hk⟩; rw[this] at h; cases h; exact hk
 ·intro hk; exact⟨_,this,hk⟩
theorem Bs.new (M:RM) (T:Nat) (s:Str) : Bs (M.push (.row (BY.row s) true T 0)) (.slc M.next 0 s.length (.op 1)) s:=⟨(Rw.new M s).sl,rfl⟩
def yO (B:Base) (T:Nat) (c:ai) : Prop:=∀ {M:RM} {hv bv sv:AV} {m p body:Str} {l:List Hd} {sizes:List Int} {Q:ah},M.base=B→Sl HD M hv l→l.length≤1000→(∀ h∈l,h.1.length≤281474976710656∧h.2.length≤281474976710656) →
 m.length≤281474976710656→p.length≤281474976710656→Bs M bv body→body.length≤1000000→Sl INT M sv sizes→sizes.length≤1000 →
 (∀ s v' M',jq m p l body sizes=.ok s→s.length≤100000000→ae [] M M'→Ow BY M' M.next T v' s→Q (.tup [v',N .i64 0]) M')→(∀ (e:Nat) M',jq m p l body sizes=.error e→(e=1∨e=2)→ae [] M M'→Q (.tup [aF,N .i64 (e:Int)]) M') →
 c [.agg [St m,St p,hv,bv],sv] M Q
theorem BA {B:Base} {T TI T8 TB:Nat} {cg ck cf cc cp:ai} (hg:uC cg) (hk:CE TI ck) (hf:Ci B cf) (hc:zV T8 cc) (hp:rf B T8 cp) :
  yO B T8 fun args M Q=>∃ a0 a1,args=[a0,a1]∧kw T cg ck TI T8 cf TB cc cp a0 a1 M Q:=by
 intro M hv bv sv m p body l sizes Q hB hh hll hle hm hpl hb hbl hsv hsl hQ hE
 refine⟨_,_,rfl, ?_⟩
 unfold kw
 have ohv:=aC.one hh
 have obv:=aC.one hb.sl
 rw[iL (by simp only[List.all_cons,List.all_nil,ohv,obv]; rfl) (by simp)]
 simp only[aR]
 have k0:ae [] M (M.push (.row [St m,St p,hv,bv] false T 0)):=(ae.refl _ _).push _
 have n0:(M.push (.row [St m,St p,hv,bv] false T 0)).heap M.next=some (.row [St m,St p,hv,bv] false T 0):=by simp[RM.push]
 have l0:M.next<(M.push (.row [St m,St p,hv,bv] false T 0)).next:=by simp[RM.push]
 generalize M.push (.row [St m,St p,hv,bv] false T 0)=M0 at *
 rw[bH n0 (by rfl)]
 refine hg ohv obv (by omega) (by omega) fun M1 k1=>?_
 have n1:=k1.aN n0 l0 (by simp)
 have l1:=Nat.lt_of_lt_of_le l0 k1.next
 have k01:=k0.trans k1
 simp only[dh]
 refine dF (fun h=>?_) fun h=>?_
 ·have hk:uX m p=false:=by simpa using h
  exact hE 1 M1 (by unfold jq; rw[hk]) (.inl rfl) k01
 have hok:uX m p=true:=by simpa using h
 obtain⟨q1,q2⟩:=Et hok
 have e:jq m p l body sizes=gQ (D8 m p) l (IR,BF) body.length ((je (sizes++[(body.length:Int)]) [] body).1++Jw):=by unfold jq; rw[hok]
 rw[e] at hQ hE
 have ld:∀ {M' : RM} (k:ae [] M1 M') (i:Nat) (x:AV),([St m,St p,hv,bv] : List AV)[i]?=some x→∀ {K' : AV→Prop},aj M' (.ptr M.next i) K'=K' x:=fun k i x hx=>aL (k.aN n1 l1 (by simp)) hx
 simp only[jk]
 rw[ld (ae.refl _ _) 3 bv rfl]
 refine hk (aC.keep hsv k01 (by simp)) (by omega) fun v2 M2 o2 k2=>?_
 rw[hb.len,u6 (by rfl) (by rfl) (by rfl)]
 simp only[aR]
 have k02:=k01.trans k2
 refine ui (E:=INT) (a:=(body.length:Int)) (Own.mono o2 k01.next) k02.next (by decide) (by omega) (by omega) fun v3 M3 o3 k3 _ _=>?_
 have k03:ae [] M M3:=ae.own k02 k3 (fun x hx=>by have:=(Own.blk o2 x hx).1; have:=k01.next; omega)
 have k13:ae [] M1 M3:=ae.own k2 k3 (fun x hx=>(Own.blk o2 x hx).1)
 generalize hns:sizes++[(body.length:Int)]=ns at *
 have hnl:ns.length≤1001:=by rw[← hns]; simp; omega
 have s3:Sl INT M3 v3 ns:=Own.j3 o3
 rw[aC.len s3]
 refine dG (fun z ys M4=>∃ (i:Nat) (av rv:AV) (acc rest:Str),z=ns.length - i∧ys=[av,rv,N .i64 (i:Int)]∧i≤ns.length∧ae [] M3 M4∧Ow BY M4 M1.next T8 av acc∧Bs M4 rv rest∧(∀ x∈aP rv,x∈aP bv) ∧
   je ns [] body=je (ns.drop i) acc rest∧acc.length + rest.length≤i * 30 + body.length) _
  ⟨0,aF,bv,[],body,rfl,rfl,Nat.zero_le _,ae.refl _ _,.nil,hb.keep k03 (by simp),fun x hx=>hx,rfl,by simp⟩ ?_
 rintro next z ys M4 hnext ⟨i,av,rv,acc,rest,rfl,rfl,hi,k4,oa,hr,hrb,hch,hal⟩
 simp only[bz,cK,uW]
 have k34:=k03.trans k4
 have k14:=k13.trans k4
 refine dF (fun h=>?_) fun h=>?_
 ·have hlt:i<ns.length:=by simpa using h
  have s4:Sl INT M4 v3 ns:=aC.keep s3 k4 (by simp)
  obtain⟨b0,o0,_,_,hix,hld⟩:=s4.at 1 (i:Int) hlt
  have hdr:ns.drop i=ns[i] :: ns.drop (i + 1):=List.drop_eq_getElem_cons hlt
  rw[nM,hix,dz]
  refine⟨_,dQ.1 hld, ?_⟩
  rw[hr.len,Lf]
  have hcut:(if false=true then(if (rest.length:Int) > ns[i] then(rest.length:Int) else ns[i]) else if (rest.length:Int)<ns[i] then(rest.length:Int) else ns[i])=sQ ns[i] rest:=by
   unfold sQ; simp
  rw[hcut,iG]
  refine dF (fun h=>?_) fun h=>?_
  ·simp only[bz,cK]
   rw[add1 (by omega)]
   refine hnext _ _ _ (by omega) ⟨i + 1,av,rv,acc,rest,rfl,rfl,by omega,k4,oa,hr,hrb, ?_,by omega⟩
   rw[hch,hdr,je,h]
  ·obtain⟨k,hk,hkl,hk1⟩ : ∃ k:Nat,sQ ns[i] rest=(k:Int)∧k≤rest.length∧1≤k:=by
    have h1:¬ sQ ns[i] rest<1:=by simpa using h
    refine⟨(sQ ns[i] rest).toNat,by omega, ?_,by omega⟩
    have:sQ ns[i] rest≤rest.length:=by unfold sQ; split <;> omega
    omega
   have hstep:je (ns.drop i) acc rest=je (ns.drop (i + 1)) (acc++oJ (rest.take k)) (rest.drop k):=by
    rw[hdr,je,h,hk,Int.toNat_natCast]
   have htl:(rest.take k).length=k:=by simp; omega
   have hcb:oJ (rest.take k)=fM k++[13,10]++rest.take k++[13,10]:=by unfold oJ; rw[htl]
   have hxl:(fM k).length≤20:=qO _ _ _
   rw[hk]
   obtain⟨t39,e39,h39,hsub39⟩ : ∃ v',dB 1 rv none (some (N .i64 (k:Int))) none=some v'∧Bs M4 v' (rest.take k)∧(∀ x∈aP v',x∈aP rv):=by
    have:=hr.sub (Fp 0) (kP _ k .i64) (Nat.zero_le _) hkl (K:=fun v'=>Bs M4 v' (rest.take k)∧(∀ x∈aP v',x∈aP rv)) (fun v' h1 h2=>⟨by simpa using h1,h2⟩)
    obtain⟨v',h1,h2⟩:=this
    exact⟨v',h1,h2.1,h2.2⟩
   obtain⟨t46,e46,h46,Ph⟩ : ∃ v',dB 1 rv (some (N .i64 (k:Int))) none none=some v'∧Bs M4 v' (rest.drop k)∧(∀ x∈aP v',x∈aP rv):=by
    have:=hr.sub (kP 0 k .i64) (Fp _) hkl (Nat.le_refl _) (K:=fun v'=>Bs M4 v' (rest.drop k)∧(∀ x∈aP v',x∈aP rv)) (fun v' h1 h2=>⟨by rw[List.take_of_length_le (by simp)] at h1; exact h1,h2⟩)
    obtain⟨v',h1,h2⟩:=this
    exact⟨v',h1,h2.1,h2.2⟩
   -- put together
   have fin:∀ (M5:RM) (t36 t41:AV),ae [] M4 M5→Bs M5 t36 (fM k++[13,10])→Bs M5 t41 [13,10] →
     (cz TB 4 [(.sc (.slice none 0 0))] [(0,1,av),(1,1,t36),(2,1,t39),(3,1,t41)] fun Q0 QO=>sP Q0 QO M5 fun t42 Lm b_19=>cc [t42] Lm fun t43 Ie=>bI (dB 1 rv (some (N .i64 (k:Int))) none none) fun t46=>af .add (N .i64 (i:Int)) (N .i64 1) fun t47=>next [(ax [t43,t46] 0),(ax [t43,t46] 1),t47] Ie):=by
    intro M5 t36 t41 k5 h36 h41
    have a5:=oa.keep k5 (by simp)
    have b5:=h39.keep k5 (by simp)
    rw[Ql (z:=.sc (.slice none 0 0)) (zs:=[]) (Own.cells a5) (aC.cells h36.sl) (aC.cells b5.sl) (aC.cells h41.sl) (Own.one a5) (aC.one h36.sl) (aC.one b5.sl) (aC.one h41.sl)]
    simp only[yC]
    have k6:ae [] M5 (M5.push (.row [av,t36,t39,t41] false TB 0)):=(ae.refl _ _).push _
    have n6:(M5.push (.row [av,t36,t39,t41] false TB 0)).heap M5.next=some (.row [av,t36,t39,t41] false TB 0):=by simp[RM.push]
    have l6:M5.next<(M5.push (.row [av,t36,t39,t41] false TB 0)).next:=by simp[RM.push]
    generalize M5.push (.row [av,t36,t39,t41] false TB 0)=M6 at *
    have hfl:([acc,fM k++[13,10],rest.take k,[13,10]] : List Str).flatten=acc++oJ (rest.take k):=by rw[hcb]; simp
    have hfll:(acc++oJ (rest.take k)).length≤acc.length + 24 + k:=by
     rw[hcb]; simp only[List.length_append,List.length_cons,List.length_nil,htl]; omega
    have Ro:0<(acc++oJ (rest.take k)).length:=by
     rw[hcb]; simp only[List.length_append,List.length_cons,List.length_nil]; omega
    refine hc (vs:=[av,t36,t39,t41]) (xss:=[acc,fM k++[13,10],rest.take k,[13,10]]) n6 l6 rfl (by simp) (fun j v x hv hx=>?_) (by rw[hfl]; exact Ro) (by
      rw[hfl]
      have:i * 30≤1001 * 30:=Nat.mul_le_mul_right _ (by omega)
      omega) fun r M7 o7 k7=>?_
    ·rcases j with _ | _ | _ | _ | j
     ·cases hv; cases hx; exact aC.keep (Own.j3 a5) k6 (by simp)
     ·cases hv; cases hx; exact aC.keep h36.sl k6 (by simp)
     ·cases hv; cases hx; exact aC.keep b5.sl k6 (by simp)
     ·cases hv; cases hx; exact aC.keep h41.sl k6 (by simp)
     ·cases hv
    rw[hfl] at o7
    have k47:=k5.trans (k6.trans k7)
    rw[e46,eF]
    simp only[bz,cK]
    rw[add1 (by omega)]
    refine hnext _ _ _ (by omega) ⟨i + 1,r,t46,acc++oJ (rest.take k),rest.drop k,rfl,rfl,by omega,k4.trans k47,Own.mono o7 (Nat.le_trans (k14.trans k5).next k6.next),h46.keep k47 (by simp),fun x hx=>hrb x (Ph x hx),by rw[hch,hstep], ?_⟩
    have:(rest.drop k).length=rest.length - k:=by simp
    omega
   refine⟨?_, ?_⟩
   ·rw[e39,eF]
    refine⟨[N .u8 13,N .u8 10],rfl, ?_⟩
    simp only[yC]
    have k5:ae [] M4 (M4.push (.row [N .u8 13,N .u8 10] false T8 0)):=(ae.refl _ _).push _
    have n5:(M4.push (.row [N .u8 13,N .u8 10] false T8 0)).heap M4.next=some (.row [N .u8 13,N .u8 10] false T8 0):=by simp[RM.push]
    have l5:M4.next<(M4.push (.row [N .u8 13,N .u8 10] false T8 0)).next:=by simp[RM.push]
    generalize M4.push (.row [N .u8 13,N .u8 10] false T8 0)=M5 at *
    refine hf ((k34.trans k5).base.trans hB) (by omega) fun M6 k6=>?_
    have n6:=k6.aN n5 l5 (by simp)
    have l6:=Nat.lt_of_lt_of_le l5 k6.next
    rw[eF]
    refine⟨rfl,[N .u8 13,N .u8 10],rfl,⟨n6,rfl⟩, ?_⟩
    rw[bN]
    refine⟨by simp; omega, ?_⟩
    rw[iq]
    have b7:=Bs.new M6 T8 (fM k++[13,10])
    have k7:ae [] M6 (M6.push (.row (BY.row (fM k++[13,10])) true T8 0)):=(ae.refl _ _).push _
    have n7:=k7.aN n6 l6 (by simp)
    have m7:(M6.push (.row (BY.row (fM k++[13,10])) true T8 0)).heap M6.next=some (.row (BY.row (fM k++[13,10])) true T8 0):=by simp[RM.push]
    have l7:M4.next<(M6.push (.row (BY.row (fM k++[13,10])) true T8 0)).next:=by simp[RM.push]; omega
    have l7' : M6.next<(M6.push (.row (BY.row (fM k++[13,10])) true T8 0)).next:=by simp[RM.push]
    generalize hM7:M6.push (.row (BY.row (fM k++[13,10])) true T8 0)=M7 at *
    refine⟨M4.next,0,2,2,[N .u8 13,N .u8 10],T8,rfl,n7, ?_⟩
    have k47:ae [] M4 M7:=k5.trans (k6.trans k7)
    have k8:ae [] M4 (M7.put M4.next (.row [N .u8 13,N .u8 10] false T8 (([N .u8 13,N .u8 10] : List AV).length + 1))):=k47.new _ (Nat.le_refl _)
    have m8:(M7.put M4.next (.row [N .u8 13,N .u8 10] false T8 (([N .u8 13,N .u8 10] : List AV).length + 1))).heap M6.next=some (.row (BY.row (fM k++[13,10])) true T8 0):=sJ m7 (by omega)
    dsimp only
    rw[iq]
    refine⟨⟨m8,rfl⟩, ?_⟩
    rw[eF]
    refine⟨rfl, ?_⟩
    refine fin _ _ _ k8 ⟨?_,rfl⟩ ⟨?_,Nat.le_refl _⟩
    ·exact aC.slc _ _ _ _ _ (by rw[FQ]; exact l7') (by rw[RM.gJ m8 (by rw[Enc.fA]; simp[BY]),List.drop_zero,List.take_of_length_le (by rw[Enc.fA]; simp[BY])])
    ·refine aC.slc _ _ _ _ _ (by rw[FQ]; exact l7) ?_
     rw[RM.gJ (aM _) (by decide)]
     rfl
   ·refine⟨[N .u8 13,N .u8 10],rfl, ?_⟩
    simp only[yC]
    rw[e39,eF]
    refine⟨M4.next,0,2,2,[N .u8 13,N .u8 10],T8,rfl,by simp[RM.push], ?_⟩
    have k5:ae [] M4 ((M4.push (.row [N .u8 13,N .u8 10] false T8 0)).put M4.next (.row [N .u8 13,N .u8 10] false T8 (([N .u8 13,N .u8 10] : List AV).length + 1))):=((ae.refl _ _).push _).new _ (Nat.le_refl _)
    have b5:Bs ((M4.push (.row [N .u8 13,N .u8 10] false T8 0)).put M4.next (.row [N .u8 13,N .u8 10] false T8 (([N .u8 13,N .u8 10] : List AV).length + 1))) (.slc M4.next 0 2 (.ex 2)) [13,10]:=⟨by
     refine aC.slc _ _ _ _ _ (by simp[RM.push,RM.put]) ?_
     rw[RM.gJ (aM _) (by decide)]
     rfl,Nat.le_refl _⟩
    dsimp only
    rw[eF]
    refine⟨rfl, ?_⟩
    refine hf ((k34.trans k5).base.trans hB) (by omega) fun M6 k6=>?_
    rw[eF]
    refine⟨rfl, ?_⟩
    rw[bN]
    refine⟨by simp; omega, ?_⟩
    rw[iq]
    have k7:ae [] M6 (M6.push (.row (BY.row (fM k++[13,10])) true T8 0)):=(ae.refl _ _).push _
    exact fin _ _ _ (k5.trans (k6.trans k7)) (Bs.new M6 T8 _) (b5.keep (k6.trans k7) (by simp))
 ·have:i=ns.length:=by simp at h; omega
  subst this
  rw[List.drop_length] at hch
  have hch' : je ns [] body=(acc,rest):=hch
  rw[hch'] at hQ hE
  have:ns.length * 30≤1001 * 30:=Nat.mul_le_mul_right _ hnl
  refine Hl oa k14.next (by simp; omega) fun v5 M5 o5 k5=>?_
  have k15:ae [] M1 M5:=ae.own k14 k5 (fun x hx=>(Own.blk oa x hx).1)
  have k05:ae [] M M5:=k01.trans k15
  rw[ld k15 0 (St m) rfl,bN]
  refine⟨by simp; omega, ?_⟩
  rw[ld k15 1 (St p) rfl,bN]
  refine⟨by simp; omega, ?_⟩
  rw[bN]
  refine⟨by simp; omega, ?_⟩
  rw[bN]
  refine⟨by simp; omega, ?_⟩
  rw[ld k15 2 hv rfl,gK]
  refine⟨_,wG rfl rfl rfl rfl, ?_⟩
  rw[ld k15 3 bv rfl,hb.len]
  have hl5:(acc++Jw).length≤100000000 - 2048:=by simp; omega
  refine hp (more:=(IR,BF)) (body:=acc++Jw) (sz:=body.length) (k05.base.trans hB) (aC.keep hh k05 (by simp)) hll hle (by simp; omega) (by simp) (by simp) (Own.j3 o5) (by omega) (fun s v' M6 e6 hl6 k6 o6=>?_) (fun e' M6 e6 he k6=>?_)
  ·simp only[bg,bf]
   exact hQ s v' M6 e6 (by omega) (k05.trans k6) (Own.mono o6 k05.next)
  ·simp only[bg,bf]
   exact hE e' M6 e6 he (k05.trans k6)
end Go.Ab.Hw
set_option maxRecDepth 20000
namespace Go.Ab.Hw
open Go Go.Ab Go.Ab.Sm
open Go.Ab.Vl (qb)
theorem jW {f:(List AV→RM→Prop)→Prop} {g:List AV→RM→Prop} (x:List AV) (N:RM) (hf:∀ J:List AV→RM→Prop,J x N→f J) (hg:g x N) : dO f g:=hf g hg
def uK (n:Nat) : Int:=QC .u8 (n:Int) 32
def EW (c:ai) : Prop:=∀ {M:RM} {x:UInt8} {Q:ah},Q (N .u8 (uK x.toNat)) M→c [By x] M Q
theorem Je:EW fun args M Q=>∃ a0,args=[a0]∧gP a0 M Q:=by
 intro M x Q hQ
 refine⟨_,rfl, ?_⟩
 unfold gP
 rw[NH]
 exact hQ
def IP (n:Nat) : Bool:=!(kL (bZ (UInt8.ofNat n)) && !dM (UInt8.ofNat n)) || (decide (97≤uK n) && decide (uK n≤122) && decide (uK n - 97 + 10=(lJ (UInt8.ofNat n) : Int)) && !decide (n=95))
theorem J3:(List.range 256).all IP=true:=by decide +kernel
theorem LC (x:UInt8) : IP x.toNat=true:=List.all_eq_true.1 J3 x.toNat (List.mem_range.2 x.toNat_lt)
theorem GU {x:UInt8} (h:kL (bZ x)=true) (hd:dM x=false) : 97≤uK x.toNat∧uK x.toNat≤122∧uK x.toNat - 97 + 10=(lJ x:Int)∧x.toNat≠95:=by
 have:=LC x
 unfold IP at this
 rw[UInt8.ofNat_toNat,h,hd] at this
 simp only[Bool.not_false,Bool.and_self,Bool.not_true,Bool.false_or,Bool.and_eq_true,decide_eq_true_eq,Bool.not_eq_true',decide_eq_false_iff_not] at this
 exact⟨this.1.1.1,this.1.1.2,this.1.2,this.2⟩
theorem Ke {s:Str} {i:Nat} (hi:i<s.length) : kS (s.take (i + 1))=kS (s.take i) * 16 + lJ s[i]:=by
 unfold kS
 rw[List.take_succ_eq_append_getElem hi,List.foldl_append]
 rfl
theorem Bg {n:Int} (h0:0≤n) (h1:n<18446744073709551616) : IntKind.wrap .u64 n=n:=by
 simp only[IntKind.wrap,show(2:Int) ^ IntKind.u64.bits=18446744073709551616 from by decide]
 simp[IntKind.signed]
 omega
theorem AY {TE T8:Nat} {cl cu:ai} (hl:EW cl) : Cb fun args M Q=>∃ a0 a1 a2,args=[a0,a1,a2]∧fu TE cl T8 cu a0 a1 a2 M Q:=by
 intro M s Q h1 h8 hx hQ
 refine⟨_,_,_,rfl, ?_⟩
 unfold fu
 have hne:(s == [])=false:=by cases s with | nil=>simp at h1 | cons a b=>rfl
 rw[dU,hne,aY,bq,show((16:Int) == 0)=false from rfl]
 refine jW (x:=[St s,N .i64 16]) (N:=M) (fun J hJ=>?_) ?_
 ·rw[nL,show decide ((2:Int)≤16)=true from rfl]
  simp only[bU,nL]
  rw[show decide ((16:Int)≤36)=true from rfl]
  simp only[bW,bP]
  exact hJ
 simp only[bz,cK]
 refine jW (x:=[N .i64 64]) (N:=M) (fun J hJ=>?_) ?_
 ·rw[bq,show((64:Int) == 0)=false from rfl,aY,iG,show decide ((64:Int)<0)=false from rfl]
  simp only[cB,dS]
  rw[show decide ((64:Int) > 64)=false from rfl]
  simp only[dL,aY]
  exact hJ
 simp only[bz,cK]
 refine jW (x:=[N .u64 1152921504606846976]) (N:=M) (fun J hJ=>?_) ?_
 ·rw[bq,show((16:Int) == 10)=false from rfl,aY,bq,show((16:Int) == 16)=true from rfl,bP]
  exact hJ
 simp only[bz,cK]
 rw[kZ,NS]
 refine⟨by decide, ?_⟩
 rw[jV,iq]
 simp only[aR,jS]
 have hmax:IntKind.wrap .u64 (OU .u64 1 (IntKind.wrap .u64 64) - 1)=18446744073709551615:=by decide +kernel
 rw[hmax]
 have hk1:ae [] M (M.push (.row (BY.row s) true T8 0)):=(ae.refl _ _).push _
 have hr1:Rw BY (M.push (.row (BY.row s) true T8 0)) M.next true T8 s:=Rw.new M s
 generalize M.push (.row (BY.row s) true T8 0)=M1 at *
 refine dG (fun m ys M3=>∃ i:Nat,m=s.length - i∧ys=[Bo false,N .u64 (kS (s.take i) : Int),N .i64 (i:Int)]∧i≤s.length∧M3=M1) _ ⟨0,rfl,rfl,Nat.zero_le _,rfl⟩ ?_
 rintro next m ys M3 hnext ⟨i,rfl,rfl,hi,rfl⟩
 simp only[bz,cK,uW]
 refine dF (fun h=>?_) fun h=>?_
 ·have hlt:i<s.length:=by simpa using h
  have hc:=hr1.aj hlt
  have cb:=AZ s[i]
  have hmem:kL (bZ s[i])=true:=by
   unfold low at hx
   rw[List.all_map] at hx
   exact List.all_eq_true.1 hx s[i] (List.getElem_mem hlt)
  have hdv:=Ht hmem
  have hall:(low (s.take i)).all kL=true:=by
   rw[List.all_eq_true]
   intro y hy
   unfold low at hy
   rw[List.mem_map] at hy
   obtain⟨z,hz,rfl⟩:=hy
   unfold low at hx
   rw[List.all_map] at hx
   exact List.all_eq_true.1 hx z (List.mem_of_mem_take hz)
  have hlt2:=GV hall (by simp; omega)
  have ht:=Ke hlt
  refine jW (x:=[Bo false,N .u64 (kS (s.take (i + 1)) : Int)]) (N:=M3) (fun J hJ=>?_) ?_
  rotate_left
  ·simp only[bz,cK]
   rw[add1 (by omega)]
   exact hnext _ _ _ (by omega) ⟨i + 1,rfl,rfl,by omega,rfl⟩
  rw[qw]
  refine⟨by omega,by omega, ?_⟩
  rw[dz]
  refine⟨By s[i],by simpa using hc, ?_⟩
  refine jW (x:=[Bo false,N .u8 (lJ s[i] : Int)]) (N:=M3) (fun J2 hJ2=>?_) ?_
  rotate_left
  ·simp only[bz,cK]
   rw[kZ,show IntKind.wrap .u8 16=16 by decide,dC,show decide ((lJ s[i] : Int) ≥ 16)=false by simp; omega,aY,dC,show decide ((kS (s.take i) : Int) ≥ 1152921504606846976)=false by simp; omega,aY,kZ,show IntKind.wrap .u64 16=16 by decide,
    Mr,Bg (by omega) (by omega),kZ,Bg (by omega) (by omega),vI,Bg (by omega) (by omega),iG,show decide ((kS (s.take i) : Int) * 16 + (lJ s[i] : Int)<(kS (s.take i) : Int) * 16)=false from decide_eq_false (by omega)]
   simp only[cB,dS]
   rw[show decide ((kS (s.take i) : Int) * 16 + (lJ s[i] : Int) > 18446744073709551615)=false by simp; omega]
   simp only[dL,aY]
   have e:((kS (s.take (i + 1)) : Nat) : Int)=(kS (s.take i) : Int) * 16 + (lJ s[i] : Int):=by rw[ht]; omega
   rw[e] at hJ
   exact hJ
  rw[bq]
  have h95:((s[i].toNat:Int) == 95)=false:=by
   cases hd:dM s[i] with
   | true =>
     unfold dM at hd
     simp only[Bool.and_eq_true,decide_eq_true_eq] at hd
     simp; omega
   | false =>
     have:=(GU hmem hd).2.2.2
     simp; omega
  rw[h95]
  simp only[jh,dL,aY,di,bz,nL]
  cases hd:dM s[i] with
  | true =>
    have hd':=hd
    unfold dM at hd'
    simp only[Bool.and_eq_true,decide_eq_true_eq] at hd'
    rw[show decide ((48:Int)≤(s[i].toNat:Int))=true by simp; omega]
    simp only[bU]
    rw[show decide ((s[i].toNat:Int)≤57)=true by simp; omega]
    simp only[bW,bP]
    rw[jV,jo (by omega) (by omega)]
    have hv:(s[i].toNat:Int) - 48=(lJ s[i] : Int):=by unfold lJ; rw[if_pos (by omega)]; omega
    rw[hv]
    exact hJ2
  | false =>
    obtain⟨q1,q2,q3,_⟩:=GU hmem hd
    have hno:(decide ((48:Int)≤(s[i].toNat:Int)) && decide ((s[i].toNat:Int)≤57))=false:=by
     rw[← hd]; unfold dM; rfl
    refine nX (p:=decide ((s[i].toNat:Int)≤57)) (fun _ k hk=>hk) ?_
    rw[hno,aY]
    refine hl ?_
    rw[nL,show decide ((97:Int)≤uK s[i].toNat)=true by simpa using q1]
    simp only[bU]
    refine hl ?_
    rw[nL,show decide (uK s[i].toNat≤(122:Int))=true by simpa using q2]
    simp only[bW,bP]
    refine hl ?_
    rw[jV,jo (by omega) (by omega),vI,jo (by omega) (by omega),q3]
    exact hJ2
 ·have:i=s.length:=by simp at h; omega
  subst this
  simp only[jh,dL,aY]
  rw[List.take_length]
  exact hQ _ hk1
theorem Cg {cp ct:ai} (hp:Cb cp) : Cb fun args M Q=>∃ a0 a1 a2,args=[a0,a1,a2]∧jD cp ct a0 a1 a2 M Q:=by
 intro M s Q h1 h8 hx hQ
 refine⟨_,_,_,rfl, ?_⟩
 unfold jD
 refine hp h1 h8 hx fun M1 k1=>?_
 simp only[bg,bf]
 refine .inr ⟨rfl,rfl, ?_⟩
 dsimp only
 rw[show(!true)=false from rfl,aY]
 exact hQ M1 k1
def xO (n:Nat) : UInt8:=if n<10 then UInt8.ofNat (48 + n) else UInt8.ofNat (87 + n)
theorem Bh {base f n:Nat} (h:n<base) : mJ base (f + 1) n=[xO n]:=by
 rw[mJ,pG h]; rfl
theorem F6 {base f n:Nat} (h:¬ n<base) : mJ base (f + 1) n=mJ base f (n / base)++[xO (n % base)]:=by
 rw[mJ,jK h]; rfl
abbrev zJ:Str:=[48,49,50,51,52,53,54,55,56,57,97,98,99,100,101,102,103,104,105,106,107,108,109,110,111,112,113,114,115,116,117,118,119,120,121,122]
theorem Mc:∀ m:Fin 16,zJ[m.val]?=some (xO m.val):=by decide
theorem GZ {n:Nat} (h:n<16) {K:AV→Prop} : ed (St zJ) (N .u64 (n:Int)) K=K (By (xO n)):=by
 have hl:n<zJ.length:=Nat.lt_of_lt_of_le h (by decide)
 rw[qb hl]
 have:=Mc ⟨n,h⟩
 rw[List.getElem?_eq_getElem hl] at this
 rw[Option.some.inj this]
def QL (B:Base) (c:ai) : Prop:=∀ {M:RM} {Q:ah},M.base=B→Q (N .i64 4) M→c [N .u64 16] M Q
def JA (c:ai) : Prop:=∀ {M:RM} {Q:ah},Q (Bo true) M→c [N .i64 16] M Q
theorem L6:JA fun args M Q=>∃ a0,args=[a0]∧eH a0 M Q:=by
 intro M Q hQ
 refine⟨_,rfl, ?_⟩
 unfold eH
 rw[jV,Fw,show HZ .i64 16 (IntKind.wrap .i64 (16 - 1))=0 by decide +kernel,bq,show((0:Int) == 0)=true from rfl]
 exact hQ
def Iz (B:Base) (c:ai) : Prop:=∀ {M:RM} {n:Nat} {Q:ah},M.base=B→n<4294967296→(∀ M',ae [] M M'→Q (.tup [aF,St (fM n)]) M')→c [aF,N .u64 (n:Int),N .i64 16,Bo false,Bo false] M Q
theorem KD {B:Base} {TA n:Nat} {cp ct:ai} (hp:JA cp) (ht:QL B ct) {M M0:RM} {zs:List AV} (hB:M.base=B) (hn:n<4294967296) (hzl:zs.length=65) (k0:ae [] M M0) (n0:M0.heap M.next=some (.row zs false TA 0)) (l0:M.next<M0.next) :
  ∀ J13:List AV→RM→Prop,(∀ (i:Nat) (M3:RM) (X:List AV),M3.heap M.next=some (.row (X++BY.row (fM n)) false TA 0)→X.length=i→i + (fM n).length=65→ae [] M M3→M.next<M3.next→J13 [N .i64 (i:Int)] M3) →
    dO (fun J13=>cp [N .i64 16] M0 fun t34 I9=>au t34 ( gY .u64 (N .i64 16) fun t36=>ct [t36] I9 fun t37 FL=>gY .u64 t37 fun t38=>gY .u64 (N .i64 16) fun t40=>gY .u64 (N .i64 16) fun t42=>af .sub t42 (N .u64 1) fun t43=>fe (fun next yJ Po=>af .geq (ax yJ 0) t40 fun t46=>au t46 ( af .sub (ax yJ 1) (N .i64 1) fun t48=>af .and (ax yJ 0) t43 fun t52=>ed (St zJ) t52 fun t53=>mE (.ptr M.next 0) t48 65 1 fun t54=>aH Po t54 t53 1 fun Lm=>zA .shr (ax yJ 0) t38 fun t57=>next [t57,t48] Lm) ( af .sub (ax yJ 1) (N .i64 1) fun t59=>ed (St zJ) (ax yJ 0) fun t62=>mE (.ptr M.next 0) t59 65 1 fun t63=>aH Po t63 t62 1 fun Re=>J13 [t59] Re)) [N .u64 (n:Int),(N .i64 65)] FL) ( gY .u64 (N .i64 16) fun t65=>fe (fun NI yI OY=>af .geq (ax yI 0) t65 fun t68=>au t68 ( af .sub (ax yI 1) (N .i64 1) fun t70=>af .quo (ax yI 0) t65 fun t73=>af .mul t73 t65 fun t78=>af .sub (ax yI 0) t78 fun t79=>ed (St zJ) t79 fun t80=>mE (.ptr M.next 0) t70 65 1 fun t81=>aH OY t81 t80 1 fun LM=>NI [t73,t70] LM) ( af .sub (ax yI 1) (N .i64 1) fun t84=>ed (St zJ) (ax yI 0) fun t87=>mE (.ptr M.next 0) t84 65 1 fun t88=>aH OY t88 t87 1 fun Rb=>J13 [t84] Rb)) [N .u64 (n:Int),(N .i64 65)] I9)) J13:=by
 intro J13 hJ
 refine(show ∀ (f:(List AV→RM→Prop)→Prop) (g:List AV→RM→Prop),f g→dO f g from fun _ _ h=>h) _ _ ?_
 refine hp ?_
 rw[bP,kZ,show IntKind.wrap .u64 16=16 by decide]
 refine ht (k0.base.trans hB) ?_
 rw[kZ,show IntKind.wrap .u64 4=4 by decide,kZ,show IntKind.wrap .u64 16=16 by decide,kZ,show IntKind.wrap .u64 16=16 by decide,jV,show IntKind.wrap .u64 (16 - 1)=15 by decide]
 refine dG (fun m ys M3=>∃ (u f:Nat) (X:List AV) (ds:Str),u=m∧ys=[N .u64 (u:Int),N .i64 (X.length:Int)]∧X.length + ds.length=65∧f + ds.length=20∧1≤f∧u<16 ^ f∧u<4294967296∧fM n=mJ 16 f u++ds∧M3.heap M.next=some (.row (X++BY.row ds) false TA 0)∧ae [] M M3∧M.next<M3.next) _
  ⟨n,20,zs,[],rfl,by rw[hzl]; rfl,by rw[hzl]; rfl,rfl,by decide,Nat.lt_of_lt_of_le hn (by decide),hn,by unfold fM; rw[List.append_nil],by rw[Enc.Nl,List.append_nil]; exact n0,k0,l0⟩ ?_
 rintro next m ys M3 hnext ⟨u,f,X,ds,rfl,rfl,hXl,hf,hf1,huf,hu,Pf,hrow,k3,l3⟩
 simp only[bz,cK]
 have hXp:1≤X.length:=by omega
 obtain⟨Y,y,rfl⟩ : ∃ Y y,X=Y++[y]:=⟨X.dropLast,X.getLast (by intro e; rw[e] at hXp; simp at hXp),(List.dropLast_concat_getLast _).symm⟩
 simp only[List.length_append,List.length_cons,List.length_nil,Nat.zero_add] at hXl
 have hsub:∀ K:AV→Prop,af .sub (N .i64 (((Y++[y]).length:Nat) : Int)) (N .i64 1) K=K (N .i64 (Y.length:Int)):=fun K=>by
  rw[show(N .i64 1)=N .i64 ((1:Nat) : Int) from rfl,Jy (by simp) (by simp; omega)]
  simp
 have hidx:∀ K:AV→Prop,mE (.ptr M.next 0) (N .i64 (Y.length:Int)) 65 1 K=K (.ptr M.next Y.length):=fun K=>by
  rw[Ms]
  simp only[Int.toNat_natCast,Nat.mul_one,Nat.zero_add]
  exact propext ⟨fun h=>h.2.2,fun h=>⟨by omega,by omega,h⟩⟩
 have hset:∀ d:UInt8,((Y++[y])++BY.row ds).set Y.length (By d)=Y++BY.row (d :: ds):=fun d=>by
  rw[List.append_assoc,List.set_append_right _ _ (Nat.le_refl _),Nat.sub_self]
  rfl
 have hput:∀ (d:UInt8) (K:RM→Prop),aH M3 (.ptr M.next Y.length) (By d) 1 K=K (M3.put M.next (.row (Y++BY.row (d :: ds)) false TA 0)):=fun d K =>
  fO _ hrow (by simp) rfl rfl (hset d)
 have Oo:∀ d:UInt8,ae [] M (M3.put M.next (.row (Y++BY.row (d :: ds)) false TA 0)):=fun d=>k3.new _ (Nat.le_refl _)
 rw[dC]
 refine dF (fun h=>?_) fun h=>?_
 ·have h16:¬ u<16:=by simp at h; omega
  obtain⟨g,rfl⟩ : ∃ g,f=g + 1:=⟨f - 1,by omega⟩
  have hg1:1≤g:=by
   rcases Nat.eq_zero_or_pos g with e | e
   ·subst e; simp at huf; omega
   ·exact e
  rw[hsub,Fw,show(15:Int)=((15:Nat) : Int) from rfl,L8 rfl]
  have hand:(u &&& 15) % 2 ^ AA .u64=u % 16:=by
   rw[show(15:Nat)=2 ^ 4 - 1 from rfl,Nat.and_two_pow_sub_one_eq_mod]
   exact Nat.mod_eq_of_lt (Nat.lt_of_lt_of_le (Nat.mod_lt _ (by decide)) (by decide))
  rw[hand,GZ (Nat.mod_lt _ (by decide)),hidx,hput,NN]
  refine⟨by decide, ?_⟩
  have Sj:LK .u64 (u:Int) 4=((u / 16:Nat) : Int):=by
   unfold LK
   rw[show(2:Int) ^ min (Int.toNat 4) IntKind.u64.bits=16 by decide,Int.fdiv_eq_ediv_of_nonneg _ (by decide)]
   omega
  rw[Sj]
  refine hnext (u / 16) _ _ (by omega) ⟨u / 16,g,Y,xO (u % 16) :: ds,rfl,rfl,by simp; omega,by simp; omega,hg1, ?_,by omega, ?_,aM _,Oo _,l3⟩
  ·rw[Nat.pow_succ] at huf
   exact Nat.div_lt_of_lt_mul (by rw[Nat.mul_comm]; exact huf)
  ·rw[Pf,F6 h16]; simp
 ·have h16:u<16:=by simp at h; omega
  obtain⟨g,rfl⟩ : ∃ g,f=g + 1:=⟨f - 1,by omega⟩
  rw[hsub,GZ h16,hidx,hput]
  have hd:fM n=xO u :: ds:=by rw[Pf,Bh h16]; rfl
  refine hJ Y.length _ Y ?_ rfl (by rw[hd]; simp; omega) (Oo _) l3
  rw[hd]; exact aM _
theorem JI {B:Base} {TS TA T8:Nat} {cp ct:ai} (hp:JA cp) (ht:QL B ct) : Iz B fun args M Q=>∃ a0 a1 a2 a3 a4,args=[a0,a1,a2,a3,a4]∧eY TS TA cp ct T8 a0 a1 a2 a3 a4 M Q:=by
 intro M n Q hB hn hQ
 refine⟨_,_,_,_,_,rfl, ?_⟩
 unfold eY
 refine jW [] M (fun J hJ=>?_) ?_
 ·rw[iG,show decide ((16:Int)<2)=false from rfl]
  simp only[cB,bq]
  rw[show((16:Int) == 10)=false from rfl]
  simp only[dL,cB,dS]
  rw[show decide ((16:Int) > 36)=false from rfl]
  simp only[dL,aY]
  exact hJ
 simp only[aR]
 generalize hz:([(N .u8 0),(N .u8 0),(N .u8 0),(N .u8 0),(N .u8 0),(N .u8 0),(N .u8 0),(N .u8 0),(N .u8 0),(N .u8 0),(N .u8 0),(N .u8 0),(N .u8 0),(N .u8 0),(N .u8 0),(N .u8 0),(N .u8 0),(N .u8 0),(N .u8 0),(N .u8 0),(N .u8 0),(N .u8 0),(N .u8 0),(N .u8 0),(N .u8 0),(N .u8 0),(N .u8 0),(N .u8 0),(N .u8 0),(N .u8 0),(N .u8 0),(N .u8 0),(N .u8 0),(N .u8 0),(N .u8 0),(N .u8 0),(N .u8 0),(N .u8 0),(N .u8 0),(N .u8 0),(N .u8 0),(N .u8 0),(N .u8 0),(N .u8 0),(N .u8 0),(N .u8 0),(N .u8 0),(N .u8 0),(N .u8 0),(N .u8 0),(N .u8 0),(N .u8 0),(N .u8 0),(N .u8 0),(N .u8 0),(N .u8 0),(N .u8 0),(N .u8 0),(N .u8 0),(N .u8 0),(N .u8 0),(N .u8 0),(N .u8 0),(N .u8 0),(N .u8 0)] : List AV)=zs
 have hzl:zs.length=65:=by rw[← hz]; rfl
 have k0:ae [] M (M.push (.row zs false TA 0)):=(ae.refl _ _).push _
 have n0:(M.push (.row zs false TA 0)).heap M.next=some (.row zs false TA 0):=by simp[RM.push]
 have l0:M.next<(M.push (.row zs false TA 0)).next:=by simp[RM.push]
 generalize M.push (.row zs false TA 0)=M0 at *
 refine jW [N .u64 (n:Int)] M0 (fun J hJ=>?_) ?_
 ·rw[aY]; exact hJ
 simp only[bz]
 -- the digits
 refine KD hp ht hB hn hzl k0 n0 l0 _ ?_
 intro i M3 X hrow hX hil k3 l3
 simp only[bz]
 refine jW [N .i64 (i:Int)] M3 (fun J hJ=>?_) ?_
 ·rw[aY]; exact hJ
 simp only[bz]
 have hpos:0<(fM n).length:=by
  unfold fM
  rw[mJ]
  split <;> simp
 have hsub:qp 65 1 (.ptr M.next 0) (some (N .i64 (i:Int))) none=some (.slc M.next i (65 - i) (.ex (65 - i))):=by
  have e1:bnd 0 (some (N .i64 (i:Int)))=some i:=kP _ _ _
  have e2:bnd 65 none=some 65:=rfl
  simp only[qp,e1,e2]
  rw[if_pos ⟨(by omega:i≤65),Nat.le_refl _⟩,if_neg (by omega),Nat.zero_add,Nat.mul_one]
 rw[aY,hsub,eF]
 have hs:Sl BY M3 (.slc M.next i (65 - i) (.ex (65 - i))) (fM n):=by
  have e:65 - i=(fM n).length:=by omega
  unfold Sl
  rw[e]
  refine aC.slc _ _ _ _ _ ?_ ?_
  ·exact l3
  ·rw[RM.gJ hrow (by rw[List.length_append,jZ,hX]; simp[BY])]
   rw[List.drop_left' hX,List.take_of_length_le (by rw[jZ]; simp[BY])]
 rw[hs.str]
 exact hQ M3 k3
end Go.Ab.Hw
namespace Go.Ab.Hw
open Go Go.Ab Go.Ab.Sm
theorem Kl {B:Base} {TA:Nat} {c1 c2 c3 cb:ai} (hb:Iz B cb) : Ci B fun args M Q=>∃ a0 a1,args=[a0,a1]∧fC c1 TA c2 c3 cb a0 a1 M Q:=by
 intro M n Q hB hn hQ
 refine⟨_,_,rfl, ?_⟩
 unfold fC
 rw[bq,show((16:Int) == 10)=false from rfl,aY,kZ,Bg (by omega) (by omega),iG,show decide ((n:Int)<0)=false by simp]
 refine hb hB hn fun M1 k1=>?_
 simp only[bg,bf]
 exact hQ M1 k1
theorem ME {B:Base} {cf:ai} (hf:Ci B cf) : Ci B fun args M Q=>∃ a0 a1,args=[a0,a1]∧ny cf a0 a1 M Q:=by
 intro M n Q hB hn hQ
 exact⟨_,_,rfl,hf hB hn hQ⟩
end Go.Ab.Hw
set_option maxRecDepth 100000
namespace Go.Ab.Dk
open Go Go.Ab
end Go.Ab.Dk
namespace Go.Ab.Crw
open Go Go.Ab
end Go.Ab.Crw
namespace Go.Ab
open Go Go.RowKit
section
variable {P:Program} {ρ:Ren} {M:RM} {w w' : World}
theorem Kz {base:Base} {A:AW} (hw0:bF P base ρ A w) (hbl:Below w.heap.size w w') (hbase:base≤w.heap.size) {x:fV} {ob:Obj} {i:dV} (hge:w.heap.size≤i.cb) (hob:w'.heap[i.cb]?=some ob)
  (hrel:gq P (ρ.add A.next i) i x ob) : bF P base (ρ.add A.next i) (A.push x) w'∧Step base A.next ρ w (ρ.add A.next i) w':=by
 have hb:ρ A.next=none:=hw0.fresh (Nat.le_refl _)
 have hw:=si hw0 x
 have hx:(A.push x).heap.get A.next=some x:=by simp[AW.push,Tree.aT]
 have hlt:A.next<(A.push x).next:=by simp[AW.push]
 have hle:=Ren.qV (i:=i) hb
 have hadd:∀ c j,ρ.add A.next i c=some j→(c=A.next∧j=i)∨(c≠A.next∧ρ c=some j):=by
  intro c j h
  unfold Ren.add at h
  split at h
  ·cases h; exact .inl ⟨‹_›,rfl⟩
  ·exact .inr ⟨‹_›,h⟩
 have hcb:i.cb<w'.heap.size:=(Array.getElem?_eq_some_iff.1 hob).1
 refine⟨⟨?_, ?_, ?_,hw.top, ?_,base.low w _ (fun c hc=>hbl.block c (by omega)) hw.inv⟩,⟨hbl.os,hbl.tape,hbl.output,hbl.size, ?_, ?_, ?_,fun c hc=>hbl.block c (by omega)⟩⟩
 ·intro c j h
  rcases hadd c j h with⟨rfl,rfl⟩ | ⟨_,h⟩
  ·exact⟨hlt,hcb⟩
  ·have:=hw.dom c j h; have:=hbl.size; omega
 ·intro c j y h hy
  rcases hadd c j h with⟨rfl,rfl⟩ | ⟨_,h⟩
  ·rw[hx] at hy; cases hy
   exact⟨ob,hob,hrel⟩
  ·obtain⟨o,ho,hr⟩:=hw.blk c j y h hy
   exact⟨o,by rw[hbl.block j.cb (hw.dom c j h).2]; exact ho,hr.mono hle⟩
 ·intro b1 b2 i1 i2 x1 x2 h1 h2 g1 g2 he
  rcases hadd _ _ h1 with⟨e1,f1⟩ | ⟨_,k1⟩ <;> rcases hadd _ _ h2 with⟨e2,f2⟩ | ⟨_,k2⟩
  ·rw[e1,e2]
  ·have:=(hw.dom _ _ k2).2; subst f1; omega
  ·have:=(hw.dom _ _ k1).2; subst f2; omega
  ·exact hw.sep _ _ _ _ _ _ k1 k2 g1 g2 he
 ·intro c j y h hy
  rcases hadd c j h with⟨rfl,rfl⟩ | ⟨_,h⟩
  ·omega
  ·exact hw.lo c j y h hy
 ·intro c hc _; exact hbl.block c hc
 ·intro c hc; unfold Ren.add; rw[if_neg (by omega)]
 ·intro c j h
  rcases hadd c j h with⟨rfl,rfl⟩ | ⟨_,h⟩
  ·exact .inr hge
  ·exact .inl ⟨c,j,h,rfl⟩
theorem dE.Py {f:FuncId} {args:List AV} {T n:Nat} {cs:List AV} {Q:ah} (hP:Ca P f) (hsz:aJ P T=some 1) (h1:cs.all oneCell=true) (hlen:cs.length=n)
  (h:∀ (ρ:Ren) (w:World) (us:List Value),aG ρ args us→bB P ρ M w→Calls P f ⟨us⟩ w fun e w'=>∃ v xs,e=.returned v∧w'.ownsRow w.heap.size T 1 v n xs∧(∀ ρ',aG ρ' cs xs)∧Below w.heap.size w w')
  (hQ:∀ v M',Own M' M.next T 1 v cs n→ae [] M M'→Q v M') : dE P f args M Q:=by
 refine⟨hP,fun ρ w us hargs hw=>(h ρ w us hargs hw).mono fun e w' hR=>?_⟩
 obtain⟨v,xs,rfl,⟨hxl,hrow⟩,hrel,hbl⟩:=hR
 rcases hrow with⟨rfl,h0⟩ | ⟨g,cap,cur,rfl,hge,hg,r1,r2,r3,r4⟩
 ·have:cs=[]:=List.length_eq_zero_iff.1 (by omega)
  subst this
  have hn:n=0:=h0
  subst hn
  exact⟨_,aF,M,ρ,rfl,After.below hw hbl,.sc _ rfl,hQ _ _ .nil (ae.refl _ _)⟩
 ·obtain⟨A,hA⟩:=hw
  obtain⟨tr,htr⟩:=iC cs .leaf 0 h1
  obtain⟨_,hget⟩:=dD _ _ _ htr
  obtain⟨_,hcell⟩:=sN htr
  have hblk:gq P (ρ.add A.next ⟨g,0,cap,1⟩) ⟨g,0,cap,1⟩ (.row n tr [] true T 0) (.cells cur T (0,0)):=by
   refine⟨cur,(0,0),rfl,⟨by show 0 + n≤_; omega,fun k x hx=>?_,fun k _ _=>by simp,fun h=>(by cases h),fun _=>⟨Nat.one_pos,by show cur.size=0 + cap * 1; omega,hsz⟩,rfl⟩⟩
   obtain⟨hk1,hk2⟩:=ja hx
   rw[hget,if_pos (by omega),Nat.sub_zero] at hk2
   obtain⟨v,hv,hvr⟩:=(hrel (ρ.add A.next ⟨g,0,cap,1⟩)).get hk2
   refine⟨v, ?_,hvr⟩
   show cur[0 + k]?=some v
   rw[Nat.zero_add,← Array.getElem?_toList]
   rw[← r4,Nat.mul_one,List.getElem?_take_of_lt (by omega)] at hv
   exact hv
  obtain⟨q1,q2⟩:=Kz hA.rel hbl (Nat.le_trans (show M.base.n≤M.lo from Nat.le_refl _) hA.size) (i:=⟨g,0,cap,1⟩) hge hg hblk
  obtain⟨k1,k2,k3⟩:=RM.tF hA (x:=.row cs true T 0) (y:=.row n tr [] true T 0) ⟨hlen,rfl,rfl,rfl,fun k v hk=>by rw[← hlen]; exact hcell k v hk⟩
  have hnx:=hA.next
  refine⟨_,.slc M.next 0 n (.op 1),M.push (.row cs true T 0),_,rfl,fZ hA q2 q1 k1 k2 (by simp[AW.push]) k3, ?_,hQ _ _ (.op M.next n cs (Nat.le_refl _) (by simp[RM.push]) (RM.lG _) (by omega)) ((ae.refl _ _).push _)⟩
  have:=ag.iK (ρ:=ρ.add A.next ⟨g,0,cap,1⟩) M.next 0 n ⟨g,0,cap,1⟩ (by rw[← hnx]; simp[Ren.add]) (by show 0 + n≤cap; omega)
  simpa using this
end
end Go.Ab
set_option maxRecDepth 10000
namespace Go.Ab.Hw
open Go Go.Ab Go.Ab.Sm
end Go.Ab.Hw
namespace Go.Ab.Hw
open Go Go.Ab
theorem zG (t:Str) : ∀ {s a r:Str},crlf s=some (a,r)→crlf (s++t)=some (a,r++t)
 | [],a,r,h=>by simp[crlf] at h
 | [_],a,r,h=>by simp[crlf] at h
 | x :: y :: s,a,r,h=>by
   rw[crlf] at h
   rw[List.cons_append,List.cons_append,crlf]
   cases hc:x == 13 && y == 10
   ·rw[hc] at h
    dsimp only at h ⊢
    cases hs:crlf (y :: s) with
    | none=>rw[hs] at h; cases h
    | some p =>
      rw[hs] at h
      obtain⟨a',r'⟩:=p
      cases h
      have:=zG t hs
      rw[List.cons_append] at this
      rw[this]
   ·rw[hc] at h
    cases h; rfl
theorem Es {t:Str} : ∀ {s a r:Str},crlf s=none→crlf (s++t)=some (a,r)→s.length≤a.length + 1
 | [],a,r,_,_=>by simp
 | [_],a,r,_,_=>by simp
 | x :: y :: s,a,r,h,k=>by
   rw[crlf] at h
   rw[List.cons_append,List.cons_append,crlf] at k
   cases hc:x == 13 && y == 10
   ·rw[hc] at h k
    dsimp only at h k
    cases hs:crlf (y :: s) with
    | some p=>rw[hs] at h; cases h
    | none =>
      cases hs2:crlf (y :: (s++t)) with
      | none=>rw[hs2] at k; cases k
      | some p =>
        rw[hs2] at k
        obtain⟨a',r'⟩:=p
        cases k
        have:=Es (t:=t) (s:=y :: s) (a:=a') (r:=r') hs (by rw[List.cons_append]; exact hs2)
        simp at this ⊢
        omega
   ·rw[hc] at h; cases h
theorem nE {b more s:Str} {at' n:Nat} (h:dP b at'=.ok (s,n)) : dP (b++more) at'=.ok (s,n):=by
 unfold dP at h ⊢
 cases hc:crlf ((b.take 2048).drop at') with
 | none=>rw[hc] at h; dsimp only at h; split at h <;> cases h
 | some p =>
   rw[hc] at h
   obtain⟨a,r⟩:=p
   cases h
   have hl:=(lK hc).2
   have hle:at'≤(b.take 2048).length:=by
    rcases Nat.lt_or_ge (b.take 2048).length at' with h | h
    ·have:((b.take 2048).drop at').length=0:=by rw[List.length_drop]; omega
     omega
    ·exact h
   have:((b++more).take 2048).drop at'=(b.take 2048).drop at'++more.take (2048 - b.length):=by
    rw[List.take_append,List.drop_append_of_le_length hle]
   rw[this,zG _ hc]
theorem wV {b more:Str} {at' e:Nat} (h:dP b at'=.error e) : e=15∨dP (b++more) at'=.error e:=by
 have h0:=h
 unfold dP at h
 cases hc:crlf ((b.take 2048).drop at') with
 | some p=>rw[hc] at h; cases h
 | none =>
   rw[hc] at h
   dsimp only at h
   cases hb:Nat.blt b.length 2048 with
   | true=>rw[hb] at h; cases h; exact .inl rfl
   | false =>
     right
     have hge:2048≤b.length:=by
      rcases Nat.lt_or_ge b.length 2048 with h | h
      ·rw[pG h] at hb; cases hb
      ·exact h
     rw[← h0]
     unfold dP
     rw[List.take_append_of_le_length hge,hb,jK (show ¬ (b++more).length<2048 by simp; omega)]
theorem DF (b more:Str) : ∀ (f at' : Nat) (l:List Hd),(∀ p,hloop b f at' l=.ok p→hloop (b++more) f at' l=.ok p)∧(∀ e,hloop b f at' l=.error e→e=15∨hloop (b++more) f at' l=.error e):=by
 intro f
 induction f with
 | zero =>
   intro at' l
   refine⟨fun p h=>?_,fun e h=>?_⟩
   ·rw[dY] at h ⊢
    cases hl:dP b at' with
    | error e=>rw[hl] at h; cases h
    | ok q =>
      obtain⟨s,n⟩:=q
      rw[nE hl]
      rw[hl] at h
      exact h
   ·rw[dY] at h
    rw[dY]
    cases hl:dP b at' with
    | error e' =>
      rw[hl] at h
      cases h
      rcases wV (more:=more) hl with h | h
      ·exact .inl h
      ·right; rw[h]
    | ok q =>
      obtain⟨s,n⟩:=q
      rw[nE hl]
      rw[hl] at h
      exact .inr h
 | succ f ih =>
   intro at' l
   refine⟨fun p h=>?_,fun e h=>?_⟩
   ·rw[dY] at h ⊢
    cases hl:dP b at' with
    | error e=>rw[hl] at h; cases h
    | ok q =>
      obtain⟨s,n⟩:=q
      rw[nE hl]
      rw[hl] at h
      dsimp only at h ⊢
      cases s with
      | nil=>exact h
      | cons x xs =>
        dsimp only at h ⊢
        cases hh:ek (x :: xs) with
        | none=>rw[hh] at h; cases h
        | some d=>rw[hh] at h; exact(ih n _).1 p h
   ·rw[dY] at h
    rw[dY]
    cases hl:dP b at' with
    | error e' =>
      rw[hl] at h
      cases h
      rcases wV (more:=more) hl with h | h
      ·exact .inl h
      ·right; rw[h]
    | ok q =>
      obtain⟨s,n⟩:=q
      rw[nE hl]
      rw[hl] at h
      dsimp only at h ⊢
      cases s with
      | nil=>cases h
      | cons x xs =>
        dsimp only at h ⊢
        cases hh:ek (x :: xs) with
        | none=>rw[hh] at h; exact .inr h
        | some d=>rw[hh] at h; exact(ih n _).2 e h
theorem Dr (p:Str→Bool) (b more:Str) : (∀ q,headD p b=.ok q→headD p (b++more)=.ok q)∧(∀ e,headD p b=.error e→e=15∨headD p (b++more)=.error e):=by
 refine⟨fun q h=>?_,fun e h=>?_⟩
 ·unfold headD at h ⊢
  cases hl:dP b 0 with
  | error e=>rw[hl] at h; cases h
  | ok x =>
    obtain⟨s,n⟩:=x
    rw[nE hl]
    rw[hl] at h
    dsimp only at h ⊢
    cases hp:p s with
    | false=>rw[hp] at h; cases h
    | true =>
      rw[hp] at h
      dsimp only at h ⊢
      cases hh:hloop b 32 n [] with
      | error e=>rw[hh] at h; cases h
      | ok y=>rw[(DF b more 32 n []).1 y hh]; rw[hh] at h; exact h
 ·unfold headD at h ⊢
  cases hl:dP b 0 with
  | error e' =>
    rw[hl] at h
    cases h
    rcases wV (more:=more) hl with h | h
    ·exact .inl h
    ·right; rw[h]
  | ok x =>
    obtain⟨s,n⟩:=x
    rw[nE hl]
    rw[hl] at h
    dsimp only at h ⊢
    cases hp:p s with
    | false=>rw[hp] at h; exact .inr h
    | true =>
      rw[hp] at h
      dsimp only at h ⊢
      cases hh:hloop b 32 n [] with
      | ok y=>rw[hh] at h; cases h
      | error e' =>
        rw[hh] at h
        cases h
        rcases(DF b more 32 n []).2 _ hh with h | h
        ·exact .inl h
        ·right; rw[h]
theorem DI (r more:Str) : (∀ n q,iU r=.ok (n,q)→iU (r++more)=.ok (n,q++more))∧(∀ e,iU r=.error e→e=15∨iU (r++more)=.error e):=by
 unfold iU
 cases hc:crlf r with
 | some p =>
   obtain⟨a,q⟩:=p
   rw[zG more hc]
   dsimp only
   cases jC a with
   | true=>exact⟨fun n q' h=>(by cases h; rfl),fun e h=>by cases h⟩
   | false=>exact⟨fun n q' h=>(by cases h),fun e h=>.inr h⟩
 | none =>
   dsimp only
   refine⟨fun n q h=>(by split at h <;> cases h),fun e h=>?_⟩
   cases hb:Nat.blt 10 r.length with
   | false=>rw[hb] at h; cases h; exact .inl rfl
   | true =>
     rw[hb] at h
     cases h
     right
     have hgt:10<r.length:=by rw[Nat.blt_eq] at hb; exact hb
     cases hc2:crlf (r++more) with
     | none=>rw[pG (show 10<(r++more).length by simp; omega)]
     | some p =>
       obtain⟨a,q⟩:=p
       have hf:=Es hc hc2
       have:jC a=false:=by
        cases ho:jC a
        ·rfl
        ·unfold jC ig at ho
         simp only[Bool.and_eq_true,decide_eq_true_eq] at ho
         omega
       dsimp only
       rw[this]
theorem xA (more:Str) : ∀ (f:Nat) (r out:Str),r.length<f→(∀ o q,bn f r out=.ok (o,q)→∀ g,(r++more).length<g→bn g (r++more) out=.ok (o,q++more))∧(∀ e,bn f r out=.error e→e=15∨∀ g,(r++more).length<g→bn g (r++more) out=.error e)
 | 0,r,out,h=>absurd h (by omega)
 | f + 1,r,out,hf=>by
   rw[bn]
   cases hs:iU r with
   | error e =>
     refine⟨fun o q h=>(by cases h),fun e' h=>?_⟩
     cases h
     rcases(DI r more).2 _ hs with h | h
     ·exact .inl h
     ·right
      intro g hg
      obtain⟨g',rfl⟩ : ∃ g',g=g' + 1:=⟨g - 1,by omega⟩
      rw[bn,h]
   | ok p =>
     obtain⟨n,r1⟩:=p
     have hlen:=Dv hs
     have hx:=(DI r more).1 n r1 hs
     dsimp only
     have un:∀ g,(r++more).length<g→∃ g',g=g' + 1∧(r++more).length≤g':=fun g hg=>⟨g - 1,by omega,by omega⟩
     cases h1:Nat.blt (16384 - out.length) n with
     | true =>
       refine⟨fun o q h=>(by cases h),fun e' h=>.inr fun g hg=>?_⟩
       obtain⟨g',rfl,_⟩:=un g hg
       rw[bn,hx]
       dsimp only
       rw[h1]; exact h
     | false =>
       dsimp only
       cases h2:Nat.blt r1.length (n + 2) with
       | true=>exact⟨fun o q h=>(by cases h),fun e' h=>by cases h; exact .inl rfl⟩
       | false =>
         dsimp only
         have hge:n + 2≤r1.length:=by
          rcases Nat.lt_or_ge r1.length (n + 2) with h | h
          ·rw[pG h] at h2; cases h2
          ·exact h
         have h2' : Nat.blt (r1++more).length (n + 2)=false:=jK (by simp; omega)
         have hd:(r1++more).drop n=r1.drop n++more:=List.drop_append_of_le_length (by omega)
         have hd2:((r1++more).drop n).take 2=(r1.drop n).take 2:=by rw[hd,List.take_append_of_le_length (by simp; omega)]
         cases h3:(r1.drop n).take 2 == [13,10] with
         | false =>
           refine⟨fun o q h=>(by cases h),fun e' h=>.inr fun g hg=>?_⟩
           obtain⟨g',rfl,_⟩:=un g hg
           rw[bn,hx]
           dsimp only
           rw[h1]; dsimp only
           rw[h2']; dsimp only
           rw[hd2,h3]; exact h
         | true =>
           dsimp only
           cases h4:Nat.beq n 0 with
           | true =>
             have hn:n=0:=Nat.eq_of_beq_eq_true h4
             refine⟨fun o q h g hg=>?_,fun e' h=>by cases h⟩
             obtain⟨g',rfl,_⟩:=un g hg
             cases h
             rw[bn,hx]
             dsimp only
             rw[h1]; dsimp only
             rw[h2']; dsimp only
             rw[hd2,h3]; dsimp only
             rw[h4,List.drop_append_of_le_length (by omega)]
           | false =>
             dsimp only
             have hd3:(r1++more).drop (n + 2)=r1.drop (n + 2)++more:=List.drop_append_of_le_length hge
             have ht:(r1++more).take n=r1.take n:=List.take_append_of_le_length (by omega)
             have ih:=xA more f (r1.drop (n + 2)) (out++r1.take n) (by simp; omega)
             have step:∀ g',bn (g' + 1) (r++more) out=bn g' (r1.drop (n + 2)++more) (out++r1.take n):=fun g'=>by
              rw[bn,hx]
              dsimp only
              rw[h1]; dsimp only
              rw[h2']; dsimp only
              rw[hd2,h3]; dsimp only
              rw[h4,hd3,ht]
             refine⟨fun o q h g hg=>?_,fun e' h=>?_⟩
             ·obtain⟨g',rfl,hg'⟩:=un g hg
              rw[step]
              exact ih.1 o q h g' (by simp at hg' ⊢; omega)
             ·rcases ih.2 e' h with h | h
              ·exact .inl h
              ·right
               intro g hg
               obtain⟨g',rfl,hg'⟩:=un g hg
               rw[step]
               exact h g' (by simp at hg' ⊢; omega)
theorem DN (r more:Str) (l:List Hd) : (∀ o q,mh r l=.ok (o,q)→mh (r++more) l=.ok (o,q++more))∧(∀ e,mh r l=.error e→e=15∨mh (r++more) l=.error e):=by
 unfold mh
 cases bO l BH with
 | cons x xs =>
   cases xs with
   | cons y ys=>exact⟨fun o q h=>(by cases h),fun e h=>.inr h⟩
   | nil =>
     dsimp only
     cases low x == BF with
     | false=>exact⟨fun o q h=>(by cases h),fun e h=>.inr h⟩
     | true =>
       dsimp only
       cases bO l yR with
       | cons y ys=>exact⟨fun o q h=>(by cases h),fun e h=>.inr h⟩
       | nil =>
         have ih:=xA more (r.length + 1) r [] (by omega)
         refine⟨fun o q h=>ih.1 o q h _ (by omega),fun e h=>?_⟩
         rcases ih.2 e h with h | h
         ·exact .inl h
         ·exact .inr (h _ (by omega))
 | nil =>
   dsimp only
   cases bO l yR with
   | nil=>exact⟨fun o q h=>(by cases h; rfl),fun e h=>by cases h⟩
   | cons v vs =>
     cases vs with
     | cons y ys=>exact⟨fun o q h=>(by cases h),fun e h=>.inr h⟩
     | nil =>
       dsimp only
       cases vB v with
       | false=>exact⟨fun o q h=>(by cases h),fun e h=>.inr h⟩
       | true =>
         dsimp only
         cases Nat.blt 16384 (gB v) with
         | true=>exact⟨fun o q h=>(by cases h),fun e h=>.inr h⟩
         | false =>
           dsimp only
           cases h2:Nat.blt r.length (gB v) with
           | true=>exact⟨fun o q h=>(by cases h),fun e h=>by cases h; exact .inl rfl⟩
           | false =>
             have hge:gB v≤r.length:=by
              rcases Nat.lt_or_ge r.length (gB v) with h | h
              ·rw[pG h] at h2; cases h2
              ·exact h
             rw[jK (show ¬ (r++more).length<gB v by simp; omega)]
             refine⟨fun o q h=>?_,fun e h=>by cases h⟩
             cases h
             rw[List.take_append_of_le_length hge,List.drop_append_of_le_length hge]
theorem FB {b s:Str} {at' n:Nat} (h:dP b at'=.ok (s,n)) : n≤b.length∧n=at' + s.length + 2:=by
 unfold dP at h
 cases hc:crlf ((b.take 2048).drop at') with
 | none=>rw[hc] at h; dsimp only at h; split at h <;> cases h
 | some p =>
   rw[hc] at h
   obtain⟨a,r⟩:=p
   cases h
   have hl:=(lK hc).2
   simp at hl
   exact⟨by show at' + a.length + 2≤_; omega,rfl⟩
theorem LU (b:Str) : ∀ (f at' : Nat) (l l' : List Hd) (n:Nat),hloop b f at' l=.ok (l',n)→n≤b.length:=by
 intro f
 induction f with
 | zero =>
   intro at' l l' n h
   rw[dY] at h
   split at h
   ·cases h
   ·rename_i hl
    split at h
    ·cases h; exact(FB hl).1
    ·cases h
 | succ f ih =>
   intro at' l l' n h
   rw[dY] at h
   split at h
   ·cases h
   ·rename_i hl
    split at h
    ·cases h; exact(FB hl).1
    ·dsimp only at h
     split at h
     ·cases h
     ·exact ih _ _ _ _ h
theorem Ls {p:Str→Bool} {b s:Str} {l:List Hd} {n:Nat} (h:headD p b=.ok (s,l,n)) : n≤b.length:=by
 unfold headD at h
 split at h
 ·cases h
 ·split at h
  ·cases h
  ·split at h
   ·cases h
   ·rename_i hh
    cases h
    exact LU b _ _ _ _ _ hh
theorem sj (b more:Str) : (∀ x r,fB b=.ok (x,r)→fB (b++more)=.ok (x,r++more))∧(∀ e,fB b=.error e→e=15∨fB (b++more)=.error e):=by
 unfold fB
 cases hh:headD oM b with
 | error e =>
   refine⟨fun x r h=>(by cases h),fun e' h=>?_⟩
   cases h
   rcases(Dr oM b more).2 _ hh with h | h
   ·exact .inl h
   ·right; rw[h]
 | ok q =>
   obtain⟨s,l,n⟩:=q
   rw[(Dr oM b more).1 _ hh]
   have hn:=Ls hh
   dsimp only
   rw[List.drop_append_of_le_length hn]
   cases hb:mh (b.drop n) l with
   | error e =>
     refine⟨fun x r h=>(by cases h),fun e' h=>?_⟩
     cases h
     rcases(DN (b.drop n) more l).2 _ hb with h | h
     ·exact .inl h
     ·right; rw[h]
   | ok y =>
     obtain⟨o,r⟩:=y
     rw[(DN (b.drop n) more l).1 _ _ hb]
     dsimp only
     cases ji s with
     | none=>exact⟨fun x r h=>(by cases h),fun e h=>.inr h⟩
     | some w=>exact⟨fun x r h=>(by cases h; rfl),fun e h=>by cases h⟩
end Go.Ab.Hw
namespace Go.Ab
open Go Go.RowKit
variable {H:Type} {enc:TypeId × Value→H}
theorem yM {a:Assume} {C:Checked} {os:Os} {f:FuncId} {fn:Func} {s:ChangeSpec} {conds:List PathCond} {apart fresh handsOn again:Bool} {X:World→Array Value→Prop}
  (hX:∀ (w w' : World) (args:Array Value),w.heap=w'.heap→X w args→X w' args)
  (own:ownKnob C.prog.godebug=none) (started:os.Started) (noInit:C.prog.inits.idxOf? f=none) (hfn:C.prog.funcs[f]?=some fn)
  (witness:∃ (w:World) (tape:Tape) (i:Input),w.os=os∧(w.forCall tape i).Shaped C.prog∧i.vars=[]∧Input.okWide C.prog (w.forCall tape i) .any w.heap.size f i ∧
   ((s.pre enc C.prog fn conds apart (w.forCall tape i).memory i.args∧X (w.forCall tape i).memory i.args)∧sizedMet enc C.prog fn (OpenSpec.ofChange s) apart (w.forCall tape i).memory i.args)∧a.holds C.prog (lone (Frame.enter C.prog f i.args .normal) [] (w.forCall tape i)))
  (contract:∀ (W:World) (base:Nat) (args:Array Value) (ds gs:List (DataW H)) (before:List MemPlace),
   (∀ (j:Nat) t v,fn.params[j]?=some t→args[j]?=some v→Value.okWide C.prog W .any base t v) →
   DataW.Whole enc C.prog fn.params.toList s.vars apart W args.toList ds gs before →
   conds.all (PathCond.test C.prog ⟨fn.params.toList,ds,s.plain.varTypes C.prog,gs⟩)=true →
   (DataW.weightsEach C.prog (fn.params.toList++s.plain.varTypes C.prog) (ds++gs)).all (· ≤ reachBytes)=true→X W args →
   W.ShapedOpen C.prog →
   a.holds C.prog (lone (Frame.enter C.prog f args .normal) [] W) →
   Calls C.prog f args W fun e W'=>∃ v,e=.returned v∧s.post enc C.prog fn apart fresh handsOn again W args v W') :
  ReturnsInHanded a C os f .any (fun w args=>(s.pre enc C.prog fn conds apart w args∧X w args)∧sizedMet enc C.prog fn (OpenSpec.ofChange s) apart w args) (s.post enc C.prog fn apart fresh handsOn again):=by
 refine returnsInHanded_of_calls own started noInit witness ?_
 intro w tape i _ hsh _ hok hpre hholds
 obtain⟨_,_,_,fn',hfn',_,_,_,_,hval⟩:=hok
 have e:fn'=fn:=Option.some.inj (hfn'.symm.trans hfn)
 subst e
 obtain⟨⟨⟨ds,gs,before,hw,hc⟩,hx⟩,hz⟩:=hpre
 have hw':=DataW.Whole.of_heap (w':=w.forCall tape i) (by rfl) hw
 refine(contract (w.forCall tape i) w.heap.size i.args ds gs before hval hw' hc (hz.weights hw) (hX _ _ _ (by rfl) hx) hsh hholds).mono fun e W' ⟨v,he,hp⟩=>?_
 subst he
 exact ChangeSpec.post_blind hp
end Go.Ab
