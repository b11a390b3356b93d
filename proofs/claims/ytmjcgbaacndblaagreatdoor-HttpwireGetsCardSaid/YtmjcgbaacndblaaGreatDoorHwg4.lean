/- Part 4 of the ground of the proofs of this seat (texts H4 to R27). By an AI agent. -/
import Derived.Test.YtmjcgbaacndblaaGreatDoorHwg3
import Derived.Lib.SplitLaws
import Derived.Laws.AppendOwn
import Derived.HandedShaped
set_option maxRecDepth 10000
set_option linter.unusedVariables false
set_option linter.unusedSimpArgs false
namespace Go.Ab.Hw
open Go Go.Ab Go.Ab.Sm
open Go.Ab.Vl (brk ku oD fP fw iF gy zB)
def isNamed (n:Str) (h:Hd) : Bool:=low h.1 == low n
def bf (l:List Hd) (n:Str) : List Str:=(l.filter (isNamed n)).map (·.2)
theorem Ak {l:List Hd} {n:Str} {i:Nat} (hi:i<l.length) : bf (l.take (i + 1)) n=bf (l.take i) n++(if isNamed n l[i] then[l[i].2] else[]):=by
 unfold bf
 rw[List.take_succ_eq_append_getElem hi,List.filter_append,List.map_append]
 congr 1
 cases h:isNamed n l[i] <;> simp[h]
def Br (T:Nat) (c:ai) : Prop:=∀ {M:RM} {v:AV} {l:List Hd} {n:Str} {Q:ah},Sl HD M v l→l.length≤1000000→(∀ h∈l,h.1.length<4611686018427387904)→n.length<4611686018427387904 →
 (∀ v' M',Ow l9 M' M.next T v' (bf l n)→ae [] M M'→Q v' M')→c [v,St n] M Q
theorem Ja {TH T:Nat} {cs:ai} (hs:uw cs) : Br T fun args M Q=>∃ a0 a1,args=[a0,a1]∧kZ TH cs T a0 a1 M Q:=by
 intro M v l n Q hv hl hnl hn hQ
 refine⟨_,_,rfl, ?_⟩
 unfold kZ
 rw[aK.len hv]
 refine dF (fun m ys M3=>∃ (i:Nat) (o:AV),m=l.length - i∧ys=[o,N .i64 (i:Int)]∧i≤l.length∧Ow l9 M3 M.next T o (bf (l.take i) n)∧ae [] M M3) _ ⟨0,aH,rfl,rfl,Nat.zero_le _,.nil,ae.refl _ _⟩ ?_
 rintro next m ys M3 hnext ⟨i,o,rfl,rfl,hi,hO,k3⟩
 simp only[bz,dm,wB]
 refine dE (fun h=>?_) fun h=>?_
 ·have hlt:i<l.length:=by simpa using h
  have hv3:Sl HD M3 v l:=aK.keep hv k3 (by simp)
  obtain⟨b,off,hb,_,hix,hld⟩:=hv3.at 2 (i:Int) hlt
  rw[nD,hix,wF]
  refine⟨_,hld, ?_⟩
  simp only[aS]
  have n4:(M3.push (.row [St [],St []] false TH 0)).heap M3.next=some (.row [St [],St []] false TH 0):=by simp[RM.push]
  rw[jq n4 (by rfl) (by rfl) (by rfl)]
  have k4:ae [] M3 ((M3.push (.row [St [],St []] false TH 0)).put M3.next (.row (HD.cells l[i]) false TH 0)):=((ae.refl _ _).push _).new _ (Nat.le_refl _)
  have n5:((M3.push (.row [St [],St []] false TH 0)).put M3.next (.row (HD.cells l[i]) false TH 0)).heap M3.next=some (.row (HD.cells l[i]) false TH 0):=aM _
  have l5:M3.next<((M3.push (.row [St [],St []] false TH 0)).put M3.next (.row (HD.cells l[i]) false TH 0)).next:=by simp[RM.push,RM.put]
  generalize (M3.push (.row [St [],St []] false TH 0)).put M3.next (.row (HD.cells l[i]) false TH 0)=M4 at *
  rw[jK,bu n5 (by rfl:(HD.cells l[i])[0]?=some (St l[i].1))]
  refine hs (by have:=hnl l[i] (List.getElem_mem hlt); omega) fun M5 k5=>?_
  refine hs (by omega) fun M6 k6=>?_
  have k46:=k4.trans (k5.trans k6)
  have n6:=(k5.trans k6).aO n5 l5 (by simp)
  simp only[df,add1 (show i<4611686018427387904 by omega)]
  have nt:=Ak (n:=n) hlt
  refine dE (fun h=>?_) fun h=>?_
  ·have hin:isNamed n l[i]=true:=h
   rw[hin,if_pos rfl] at nt
   rw[jK,bu n6 (by rfl:(HD.cells l[i])[1]?=some (St l[i].2)),xM (by rfl) (by rfl) (by rfl)]
   simp only[aS]
   have hO6:Ow l9 M6 M.next T o (bf (l.take i) n):=hO.keep k46 (by simp)
   have hlen:(bf (l.take i) n).length≤1000000:=by
    unfold bf
    rw[List.length_map]
    refine Nat.le_trans (List.length_filter_le _ _) ?_
    simp; omega
   refine wV (E:=l9) (a:=l[i].2) hO6 (Nat.le_trans k3.next k46.next) (by decide) (by omega) (by omega) fun v7 M7 o7 k7 _ _=>?_
   refine hnext _ _ _ (by omega) ⟨i + 1,v7,rfl,rfl,by omega,by rw[nt]; exact o7, ?_⟩
   have kk:=k3.trans k46
   refine⟨k7.base.trans kk.base,Nat.le_trans kk.next k7.next,fun x hx hb=>?_⟩
   rw[k7.heap x (Nat.lt_of_lt_of_le hx kk.next) (fun h=>by have:=(hO6.blk x h).1; omega),kk.heap x hx hb]
  ·have hin:isNamed n l[i]=false:=h
   rw[hin,if_neg (by decide),List.append_nil] at nt
   exact hnext _ _ _ (by omega) ⟨i + 1,o,rfl,rfl,by omega,by rw[nt]; exact hO.keep k46 (by simp),k3.trans k46⟩
 ·have:i=l.length:=by simp at h; omega
  subst this
  rw[List.take_length] at hO
  exact hQ o M3 hO k3
def jo:List Str→AV
 | []=>.tup [St [],Bo false]
 | s :: _=>.tup [St s,Bo true]
def Hq (c:ai) : Prop:=∀ {M:RM} {v:AV} {l:List Hd} {n:Str} {Q:ah},Sl HD M v l→l.length≤1000000→(∀ h∈l,h.1.length<4611686018427387904)→n.length<4611686018427387904 →
 (∀ M',ae [] M M'→Q (jo (bf l n)) M')→c [v,St n] M Q
theorem Iu {T:Nat} {cn:ai} (hn:Br T cn) : Hq fun args M Q=>∃ a0 a1,args=[a0,a1]∧lv cn a0 a1 M Q:=by
 intro M v l n Q hv hl h1 h2 hQ
 refine⟨_,_,rfl, ?_⟩
 unfold lv
 refine hn hv hl h1 h2 fun v' M1 o k1=>?_
 have hs:Sl l9 M1 v' (bf l n):=Own.oq o
 rw[hs.len,eD]
 have hQ:=hQ M1 k1
 generalize bf l n=xs at *
 cases xs with
 | nil =>
   rw[show decide ((([] : List Str).length:Int) > 0)=false from rfl,bg]
   exact hQ
 | cons x xs =>
   rw[show decide (((x :: xs).length:Int) > 0)=true by simp,bS]
   obtain⟨b,o',_,_,hix,hld⟩:=hs.at 1 0 (i:=0) (by simp)
   rw[hix,dw]
   exact⟨_,dM.1 hld,hQ⟩
theorem FK {T:Nat} {cf:ai} (hf:Hq cf) {M:RM} {x y v:AV} {tl:List AV} {l:List Hd} {n:Str} {Q:ah} (hv:Sl HD M v l) (hl:l.length≤1000000) (h1:∀ h∈l,h.1.length<4611686018427387904) (h2:n.length<4611686018427387904)
  (hc:(x :: y :: v :: tl).all oneCell=true) (hQ:∀ M',ae [] M M'→Q (jo (bf l n)) M') : iH T cf (.agg (x :: y :: v :: tl)) (St n) M Q:=by
 unfold iH
 rw[lc hc (by simp)]
 simp only[aS]
 have k1:ae [] M (M.push (.row (x :: y :: v :: tl) false T 0)):=(ae.refl _ _).push _
 have n1:(M.push (.row (x :: y :: v :: tl) false T 0)).heap M.next=some (.row (x :: y :: v :: tl) false T 0):=by simp[RM.push]
 rw[jK,bu n1 (by rfl:(x :: y :: v :: tl)[2]?=some v)]
 refine hf (aK.keep hv k1 (by simp)) hl h1 h2 fun M2 k2=>?_
 have:=hQ M2 (k1.trans k2)
 generalize bf l n=xs at *
 cases xs <;> simpa only[jo,aX,aY] using this
theorem CR {T:Nat} {cf:ai} (hf:Hq cf) {M:RM} {x v:AV} {tl:List AV} {l:List Hd} {n:Str} {Q:ah} (hv:Sl HD M v l) (hl:l.length≤1000000) (h1:∀ h∈l,h.1.length<4611686018427387904) (h2:n.length<4611686018427387904)
  (hc:(x :: v :: tl).all oneCell=true) (hQ:∀ M',ae [] M M'→Q (jo (bf l n)) M') : gQ T cf (.agg (x :: v :: tl)) (St n) M Q:=by
 unfold gQ
 rw[lc hc (by simp)]
 simp only[aS]
 have k1:ae [] M (M.push (.row (x :: v :: tl) false T 0)):=(ae.refl _ _).push _
 have n1:(M.push (.row (x :: v :: tl) false T 0)).heap M.next=some (.row (x :: v :: tl) false T 0):=by simp[RM.push]
 rw[jK,bu n1 (by rfl:(x :: v :: tl)[1]?=some v)]
 refine hf (aK.keep hv k1 (by simp)) hl h1 h2 fun M2 k2=>?_
 have:=hQ M2 (k1.trans k2)
 generalize bf l n=xs at *
 cases xs <;> simpa only[jo,aX,aY] using this
def Ji (B:Base) (c:ai) : Prop:=∀ {M:RM} {v w:AV} {s:Str} {Q:ah},M.base=B→Bs M v s→Bs M w [13,10]→s.length≤1000000000 →
 (∀ a r v1 v2,crlf s=some (a,r)→Bs M v1 a→Q (.tup [v1,v2,Bo true]) M)→(crlf s=none→Q (.tup [v,aH,Bo false]) M)→c [v,w] M Q
theorem qa {s a r:Str} (h:crlf s=some (a,r)) : s=a++13 :: 10 :: r∧a.length + 2 + r.length=s.length:=by
 rcases uu s with⟨h1,_⟩ | ⟨a',r',h1,_,h3⟩
 ·rw[h] at h1; cases h1
 ·rw[h] at h1; cases h1
  refine⟨h3, ?_⟩
  rw[h3]; simp; omega
theorem Ko {B:Base} {ci:ai} (hi:A7 B ci) : Ji B fun args M Q=>∃ a0 a1,args=[a0,a1]∧r9 ci a0 a1 M Q:=by
 intro M v w s Q hB hv hw hl hQ hN
 refine⟨_,_,rfl, ?_⟩
 unfold r9
 refine hi hB hv hw hl ?_
 rcases uu s with⟨e1,e2⟩ | ⟨a,r,e1,e2,e3⟩
 ·rw[e2,dz,show decide ((-1:Int) ≥ 0)=false from rfl,bg]
  exact hN e1
 ·have hal:=(qa e1).2
  rw[e2,dz,show decide ((a.length:Int) ≥ 0)=true by simp,bS]
  refine hv.sub (Es 0) (kL _ _ _) (Nat.zero_le _) (by omega) fun v1 hv1 _=>?_
  rw[hw.len,addN (show a.length + ([13,10] : Str).length<4611686018427387904 by simp; omega)]
  refine hv.sub (kL _ _ _) (Es _) (by simp; omega) (Nat.le_refl _) fun v2 hv2 _=>?_
  refine hQ a r v1 v2 e1 ?_
  have:(s.drop 0).take (a.length - 0)=a:=by rw[e3]; simp
  rw[this] at hv1; exact hv1
def ll (x:UInt8) : Nat:=if x.toNat≤57 then x.toNat - 48 else if x.toNat≤90 then x.toNat - 55 else x.toNat - 87
def kE (s:Str) : Nat:=s.foldl (fun n x=>n * 16 + ll x) 0
def jg (s:Str) : Nat:=s.foldl (fun n x=>n * 10 + (x.toNat - 48)) 0
def Cq (c:ai) : Prop:=∀ {M:RM} {s:Str} {Q:ah},1≤s.length→s.length≤8→(low s).all kJ=true→(∀ M',ae [] M M'→Q (.tup [N .u64 (kE s:Int),.sc .nilIface]) M')→c [St s,N .i64 16,N .i64 64] M Q
def IK (c:ai) : Prop:=∀ {M:RM} {s:Str} {Q:ah},1≤s.length→s.length≤9→s.all dI=true→(∀ M',ae [] M M'→Q (.tup [N .i64 (jg s:Int),.sc .nilIface]) M')→c [St s] M Q
theorem Gv {x:UInt8} (h:kJ (bq x)=true) : ll x<16:=by
 unfold kJ dI at h
 unfold ll
 simp only[Bool.or_eq_true,Bool.and_eq_true,decide_eq_true_eq] at h
 have hx:=xB x
 have hl:(bq x).toNat=x.toNat∨((bq x).toNat=x.toNat + 32∧65≤x.toNat∧x.toNat≤90):=by
  unfold bq
  split
  ·right
   refine⟨?_,by omega,by omega⟩
   rw[UInt8.toNat_add]
   show(x.toNat + 32) % 256=_
   omega
  ·exact .inl rfl
 split
 ·omega
 ·split <;> omega
theorem Eu:∀ (s:Str) (n:Nat),(low s).all kJ=true→s.foldl (fun n x=>n * 16 + ll x) n<(n + 1) * 16 ^ s.length
 | [],n,_=>by simp
 | x :: s,n,h=>by
   simp only[low,List.map_cons,List.all_cons,Bool.and_eq_true] at h
   have hd:=Gv h.1
   have:=Eu s (n * 16 + ll x) h.2
   rw[List.foldl_cons]
   refine Nat.lt_of_lt_of_le this ?_
   rw[List.length_cons,Nat.pow_succ,Nat.mul_comm (16 ^ s.length) 16,← Nat.mul_assoc]
   exact Nat.mul_le_mul_right _ (by omega)
theorem Gi {s:Str} (h:(low s).all kJ=true) (hl:s.length≤8) : kE s<4294967296:=by
 have:=Eu s 0 h
 unfold kE
 refine Nat.lt_of_lt_of_le this ?_
 rw[Nat.zero_add,Nat.one_mul]
 exact Nat.le_trans (Nat.pow_le_pow_right (by decide) hl) (by decide)
def nY (s:Str) : Bool:=iU s 1 8 && (low s).all kJ
def nP (r:Str) : Except Nat (Nat × Str):=match crlf r with
 | none=>match Nat.blt 10 r.length with
   | true=>.error 14
   | false=>.error 15
 | some p=>match nY p.1 with
   | true=>.ok (kE p.1,p.2)
   | false=>.error 14
def I9 (B:Base) (c:ai) : Prop:=∀ {M:RM} {v:AV} {b:Str} {at' : Nat} {Q:ah},M.base=B→Bs M v b→at'≤b.length→b.length≤1000000000 →
 (∀ n r at2 M',nP (b.drop at')=.ok (n,r)→at2≤b.length→at' + 2<at2→b.drop at2=r→n<4294967296→ae [] M M'→Q (.tup [N .i64 (n:Int),N .i64 (at2:Int),N .i64 0]) M') →
 (∀ (e:Nat) M',nP (b.drop at')=.error e→(e=14∨e=15)→ae [] M M'→Q (.tup [N .i64 0,N .i64 0,N .i64 (e:Int)]) M')→c [v,N .i64 (at' : Int)] M Q
theorem J7 {B:Base} {T g:Nat} {cc cw cs ca cp:ai} (hc:Ji B cc) (hw:pF cw) (hs:uw cs) (ha:kI kJ (.fn (.func g) [] []) ca) (hp:Cq cp) :
  I9 B fun args M Q=>∃ a0 a1,args=[a0,a1]∧mi T cc cw cs ca g cp a0 a1 M Q:=by
 intro M v b at' Q hB hv h1 hl hQ hE
 refine⟨_,_,rfl, ?_⟩
 unfold mi
 refine hv.sub (kL _ _ _) (Es _) h1 (Nat.le_refl _) fun v1 hv1 _=>?_
 have hd:(b.drop at').take (b.length - at')=b.drop at':=List.take_of_length_le (by simp)
 rw[hd] at hv1
 refine E5 fun w M1 hw1 k1=>?_
 have hv2:=hv1.keep k1 (by simp)
 have hdl:(b.drop at').length=b.length - at':=by simp
 refine hc (k1.base.trans hB) hv2 hw1 (by rw[hdl]; omega) (fun a r u1 u2 hcr hu1=>?_) (fun hcr=>?_)
 ·have hlen:=(qa hcr).2
  simp only[aX,aY,eB,bX,Bool.not_true,bW,jc,dZ,bg]
  rw[hu1.str]
  refine hw ?_
  simp only[bX]
  -- the two tests
  have tail:∀ M2,ae [] M M2→Bs M2 u1 a→((ak (Bo (!nY a)) (Q (.tup [(N .i64 0),(N .i64 0),(N .i64 14)]) M2) (
    dV M2 u1 fun t44=>cp [t44,(N .i64 16),(N .i64 64)] M2 fun t45 yY=>aD t45 0 fun t46=>aD t45 1 fun t47=>gT .i64 t46 fun t49=>aU u1 fun t52=>af .add (N .i64 (at' : Int)) t52 fun t53=>af .add t53 (N .i64 2) fun t54=>Q (.tup [t49,t54,(N .i64 0)]) yY))):=by
   intro M2 k2 hu2
   refine dE (fun h=>?_) fun h=>?_
   ·have hk:nY a=false:=by simpa using h
    exact hE 14 M2 (by unfold nP; rw[hcr]; simp only[hk]) (.inl rfl) k2
   ·have hk:nY a=true:=by simpa using h
    have hk':=hk
    unfold nY iU at hk'
    simp only[Bool.and_eq_true,decide_eq_true_eq] at hk'
    rw[hu2.str]
    refine hp (by omega) (by omega) hk'.2 fun M3 k3=>?_
    have hlt:=Gi hk'.2 (by omega)
    simp only[aX,aY,kQ]
    rw[gB (by omega) (by omega),hu2.len,addN (by omega),show(N .i64 2)=(N .i64 ((2:Nat) : Int)) from rfl,addN (by omega)]
    refine hQ (kE a) r (at' + a.length + 2) M3 (by unfold nP; rw[hcr]; simp only[hk]) (by omega) (by omega) ?_ hlt (k2.trans k3)
    have e3:=(qa hcr).1
    rw[show at' + a.length + 2=at' + (a.length + 2) by omega,← List.drop_drop,e3,← List.drop_drop]
    simp
  cases hwi:iU a 1 8 with
  | false =>
    simp only[Bool.not_false,fE,dh]
    have:=tail M1 k1 hu1
    unfold nY at this
    rw[hwi] at this
    simpa only[Bool.false_and,Bool.not_false] using this
  | true =>
    simp only[Bool.not_true,dK,dZ]
    rw[hu1.str]
    refine hs (by omega) fun M2 k2=>?_
    refine ha (by rw[low,List.length_map]; omega) fun M3 k3=>?_
    have k23:=k2.trans k3
    have:=tail M3 (k1.trans k23) (hu1.keep k23 (by simp))
    unfold nY at this
    rw[hwi] at this
    simpa only[bX,Bool.true_and,dZ] using this
 ·simp only[aX,aY,eB,bX,Bool.not_false,bW,bT,dh]
  rw[hv2.len,eD,hdl]
  by_cases h10:10<b.length - at'
  ·rw[show decide (((b.length - at' : Nat) : Int) > 10)=true by simp; omega,bS]
   exact hE 14 M1 (by unfold nP; rw[hcr]; simp only[hdl]; rw[show Nat.blt 10 (b.length - at')=true by rw[Nat.blt_eq]; exact h10]) (.inl rfl) k1
  ·rw[show decide (((b.length - at' : Nat) : Int) > 10)=false by simp; omega,bg,bS]
   refine hE 15 M1 ?_ (.inr rfl) k1
   unfold nP; rw[hcr]; simp only[hdl]
   have:Nat.blt 10 (b.length - at')=false:=by
    cases h:Nat.blt 10 (b.length - at')
    ·rfl
    ·rw[Nat.blt_eq] at h; exact absurd h h10
   rw[this]
end Go.Ab.Hw
namespace Go.Ab.Hw
open Go Go.Ab Go.Ab.Sm
theorem ae.own {bs:List Nat} {M M1 M2:RM} {v:AV} (k1:ae bs M M1) (k2:ae (aN v) M1 M2) (hv:∀ b∈aN v,M.next≤b) : ae bs M M2 :=
 ⟨k2.base.trans k1.base,Nat.le_trans k1.next k2.next,fun x hx hb=>by
  rw[k2.heap x (Nat.lt_of_lt_of_le hx k1.next) (fun h=>by have:=hv x h; omega),k1.heap x hx hb]⟩
def dJ:Nat→Str→Str→Except Nat (Str × Str)
 | 0,_,_=>.error 99
 | f + 1,r,out=>match nP r with
   | .error e=>.error e
   | .ok (n,r1)=>match Nat.blt (16384 - out.length) n with
     | true=>.error 2
     | false=>match Nat.blt r1.length (n + 2) with
       | true=>.error 15
       | false=>match (r1.drop n).take 2 == [13,10] with
         | false=>.error 14
         | true=>match Nat.beq n 0 with
           | true=>.ok (out,r1.drop 2)
           | false=>dJ f (r1.drop (n + 2)) (out++r1.take n)
theorem AY {a b:Nat} (h:a<b) : Nat.blt a b=true:=by rw[Nat.blt_eq]; exact h
theorem ma {a b:Nat} (h:¬ a<b) : Nat.blt a b=false:=by
 cases e:Nat.blt a b
 ·rfl
 ·rw[Nat.blt_eq] at e; exact absurd e h
theorem Oh {n:Nat} (h:n≠0) : Nat.beq n 0=false:=by cases n <;> first | exact absurd rfl h | rfl
theorem JO {r r1:Str} {n:Nat} (h:nP r=.ok (n,r1)) : r1.length + 2<r.length:=by
 unfold nP at h
 split at h
 ·split at h <;> cases h
 ·rename_i p hp
  obtain⟨a,q⟩:=p
  have:=(qa hp).2
  split at h
  ·rename_i hk
   cases h
   unfold nY iU at hk
   simp only[Bool.and_eq_true,decide_eq_true_eq] at hk
   show q.length + 2<r.length
   omega
  ·cases h
theorem wM:∀ (f g:Nat) (r out:Str),r.length<f→r.length<g→dJ f r out=dJ g r out
 | 0,_,_,_,h,_=>absurd h (by omega)
 | _,0,_,_,_,h=>absurd h (by omega)
 | f + 1,g + 1,r,out,h1,h2=>by
   rw[dJ,dJ]
   cases hs:nP r with
   | error e=>rfl
   | ok p =>
     obtain⟨n,r1⟩:=p
     have:=JO hs
     dsimp only
     repeat' split
     all_goals first | rfl | skip
     exact wM f g _ _ (by simp; omega) (by simp; omega)
def yQ (B:Base) (T:Nat) (c:ai) : Prop:=∀ {M:RM} {v:AV} {b:Str} {at' : Nat} {Q:ah},M.base=B→Bs M v b→at'≤b.length→b.length≤1000000000 →
 (∀ out r at2 ov M',dJ (b.length - at' + 1) (b.drop at') []=.ok (out,r)→at2≤b.length→at'≤at2→b.drop at2=r→out.length≤16384→ae [] M M'→Ow BY M' M.next T ov out→Q (.tup [ov,N .i64 (at2:Int),N .i64 0]) M') →
 (∀ (e:Nat) M',dJ (b.length - at' + 1) (b.drop at') []=.error e→(e=14∨e=15∨e=2)→ae [] M M'→Q (.tup [aH,N .i64 0,N .i64 (e:Int)]) M')→c [v,N .i64 (at' : Int)] M Q
theorem Fj {B:Base} {T:Nat} {cs:ai} (hs:I9 B cs) : yQ B T fun args M Q=>∃ a0 a1,args=[a0,a1]∧jY cs T a0 a1 M Q:=by
 intro M v b at0 Q hB hv h0 hl hQ hE
 refine⟨_,_,rfl, ?_⟩
 unfold jY
 generalize hr0:dJ (b.length - at0 + 1) (b.drop at0) []=target at *
 refine dF (fun m ys M3=>∃ (at' : Nat) (ov:AV) (out:Str),ys=[N .i64 (at' : Int),ov]∧at'≤b.length∧at0≤at'∧m=b.length - at'∧out.length≤16384∧Ow BY M3 M.next T ov out∧ae [] M M3∧dJ (m + 1) (b.drop at') out=target) _
  ⟨at0,aH,[],rfl,h0,Nat.le_refl _,rfl,by simp,.nil,ae.refl _ _,hr0⟩ ?_
 rintro next m ys M3 hnext ⟨at',ov,out,rfl,h1,h2,rfl,hol,hO,k3,heq⟩
 simp only[bz,dm]
 have hv3:=hv.keep k3 (by simp)
 refine hs (k3.base.trans hB) hv3 h1 hl (fun n r at2 M4 e4 a1 a2 hr hn k4=>?_) (fun e M4 e4 he k4=>?_)
 rotate_left
 ·simp only[aX,aY,eB,iB]
  rw[show(((e:Nat) : Int) != 0)=true by rcases he with rfl | rfl <;> rfl,bS]
  refine hE e M4 ?_ (by omega) (k3.trans k4)
  rw[← heq,dJ,e4]
 simp only[aX,aY,eB,zJ,bg]
 have hO4:Ow BY M4 M.next T ov out:=hO.keep k4 (by simp)
 have k34:=k3.trans k4
 have hv4:=hv3.keep k4 (by simp)
 rw[hO4.oq.len,show(N .i64 16384)=N .i64 ((16384:Nat) : Int) from rfl,Hr hol (by omega),G7]
 have hrl:r.length=b.length - at2:=by rw[← hr]; simp
 refine dE (fun h=>?_) fun h=>?_
 ·have h:16384 - out.length<n:=by simpa using h
  refine hE 2 M4 ?_ (by omega) k34
  rw[← heq,dJ,e4]
  simp only[AY h]
 have hf1:¬ 16384 - out.length<n:=by simpa using h
 rw[show(N .i64 2)=N .i64 ((2:Nat) : Int) from rfl,addN (by omega),hv4.len,Hr a1 (by omega),G7]
 refine dE (fun h=>?_) fun h=>?_
 ·have h:b.length - at2<n + 2:=by simpa using h
  refine hE 15 M4 ?_ (by omega) k34
  rw[← heq,dJ,e4]
  simp only[ma hf1,hrl,AY h]
 have hf2:¬ b.length - at2<n + 2:=by simpa using h
 simp only[addN (show at2 + n<4611686018427387904 by omega),addN (show at2 + n + 2<4611686018427387904 by omega)]
 refine hv4.sub (kL _ _ _) (kL _ _ _) (by omega) (by omega) fun v5 hv5 _=>?_
 have hdr:(b.drop (at2 + n)).take (at2 + n + 2 - (at2 + n))=(r.drop n).take 2:=by
  rw[← hr,List.drop_drop,show at2 + n + 2 - (at2 + n)=2 by omega]
 rw[hdr] at hv5
 rw[hv5.str,yR]
 cases he2:(r.drop n).take 2 == [13,10] with
 | false =>
   rw[show((r.drop n).take 2 != [13,10])=true by unfold bne; rw[he2]; rfl,bS]
   refine hE 14 M4 ?_ (by omega) k34
   rw[← heq,dJ,e4]
   simp only[ma hf1,hrl,ma hf2,he2]
 | true =>
   rw[show((r.drop n).take 2 != [13,10])=false by unfold bne; rw[he2]; rfl,bg]
   rw[show(N .i64 0)=N .i64 ((0:Nat) : Int) from rfl,Rs]
   refine dE (fun h=>?_) fun h=>?_
   ·have h0:n=0:=by simpa using h
    subst h0
    refine hQ out (r.drop 2) (at2 + 0 + 2) ov M4 ?_ (by omega) (by omega) ?_ hol k34 hO4
    ·rw[← heq,dJ,e4]
     simp only[ma hf1,hrl,ma hf2,he2]
     try rfl
    ·rw[← hr,List.drop_drop,Nat.add_zero]
   ·have hn0:n≠0:=by simpa using h
    refine hv4.sub (kL _ _ _) (kL _ _ _) (by omega) (by omega) fun v6 hv6 hsub6=>?_
    have htk:(b.drop at2).take (at2 + n - at2)=r.take n:=by rw[hr,Nat.add_sub_cancel_left]
    rw[htk] at hv6
    have htl:(r.take n).length=n:=by simp; omega
    refine pq (E:=BY) hO4 k34.next (by decide) hv6.sl (by rw[htl]; omega) (by rw[htl]; omega) fun v7 M7 o7 k7 _ _=>?_
    refine hnext _ _ _ (show b.length - (at2 + n + 2)<b.length - at' by omega) ⟨at2 + n + 2,v7,out++r.take n,rfl,by omega,by omega,rfl,by rw[List.length_append,htl]; omega,o7,ae.own k34 k7 (fun x hx=>(hO4.blk x hx).1), ?_⟩
    have hd:b.drop (at2 + n + 2)=r.drop (n + 2):=by rw[← hr,List.drop_drop,Nat.add_assoc]
    rw[← heq,hd]
    conv=>rhs; rw[dJ,e4]
    simp only[ma hf1,hrl,ma hf2,he2,Oh hn0]
    exact wM _ _ _ _ (by simp; omega) (by simp; omega)
end Go.Ab.Hw
set_option maxRecDepth 100000
namespace Go.Ab.Dot
open Go Go.Ab
def qF (p1:Nat) (a0:AV) (M0:RM) (Q:ah) : Prop:=fV false 2 a0 (.sc (.slice none 0 0)) fun h=>ak h ( Q (.sc (.slice none 0 0)) M0) ( dB p1 0 [(N .u8 0)] [] fun g e=>bn g e M0 fun i c=>appW p1 1 1 [(N .u8 0)] false i a0 c fun j d=>Q j d)
end Go.Ab.Dot
set_option maxRecDepth 10000
namespace Go.Ab.Hw
open Go Go.Ab Go.Ab.Sm
def FI (T:Nat) (c:ai) : Prop:=∀ {M:RM} {v:AV} {s:Str} {Q:ah},Sl BY M v s→s.length≤1000000000→(∀ v' M',Ow BY M' M.next T v' s→ae [] M M'→Q v' M')→c [v] M Q
theorem Hg {T:Nat} : FI T fun args M Q=>∃ a0,args=[a0]∧Go.Ab.Dot.qF T a0 M Q:=by
 intro M v s Q hv hl hQ
 refine⟨_,rfl, ?_⟩
 unfold Go.Ab.Dot.qF
 rcases aK.ug hv false with⟨rfl,he⟩ | ⟨hne,he⟩
 ·rw[he,show(!false)=true from rfl,bS]
  have:s=[]:=by
   unfold Sl at hv
   cases s with
   | nil=>rfl
   | cons x s=>generalize hcs:BY.row (x :: s)=cs at *; generalize hn:(x :: s).length=n at *; cases hv; cases hcs
  subst this
  exact hQ aH M .nil (ae.refl _ _)
 ·rw[he,bg,Hm]
  simp only[aS]
  have k1:ae [] M (M.push (.row [] false T 0)):=(ae.refl _ _).push _
  refine pq (E:=BY) (Ow.lit BY M) (by simp[RM.push]) (by decide) (aK.keep hv k1 (by simp)) (by simp; omega) (by simp; omega) fun v7 M7 o7 k7 _ _=>?_
  refine hQ v7 M7 (by simpa using o7) ?_
  refine ae.own k1 k7 (fun b hb=>?_)
  simp[aN] at hb; omega
abbrev CQ:Str:=[116,114,97,110,115,102,101,114,45,101,110,99,111,100,105,110,103]
abbrev CS:Str:=[99,111,110,116,101,110,116,45,108,101,110,103,116,104]
abbrev CO:Str:=[99,104,117,110,107,101,100]
def xK (v:Str) : Bool:=iU v 1 9 && v.all dI
def AJ (r:Str) (l:List Hd) : Except Nat (Str × Str):=match bf l CQ with
 | x :: xs=>match xs with
   | _ :: _=>.error 14
   | []=>match low x == CO with
     | false=>.error 14
     | true=>match bf l CS with
       | _ :: _=>.error 14
       | []=>dJ (r.length + 1) r []
 | []=>match bf l CS with
   | []=>.ok ([],r)
   | v :: vs=>match vs with
     | _ :: _=>.error 14
     | []=>match xK v with
       | false=>.error 14
       | true=>match Nat.blt 16384 (jg v) with
         | true=>.error 2
         | false=>match Nat.blt r.length (jg v) with
           | true=>.error 15
           | false=>.ok (r.take (jg v),r.drop (jg v))
def DW (B:Base) (T:Nat) (c:ai) : Prop:=∀ {M:RM} {v hv:AV} {b:Str} {l:List Hd} {at' : Nat} {Q:ah},M.base=B→Bs M v b→at'≤b.length→b.length≤1000000000→Sl HD M hv l→l.length≤1000000→(∀ h∈l,h.1.length<4611686018427387904∧h.2.length<4611686018427387904) →
 (∀ out r at2 ov M',AJ (b.drop at') l=.ok (out,r)→at2≤b.length→at'≤at2→b.drop at2=r→out.length≤16384→ae [] M M'→Ow BY M' M.next T ov out→Q (.tup [ov,N .i64 (at2:Int),N .i64 0]) M') →
 (∀ (e:Nat) M',AJ (b.drop at') l=.error e→(e=14∨e=15∨e=2)→ae [] M M'→Q (.tup [aH,N .i64 0,N .i64 (e:Int)]) M')→c [v,N .i64 (at' : Int),hv] M Q
theorem Kz {l:List Hd} {n s:Str} (h:s∈bf l n) : ∃ x∈l,x.2=s:=by
 unfold bf at h
 rw[List.mem_map] at h
 obtain⟨x,hx,e⟩:=h
 exact⟨x,(List.mem_filter.1 hx).1,e⟩
theorem Ew:∀ (s:Str) (n:Nat),s.all dI=true→s.foldl (fun n x=>n * 10 + (x.toNat - 48)) n<(n + 1) * 10 ^ s.length
 | [],n,_=>by simp
 | x :: s,n,h=>by
   simp only[List.all_cons,Bool.and_eq_true] at h
   have hd:x.toNat - 48<10:=by
    have:=h.1
    unfold dI at this
    simp only[Bool.and_eq_true,decide_eq_true_eq] at this
    omega
   have:=Ew s (n * 10 + (x.toNat - 48)) h.2
   rw[List.foldl_cons]
   refine Nat.lt_of_lt_of_le this ?_
   rw[List.length_cons,Nat.pow_succ,Nat.mul_comm (10 ^ s.length) 10,← Nat.mul_assoc]
   exact Nat.mul_le_mul_right _ (by omega)
theorem Nc {s:Str} (h:s.all dI=true) (hl:s.length≤9) : jg s<1000000000:=by
 have:=Ew s 0 h
 unfold jg
 refine Nat.lt_of_lt_of_le this ?_
 rw[Nat.zero_add,Nat.one_mul]
 exact Nat.le_trans (Nat.pow_le_pow_right (by decide) hl) (by decide)
theorem Kk {B:Base} {T TS g:Nat} {cn cs cc cw ca ci cl:ai} (hn:Br TS cn) (hs:uw cs) (hc:yQ B T cc) (hw:pF cw) (ha:kI dI (.fn (.func g) [] []) ca) (hi:IK ci) (hcl:FI T cl) :
  DW B T fun args M Q=>∃ a0 a1 a2,args=[a0,a1,a2]∧mh cn cs cc cw ca g ci cl a0 a1 a2 M Q:=by
 intro M v hv b l at' Q hB hb h1 hl hh hll hnl hQ hE
 refine⟨_,_,_,rfl, ?_⟩
 unfold mh
 have hval:∀ {n s},s∈bf l n→s.length<4611686018427387904:=fun hm=>by
  obtain⟨x,hx,rfl⟩:=Kz hm
  exact(hnl x hx).2
 have hrl:(b.drop at').length=b.length - at':=by simp
 refine hn hh hll (fun h hx=>(hnl h hx).1) (by decide) fun v1 M1 o1 k1=>?_
 refine hn (aK.keep hh k1 (by simp)) hll (fun h hx=>(hnl h hx).1) (by decide) fun v2 M2 o2 k2=>?_
 have k12:=k1.trans k2
 have s1:Sl l9 M2 v1 (bf l CQ):=aK.keep (Own.oq o1) k2 (by simp)
 have s2:Sl l9 M2 v2 (bf l CS):=Own.oq o2
 have PL := @hval CQ
 have Pj := @hval CS
 unfold AJ at hQ hE
 rw[hrl] at hQ hE
 change Sl l9 M2 v1 (bf l CQ) at s1
 generalize bf l CQ=xs at *
 generalize bf l CS=ys at *
 rw[s1.len,eD]
 cases xs with
 | cons x xs =>
   rw[show decide (((x :: xs).length:Int) > 0)=true by simp,bS,s1.len,eD]
   simp only[bW]
   cases xs with
   | cons x2 xs =>
     rw[show decide (((x :: x2 :: xs).length:Int) > 1)=true by simp; omega]
     simp only[fE,dh,bS]
     exact hE 14 M2 rfl (.inl rfl) k12
   | nil =>
     rw[show decide ((([x] : List Str).length:Int) > 1)=false from rfl]
     simp only[dK,dZ]
     obtain⟨b0,o0,_,_,hix,hld⟩:=s1.at 1 0 (i:=0) (by simp)
     rw[hix,dw]
     refine⟨_,dM.1 hld, ?_⟩
     refine hs (by have:=PL (List.mem_singleton.2 rfl); simpa using (by omega:x.length<9223372036854775807)) fun M3 k3=>?_
     simp only[List.getElem_cons_zero,yR]
     cases hlow:low x == CO with
     | false =>
       rw[show(low x != CO)=true by unfold bne; rw[hlow]; rfl]
       simp only[fE,dh,bS]
       exact hE 14 M3 (by simp only[hlow]) (.inl rfl) (k12.trans k3)
     | true =>
       rw[show(low x != CO)=false by unfold bne; rw[hlow]; rfl]
       simp only[dK,dZ]
       have s23:Sl l9 M3 v2 ys:=aK.keep s2 k3 (by simp)
       rw[s23.len,eD]
       cases ys with
       | cons y ys =>
         rw[show decide (((y :: ys).length:Int) > 0)=true by simp,bS]
         exact hE 14 M3 (by simp only[hlow]) (.inl rfl) (k12.trans k3)
       | nil =>
         rw[show decide ((([] : List Str).length:Int) > 0)=false from rfl,bg]
         have k13:=k12.trans k3
         refine hc (k13.base.trans hB) (hb.keep k13 (by simp)) h1 hl (fun out r at2 ov M4 e4 a1 a2 hr ho k4 o4=>?_) (fun e M4 e4 he k4=>?_)
         ·simp only[aX,aY,eB]
          exact hQ out r at2 ov M4 (by simp only[hlow]; exact e4) a1 a2 hr ho (k13.trans k4) (Own.mono o4 k13.next)
         ·simp only[aX,aY,eB]
          exact hE e M4 (by simp only[hlow]; exact e4) he (k13.trans k4)
 | nil =>
   rw[show decide ((([] : List Str).length:Int) > 0)=false from rfl,bg,s2.len,bI]
   cases ys with
   | nil =>
     rw[show((([] : List Str).length:Int) == 0)=true from rfl,bS]
     exact hQ [] (b.drop at') at' aH M2 rfl h1 (Nat.le_refl _) rfl (by simp) k12 .nil
   | cons y ys =>
     rw[show(((y :: ys).length:Int) == 0)=false by simp; omega,bg,s2.len,eD]
     simp only[bW]
     cases ys with
     | cons y2 ys =>
       rw[show decide (((y :: y2 :: ys).length:Int) > 1)=true by simp; omega]
       simp only[fE,dh,bS]
       exact hE 14 M2 rfl (.inl rfl) k12
     | nil =>
       rw[show decide ((([y] : List Str).length:Int) > 1)=false from rfl]
       simp only[dK,dZ]
       obtain⟨b0,o0,hb0,hb0v,hix,hld⟩:=s2.at 1 0 (i:=0) (by simp)
       have hc0:=dM.1 hld
       have hyl:y.length<4611686018427387904:=Pj (List.mem_singleton.2 rfl)
       rw[hix,dw]
       refine⟨_,hc0, ?_⟩
       refine hw ?_
       simp only[List.getElem_cons_zero,bX]
       have tail:∀ M3,ae [] M2 M3→ak (Bo (!xK y)) (Q (.tup [(.sc (.slice none 0 0)),(N .i64 0),(N .i64 14)]) M3) (
         bY v2 (N .i64 0) 1 fun t67=>ax M3 t67 fun t68=>ci [t68] M3 fun t69 LM=>aD t69 0 fun t70=>aD t69 1 fun t71=>af .gtr t70 (N .i64 16384) fun t74=>ak t74 ( Q (.tup [(.sc (.slice none 0 0)),(N .i64 0),(N .i64 2)]) LM) ( aU v fun t78=>af .sub t78 (N .i64 (at' : Int)) fun t80=>af .gtr t70 t80 fun t81=>ak t81 ( Q (.tup [(.sc (.slice none 0 0)),(N .i64 0),(N .i64 15)]) LM) ( af .add (N .i64 (at' : Int)) t70 fun t86=>bH (dx 1 v (some (N .i64 (at' : Int))) (some t86) none) fun t87=>cl [t87] LM fun t88 Rb=>af .add (N .i64 (at' : Int)) t70 fun t91=>Q (.tup [t88,t91,(N .i64 0)]) Rb))):=by
        intro M3 k3
        cases hok:xK y with
        | false =>
          simp only[Bool.not_false,bS]
          exact hE 14 M3 (by simp only[hok]) (.inl rfl) (k12.trans k3)
        | true =>
          have hok':=hok
          unfold xK iU at hok'
          simp only[Bool.and_eq_true,decide_eq_true_eq] at hok'
          simp only[Bool.not_true,bg]
          have s23:Sl l9 M3 v2 [y]:=aK.keep s2 k3 (by simp)
          obtain⟨b3,o3,hb3,_,Ri,Re⟩:=s23.at 1 0 (i:=0) (by simp)
          rw[Ri,dw]
          refine⟨_,dM.1 Re, ?_⟩
          simp only[List.getElem_cons_zero]
          refine hi (by omega) (by omega) hok'.2 fun M4 k4=>?_
          have hlt:=Nc hok'.2 (by omega)
          have k14:=k12.trans (k3.trans k4)
          have hb4:=hb.keep k14 (by simp)
          simp only[aX,aY]
          rw[show(N .i64 16384)=N .i64 ((16384:Nat) : Int) from rfl,G7]
          refine dE (fun h=>?_) fun h=>?_
          ·have h:16384<jg y:=by simpa using h
           exact hE 2 M4 (by simp only[hok,AY h]) (by omega) k14
          have hf1:¬ 16384<jg y:=by simpa using h
          rw[hb4.len,Hr h1 (by omega),G7]
          refine dE (fun h=>?_) fun h=>?_
          ·have h:b.length - at'<jg y:=by simpa using h
           exact hE 15 M4 (by simp only[hok,ma hf1,AY h]) (by omega) k14
          have hf2:¬ b.length - at'<jg y:=by simpa using h
          simp only[addN (show at' + jg y<4611686018427387904 by omega)]
          refine hb4.sub (kL _ _ _) (kL _ _ _) (by omega) (by omega) fun v5 hv5 _=>?_
          rw[Nat.add_sub_cancel_left] at hv5
          refine hcl hv5.sl (by simp; omega) fun v6 M6 o6 k6=>?_
          exact hQ ((b.drop at').take (jg y)) ((b.drop at').drop (jg y)) (at' + jg y) v6 M6 (by simp only[hok,ma hf1,ma hf2]) (by omega) (by omega) (by rw[List.drop_drop]) (by simp; omega) (k14.trans k6) (Own.mono o6 k14.next)
       cases hwi:iU y 1 9 with
       | false =>
         simp only[Bool.not_false,fE,dh]
         have:=tail M2 (ae.refl _ _)
         unfold xK at this
         rw[hwi] at this
         simpa only[Bool.false_and,Bool.not_false] using this
       | true =>
         simp only[Bool.not_true,dK,dZ]
         rw[hix,dw]
         refine⟨_,hc0, ?_⟩
         simp only[List.getElem_cons_zero]
         refine ha hyl fun M3 k3=>?_
         have:=tail M3 k3
         unfold xK at this
         rw[hwi] at this
         simpa only[bX,Bool.true_and,dZ] using this
end Go.Ab.Hw
namespace Go.Ab.Hw
open Go Go.Ab Go.Ab.Sm
open Go.Ab.Vl (brk ku oD fP fw iF gy zB pz)
def G5 (c:UInt8) : List Str→List Str
 | []=>[[c]]
 | w :: ws=>(c :: w) :: ws
def words (x:UInt8) : Str→List Str
 | []=>[[]]
 | c :: t=>match c == x with
   | true=>[] :: words x t
   | false=>G5 c (words x t)
theorem Lr (x:UInt8) (s:Str) : words x s≠[]:=by
 cases s with
 | nil=>simp[words]
 | cons c t =>
   unfold words
   split
   ·simp
   ·cases words x t <;> simp[G5]
theorem wO (x:UInt8) : ∀ s:Str,words x s=(match brk x s with | none=>[s] | some p=>p.1 :: words x p.2)
 | []=>rfl
 | c :: t=>by
   rw[words,brk]
   cases h:c == x
   ·have hc:¬ c=x:=by simpa using h
    rw[if_neg hc]
    dsimp only
    rw[wO x t]
    cases brk x t with
    | none=>rfl
    | some p=>rfl
   ·have hc:c=x:=by simpa using h
    rw[if_pos hc]
theorem wN {x:UInt8} : ∀ {s a b:Str},brk x s=some (a,b)→s.count x=b.count x + 1
 | [],_,_,h=>by simp[brk] at h
 | c :: t,a,b,h=>by
   rw[brk] at h
   split at h
   ·rename_i e; subst e; cases h; simp
   ·rename_i e
    cases hb:brk x t with
    | none=>rw[hb] at h; simp at h
    | some p =>
      rw[hb] at h
      simp only[Option.map_some,Option.some.injEq,Prod.mk.injEq] at h
      obtain⟨_,rfl⟩:=h
      rw[List.count_cons_of_ne e]
      exact wN (a:=p.1) (b:=p.2) hb
theorem Ct {x:UInt8} {s:Str} (h:brk x s=none) : s.count x=0:=by
 rcases Vl.sU x s with⟨_,_,h3⟩ | ⟨a,b,h1,_⟩
 ·exact List.count_eq_zero.2 h3
 ·rw[h] at h1; cases h1
theorem vN (x:UInt8) : ∀ (k:Nat) (s:Str),s.count x=k→Lib.splitK [x] 0 k s=words x s
 | 0,s,h=>by
   rw[wO]
   cases hb:brk x s with
   | none=>rfl
   | some p=>have:=wN (a:=p.1) (b:=p.2) hb; omega
 | k + 1,s,h=>by
   rw[wO,Lib.splitK,Lib.index_one]
   rcases Vl.sU x s with⟨h1,h2,_⟩ | ⟨a,b,h1,h2,h3,_⟩
   ·have:=Ct h1; omega
   ·have hn:((a.length:Int) == -1)=false:=by simp
    have hc:=wN h1
    rw[h1,h2,hn]
    simp only[Int.toNat_natCast,Nat.add_zero,List.length_cons,List.length_nil]
    rw[← vN x k b (by omega)]
    have e1:s.take a.length=a:=by rw[h3]; simp
    have e2:s.drop (a.length + (0 + 1))=b:=by rw[h3,← List.drop_drop]; simp
    rw[e1,e2]
    rfl
theorem qX {x:UInt8} : ∀ {s w:Str},w∈words x s→w.length≤s.length
 | [],w,h=>by simp[words] at h; subst h; simp
 | c :: t,w,h=>by
   rw[words] at h
   split at h
   ·rcases List.mem_cons.1 h with rfl | h
    ·simp
    ·have:=qX h; simp; omega
   ·cases hw:words x t with
    | nil=>exact absurd hw (Lr x t)
    | cons v vs =>
      rw[hw] at h
      simp only[G5] at h
      rcases List.mem_cons.1 h with rfl | h
      ·have:=qX (x:=x) (s:=t) (w:=v) (by rw[hw]; simp); simp; omega
      ·have:=qX (x:=x) (s:=t) (w:=w) (by rw[hw]; simp[h]); simp; omega
def EO (B:Base) (T:Nat) (c:ai) : Prop:=∀ {M:RM} {s:Str} {Q:ah},M.base=B→s.length≤1000000→(∀ v M',Ow l9 M' M.next T v (words 32 s)→ae [] M M'→Q v M')→c [St s,St [32]] M Q
abbrev NQ:Str:=[72,84,84,80,47,49,46,49]
def uF (m p v:Str) : Bool:=il m && jd p && (v == NQ)
def jG (s:Str) : Option (Str × Str):=match words 32 s with
 | [m,p,v]=>match uF m p v with
   | true=>some (m,p)
   | false=>none
 | _=>none
def ul (s:Str) : Bool:=(jG s).isSome
abbrev iT (T:Nat) (m p:Str) : RB:=.row [St m,St p,aH,aH] false T 0
def Fx (T:Nat) (s:Str) : RB:=match jG s with
 | some (m,p)=>iT T m p
 | none=>iT T [] []
theorem Nu (l:List Str) : (∃ a b c,l=[a,b,c])∨l.length≠3:=by
 rcases l with _ | ⟨a,_ | ⟨b,_ | ⟨c,_ | ⟨d,l⟩⟩⟩⟩ <;> simp
theorem JM {B:Base} {T TS br:Nat} {cs cm cp:ai} (hs:EO B TS cs) (hm:kW il cm) (hp:kW jd cp) {M:RM} {s:Str} {K:ah} (hB:M.base=B) (hbr:br<M.next) (hX:M.heap br=some (iT T [] []))
  (hl:s.length≤2048) (h0:ul s=false→∀ M',ae [br] M M'→K (Bo false) M') (h1:ul s=true→∀ M',ae [br] M M'→M'.heap br=some (Fx T s)→K (Bo true) M') : gI cs cm cp (St s) (.ptr br 0) M K:=by
 unfold gI
 refine hs hB (by omega) fun v M1 o1 k1=>?_
 have s1:Sl l9 M1 v (words 32 s):=Own.oq o1
 have hwl:∀ w∈words 32 s,w.length≤2048:=fun w hw=>Nat.le_trans (qX hw) hl
 have kb:∀ {M'},ae [] M M'→ae [br] M M':=fun k=>k.mono (by simp)
 rw[s1.len]
 simp only[iB,bW]
 rcases Nu (words 32 s) with⟨a,b,c,hw⟩ | hne
 ·have hq:jG s=if uF a b c then some (a,b) else none:=by
   unfold jG; rw[hw]; dsimp only; cases uF a b c <;> rfl
  rw[hw] at s1 hwl ⊢
  rw[show((([a,b,c] : List Str).length:Int) != 3)=false from rfl]
  simp only[dK,dZ]
  have at_:∀ {M2:RM} (k:ae [] M1 M2) {K' : AV→Prop},(∀ x:AV,(bY v (N .i64 0) 1 fun t=>ax M2 t fun u=>K' u)=K' (St a))∧(∀ x:AV,(bY v (N .i64 1) 1 fun t=>ax M2 t fun u=>K' u)=K' (St b))∧(∀ x:AV,(bY v (N .i64 2) 1 fun t=>ax M2 t fun u=>K' u)=K' (St c)):=by
   intro M2 k K'
   have s2:Sl l9 M2 v [a,b,c]:=aK.keep s1 k (by simp)
   obtain⟨b0,o0,_,_,hix,hld⟩:=s2.at 1 0 (i:=0) (by simp)
   obtain⟨b1,o1',_,_,Fu,Co⟩:=s2.at 1 1 (i:=1) (by simp)
   obtain⟨b2,o2,_,_,Qr,QP⟩:=s2.at 1 2 (i:=2) (by simp)
   refine⟨fun _=>?_,fun _=>?_,fun _=>?_⟩
   ·rw[hix,dw,dM.1 hld]; exact BH _ _
   ·rw[Fu,dw,dM.1 Co]; exact BH _ _
   ·rw[Qr,dw,dM.1 QP]; exact BH _ _
  have tail:∀ M2,ae [] M1 M2→(ak (Bo (!uF a b c)) (K (Bo false) M2) (
    bY v (N .i64 0) 1 fun t31=>ax M2 t31 fun t32=>bY v (N .i64 1) 1 fun t34=>ax M2 t34 fun t35=>aW (.ptr br 0) 0 fun t36=>aG M2 t36 t32 1 fun ND=>ax ND t34 fun NI=>(NI=t35∧aW (.ptr br 0) 1 fun t37=>aG ND t37 t35 1 fun QW=>K (Bo true) QW))):=by
   intro M2 k2
   have k02:ae [] M M2:=k1.trans k2
   refine dE (fun h=>?_) fun h=>?_
   ·have hk:uF a b c=false:=by simpa using h
    exact h0 (by unfold ul; rw[hq,hk]; rfl) M2 (kb k02)
   ·have hk:uF a b c=true:=by simpa using h
    have X2:=k02.aO hX hbr (by simp)
    have s2:Sl l9 M2 v [a,b,c]:=aK.keep s1 k2 (by simp)
    rw[((at_ k2).1 aH)]
    obtain⟨b1,o1',hb1,QG,Fu,Co⟩:=s2.at 1 1 (i:=1) (by simp)
    have hvn:=(o1.blk b1 QG).1
    rw[Fu,dw]
    refine⟨_,dM.1 Co, ?_⟩
    simp only[List.getElem_cons_succ,List.getElem_cons_zero]
    rw[jK,fF [St a,St [],aH,aH] X2 (by simp) rfl rfl rfl,dw]
    have k3:ae [br] M2 (M2.put br (.row [St a,St [],aH,aH] false T 0)):=(ae.refl _ _).put _ (.inr (by simp))
    have hne:b1≠br:=fun e=>by omega
    refine⟨St b, ?_,rfl, ?_⟩
    ·have hcell:M2.cell b1 o1'=some (St b):=dM.1 Co
     rw[← hcell]
     unfold RM.cell
     rw[RM.qD,RM.qD,k3.heap b1 hb1 (by simpa using hne)]
     rfl
    rw[jK,fF [St a,St b,aH,aH] (aM _) (by simp) rfl rfl rfl]
    refine h1 (by unfold ul; rw[hq,hk]; rfl) _ ((kb k02).trans (k3.trans ((ae.refl _ _).put _ (.inr (by simp))))) ?_
    rw[aM]
    unfold Fx; rw[hq,hk]; rfl
  have ha:=hwl a (by simp)
  have hb:=hwl b (by simp)
  rw[((at_ (ae.refl _ _)).1 aH)]
  refine hm (by omega) fun M2 k2=>?_
  simp only[bX]
  unfold uF at tail
  cases hgm:il a with
  | false =>
    simp only[Bool.not_false,fE,dh]
    have:=tail M2 k2
    simpa only[hgm,Bool.false_and,Bool.not_false] using this
  | true =>
    simp only[Bool.not_true,dK,dZ]
    rw[((at_ k2).2.1 aH)]
    refine hp (by omega) fun M3 k3=>?_
    have k13:=k2.trans k3
    simp only[bX]
    cases hgp:jd b with
    | false =>
      simp only[Bool.not_false,fE,dh]
      have:=tail M3 k13
      simpa only[hgm,hgp,Bool.false_and,Bool.and_false,Bool.not_false] using this
    | true =>
      simp only[Bool.not_true,dK,dZ]
      rw[((at_ k13).2.2 aH),yR]
      have:=tail M3 k13
      simpa only[hgm,hgp,Bool.true_and,bne] using this
 ·have hq:jG s=none:=by
   unfold jG
   split
   ·rename_i m p v hw; rw[hw] at hne; exact absurd rfl hne
   ·rfl
  rw[show(((words 32 s).length:Int) != 3)=true by
   simp only[bne_iff_ne,ne_eq]
   omega]
  simp only[fE,dh,bS]
  exact h0 (by unfold ul; rw[hq]; rfl) M1 (kb k1)
abbrev Fq:Str:=[72,84,84,80,47,49,46,49,32]
def nL (s:Str) : Str:=if pre Fq s then s.drop 9 else s
def E8 (s:Str) : Bool:=!pre Fq s || decide (((nL s).length:Int)<4)
def Ii (s:Str) : Bool:=E8 s || !((nL s).take 3).all dI
def G9 (s:Str) : Bool:=Ii s || ((((nL s).getD 3 0).toNat:Int) != 32)
def LX (s:Str) : Bool:=G9 s || !((nL s).drop 3).all p32
def codeOf (s:Str) : Nat:=jg ((nL s).take 3)
def oW (s:Str) : Bool:=!LX s && (decide ((codeOf s:Int) ≥ 100) && decide ((codeOf s:Int)≤599))
abbrev gp (T:Nat) (n:Int) : RB:=.row [N .i64 n,aH,aH] false T 0
def DZ (T:Nat) (s:Str) : RB:=gp T (codeOf s)
theorem Ib {T br g1 g2:Nat} {cc ca ci:ai} (hc:pE cc) (ha1:kI dI (.fn (.func g1) [] []) ca) (ha2:kI p32 (.fn (.func g2) [] []) ca) (hi:IK ci) {M:RM} {s:Str} {K:ah} (hbr:br<M.next)
  (hX:M.heap br=some (gp T 0)) (hl:s.length≤2048) (h0:oW s=false→∀ M',ae [br] M M'→K (Bo false) M') (h1:oW s=true→∀ M',ae [br] M M'→M'.heap br=some (DZ T s)→K (Bo true) M') :
  fZ cc ca g1 g2 ci (St s) (.ptr br 0) M K:=by
 unfold fZ
 refine hc ?_
 have kb:∀ {M'},ae [] M M'→ae [br] M M':=fun k=>k.mono (by simp)
 have hrl:(nL s).length≤s.length:=by unfold nL; split <;> simp
 have e9:vY Fq s=.tup [St (nL s),Bo (pre Fq s)]:=by
  unfold vY nL; cases pre Fq s <;> rfl
 rw[e9]
 simp only[aX,aY,bX,bW]
 generalize hr:nL s=r at *
 have hb1:E8 s=(!pre Fq s || decide ((r.length:Int)<4)):=by unfold E8; rw[hr]
 have hb2:Ii s=(E8 s || !(r.take 3).all dI):=by unfold Ii; rw[hr]
 have hb3:G9 s=(Ii s || (((r.getD 3 0).toNat:Int) != 32)):=by unfold G9; rw[hr]
 have hb4:LX s=(G9 s || !(r.drop 3).all p32):=by unfold LX; rw[hr]
 have I5:E8 s=false→4≤r.length:=fun h=>by
  rw[hb1] at h
  simp only[Bool.or_eq_false_iff,decide_eq_false_iff_not] at h
  omega
 refine zT (P:=ae [] M) (p:=decide ((r.length:Int)<4)) (ae.refl _ _) (fun _ k hk=>?_) fun M1 k1=>?_
 ·simpa only[go_sem] using hk M (ae.refl _ _)
 rw[← hb1]
 refine zT (P:=ae [] M) (p:=!(r.take 3).all dI) k1 (fun hf k hk=>?_) fun M2 k2=>?_
 ·have:=I5 hf
  rw[show(N .i64 3)=N .i64 ((3:Nat) : Int) from rfl,gy (by omega)]
  simp only[dW]
  refine ha1 (by simp; omega) fun M2 k2=>?_
  simp only[bX]
  exact hk M2 (k1.trans k2)
 rw[← hb2]
 refine zT (P:=ae [] M) (p:=(((r.getD 3 0).toNat:Int) != 32)) k2 (fun hf k hk=>?_) fun M3 k3=>?_
 ·have:=I5 (by rw[hb2,Bool.or_eq_false_iff] at hf; exact hf.1)
  rw[show(N .i64 3)=N .i64 ((3:Nat) : Int) from rfl,pz (by omega),iB]
  have:r.getD 3 0=r[3]:=by simp[List.getD_eq_getElem?_getD,List.getElem?_eq_getElem (show 3<r.length by omega)]
  rw[this] at hk
  exact hk _ k2
 rw[← hb3]
 refine zT (P:=ae [] M) (p:=!(r.drop 3).all p32) k3 (fun hf k hk=>?_) fun M4 k4=>?_
 ·have:=I5 (by
   rw[hb3,Bool.or_eq_false_iff] at hf
   have:=hf.1
   rw[hb2,Bool.or_eq_false_iff] at this; exact this.1)
  rw[show(N .i64 3)=N .i64 ((3:Nat) : Int) from rfl,fw (by omega)]
  simp only[dW]
  refine ha2 (by simp; omega) fun M2 k2=>?_
  simp only[bX]
  exact hk M2 (k3.trans k2)
 rw[← hb4]
 refine dE (fun h=>?_) fun h=>?_
 ·exact h0 (by unfold oW; rw[h]; rfl) M4 (kb k4)
 ·have h':=h
  rw[hb4,Bool.or_eq_false_iff] at h'
  have h'':=h'.1
  rw[hb3,Bool.or_eq_false_iff] at h''
  have h3:=h''.1
  rw[hb2,Bool.or_eq_false_iff] at h3
  have hd:(r.take 3).all dI=true:=by simpa using h3.2
  have l4:=I5 h3.1
  rw[show(N .i64 3)=N .i64 ((3:Nat) : Int) from rfl,gy (by omega)]
  simp only[dW]
  refine hi (by simp; omega) (by simp; omega) hd fun M5 k5=>?_
  have X5:=(k4.trans k5).aO hX hbr (by simp)
  have hcode:codeOf s=jg (r.take 3):=by unfold codeOf; rw[hr]
  rw[← hcode]
  simp only[aX,aY]
  rw[jK,fF [N .i64 (codeOf s:Int),aH,aH] X5 (by simp) rfl rfl rfl]
  have k6:ae [br] M (M5.put br (.row [N .i64 (codeOf s:Int),aH,aH] false T 0)):=(kb (k4.trans k5)).put _ (.inr (by simp))
  have X6:(M5.put br (.row [N .i64 (codeOf s:Int),aH,aH] false T 0)).heap br=some (DZ T s):=aM _
  generalize M5.put br (.row [N .i64 (codeOf s:Int),aH,aH] false T 0)=M6 at *
  have ld:∀ {K' : AV→Prop},ax M6 (.ptr br 0) K'=K' (N .i64 (codeOf s:Int)):=fun {K'} => bu X6 rfl
  rw[jK,ld,dz]
  try simp only[bW]
  refine nJ (p:=decide ((codeOf s:Int)≤599)) (fun _ k hk=>?_) ?_
  ·rw[jK,ld]
   simpa only[go_sem] using hk
  ·have hp:oW s=(decide ((codeOf s:Int) ≥ 100) && decide ((codeOf s:Int)≤599)):=by unfold oW; rw[h]; rfl
   rw[← hp]
   cases hv:oW s with
   | false=>exact h0 hv _ k6
   | true=>exact h1 hv _ k6 X6
theorem FX {s:Str} {h:Hd} (e:fu s=some h) : h.1.length≤s.length∧h.2.length≤s.length:=by
 unfold fu at e
 split at e
 ·cases e
 ·rename_i a b hb
  have:=GL hb
  have:=Dv b
  split at e
  ·cases e; exact⟨by show a.length≤_; omega,by show(trimB b).length≤_; omega⟩
  ·cases e
theorem J9 {b s:Str} {at' n:Nat} (e:nK b at'=.ok (s,n)) : s.length≤2048:=by
 unfold nK at e
 split at e
 ·rename_i p hp
  cases e
  obtain⟨a,r⟩:=p
  have:=(qa hp).2
  simp at this
  show a.length≤2048
  omega
 ·split at e <;> cases e
theorem JC (b:Str) : ∀ (f at' : Nat) (l l' : List Hd) (n:Nat),(∀ h∈l,h.1.length≤2048∧h.2.length≤2048)→hloop b f at' l=.ok (l',n)→∀ h∈l',h.1.length≤2048∧h.2.length≤2048:=by
 intro f
 induction f with
 | zero =>
   intro at' l l' n hl e
   rw[lm] at e
   split at e
   ·cases e
   ·split at e
    ·cases e; exact hl
    ·cases e
 | succ f ih =>
   intro at' l l' n hl e
   rw[lm] at e
   split at e
   ·cases e
   ·rename_i s n' hL
    split at e
    ·cases e; exact hl
    ·dsimp only at e
     split at e
     ·cases e
     ·rename_i h hh
      refine ih _ _ _ _ (fun x hx=>?_) e
      rcases List.mem_append.1 hx with hx | hx
      ·exact hl x hx
      ·have:x=h:=by simpa using hx
       subst this
       have h1:=FX hh
       have h2:=J9 hL
       exact⟨by omega,by omega⟩
theorem CZ {p:Str→Bool} {b s:Str} {l:List Hd} {n:Nat} (e:headD p b=.ok (s,l,n)) : (∀ h∈l,h.1.length≤2048∧h.2.length≤2048)∧p s=true:=by
 unfold headD at e
 split at e
 ·cases e
 ·split at e
  ·cases e
  ·split at e
   ·cases e
   ·rename_i hh
    cases e
    exact⟨JC b _ _ _ _ _ (by simp) hh,by assumption⟩
def lN (b:Str) : Except Nat ((Str × Str × List Hd × Str) × Str):=match headD ul b with
 | .error e=>.error e
 | .ok (s,l,at')=>match AJ (b.drop at') l with
   | .error e=>.error e
   | .ok (out,r)=>match jG s with
     | some (m,p)=>.ok ((m,p,l,out),r)
     | none=>.error 14
def EQ (B:Base) (TH T8:Nat) (c:ai) : Prop:=∀ {M:RM} {v:AV} {b:Str} {Q:ah},M.base=B→Bs M v b→b.length≤1000000000 →
 (∀ m p l out r at2 hv ov M',lN b=.ok ((m,p,l,out),r)→at2≤b.length→b.drop at2=r→out.length≤16384→l.length≤32→(∀ h∈l,h.1.length≤2048∧h.2.length≤2048)→ae [] M M'→Ow HD M' M.next TH hv l→Ow BY M' M.next T8 ov out →
  Q (.tup [.agg [St m,St p,hv,ov],N .i64 (at2:Int),N .i64 0]) M') →
 (∀ (e:Nat) M',lN b=.error e→(e=14∨e=15∨e=2)→ae [] M M'→Q (.tup [.agg [St [],St [],aH,aH],N .i64 0,N .i64 (e:Int)]) M')→c [v] M Q
theorem qJ {br:Nat} {M M0 M1:RM} (k0:ae [] M M0) (h:ae [br] M0 M1) (hb:M.next≤br) : ae [] M M1 :=
 ⟨h.base.trans k0.base,Nat.le_trans k0.next h.next,fun x hx _=>by rw[h.heap x (Nat.lt_of_lt_of_le hx k0.next) (fun e=>by simp at e; omega),k0.heap x hx (by simp)]⟩
theorem Bs.lt {M:RM} {v:AV} {b:Str} (h:Bs M v b) : ∀ x∈aN v,x<M.next:=aK.lt h.sl
theorem FB {B:Base} {T TH T8 g:Nat} {ch cb:ai} (hH:∀ br,DY B (.fn (.func g) [] [.ptr br 0]) ul br (iT T [] []) (Fx T) TH ch) (hb:DW B T8 cb) : EQ B TH T8 fun args M Q=>∃ a0,args=[a0]∧iG T g ch cb a0 M Q:=by
 intro M v b Q hB hv hl hQ hE
 refine⟨_,rfl, ?_⟩
 unfold iG
 simp only[aS]
 have k0:ae [] M ((M.push (iT T [] [])).push (iT T [] [])):=((ae.refl _ _).push _).push _
 have a2:((M.push (iT T [] [])).push (iT T [] [])).heap M.next=some (iT T [] []):=by simp[RM.push]
 have a5:((M.push (iT T [] [])).push (iT T [] [])).heap (M.push (iT T [] [])).next=some (iT T [] []):=by simp[RM.push]
 have e5:(M.push (iT T [] [])).next=M.next + 1:=rfl
 have n0:((M.push (iT T [] [])).push (iT T [] [])).next=M.next + 2:=rfl
 rw[e5] at a5 ⊢
 generalize (M.push (iT T [] [])).push (iT T [] [])=M0 at *
 have hv0:=hv.keep k0 (by simp)
 have err:∀ (e:Nat) (M1:RM),ae [M.next + 1] M0 M1→lN b=.error e→(e=14∨e=15∨e=2) →
   eX [(St []),(St []),(.sc (.slice none 0 0)),(.sc (.slice none 0 0))] [] fun t18=>aG M1 (.ptr M.next 0) t18 4 fun M_2=>bG M_2 (.ptr M.next 0) 4 fun res=>Q (.tup [res,(N .i64 0),N .i64 (e:Int)]) M_2:=by
  intro e M1 k1 he1 he
  rw[gF]
  refine⟨_,rfl, ?_⟩
  have n1:=k1.aO a2 (by omega) (by simp)
  rw[jq n1 (by rfl) (by rfl) (by rfl),bV (aM _) (by rfl)]
  exact hE e _ he1 he ((qJ k0 k1 (by omega)).new _ (Nat.le_refl _))
 refine hH (M.next + 1) (k0.base.trans hB) hv0 hl (by omega) (fun hx=>by have:=hv.lt _ hx; omega) a5 (fun e M1 h1 he k1=>?_) (fun s l at' hv' M1 h1 hat hs hll k1 X1 o1=>?_)
 ·simp only[aX,aY,eB,iB]
  rw[show(((e:Nat) : Int) != 0)=true by rcases he with rfl | rfl | rfl <;> rfl,bS]
  exact err e M1 k1 (by unfold lN; rw[h1]) (by omega)
 obtain⟨hlen,hp⟩:=CZ h1
 simp only[aX,aY,eB,zJ,bg,gK]
 obtain⟨⟨m,p⟩,hmp⟩ : ∃ q,jG s=some q:=by unfold ul at hp; exact Option.isSome_iff_exists.1 hp
 have X1' : M1.heap (M.next + 1)=some (iT T m p):=by rw[X1]; unfold Fx; rw[hmp]
 have hone:oneCell hv'=true:=Own.one o1
 have hcell:hv'.cells=[hv']:=Own.cells o1
 simp only[Nat.zero_add]
 rw[fF [St m,St p,hv',aH] X1' (by simp) hcell hone rfl]
 have k2:ae [M.next + 1] M0 (M1.put (M.next + 1) (.row [St m,St p,hv',aH] false T 0)):=k1.put _ (.inr (by simp))
 have X2:(M1.put (M.next + 1) (.row [St m,St p,hv',aH] false T 0)).heap (M.next + 1)=some (.row [St m,St p,hv',aH] false T 0):=aM _
 have o2:Ow HD (M1.put (M.next + 1) (.row [St m,St p,hv',aH] false T 0)) M0.next TH hv' l:=Own.keep o1 ((ae.refl [M.next + 1] M1).put _ (.inr (by simp))) (fun x hx hm=>by
  have:=(Own.blk o1 x hx).1
  simp at hm; omega)
 generalize M1.put (M.next + 1) (.row [St m,St p,hv',aH] false T 0)=M2 at *
 have k02:=qJ k0 k2 (by omega)
 refine hb (k02.base.trans hB) (hv.keep k02 (by simp)) hat hl (Own.oq o2) (by omega) (fun h hx=>by have:=hlen h hx; omega) (fun out r at2 ov M3 e3 ha2 ha3 hr ho k3 o3=>?_) (fun e M3 e3 he k3=>?_)
 ·simp only[aX,aY,eB,zJ,bg,gK,Nat.zero_add]
  have X3:=k3.aO X2 (Nat.lt_of_lt_of_le (by omega) k2.next) (by simp)
  rw[fF [St m,St p,hv',ov] X3 (by simp) (Own.cells o3) (Own.one o3) rfl]
  have n3:=(k2.trans (k3.mono (by simp))).aO a2 (by omega) (by simp)
  rw[bV (aM _) (by rfl),jq (rW n3 (by omega)) (by rfl) (by rfl) (by have:=Own.one o3; simp only[List.all_cons,List.all_nil,hone,this]; rfl),bV (aM _) (by rfl)]
  have k4:ae [] M (((M3.put (M.next + 1) (.row [St m,St p,hv',ov] false T 0))).put M.next (.row [St m,St p,hv',ov] false T 0)):=((k02.trans k3).new _ (by omega)).new _ (Nat.le_refl _)
  have k34:ae [M.next,M.next + 1] M3 (((M3.put (M.next + 1) (.row [St m,St p,hv',ov] false T 0))).put M.next (.row [St m,St p,hv',ov] false T 0)):=((ae.refl _ _).put _ (.inr (by simp))).put _ (.inr (by simp))
  refine hQ m p l out r at2 hv' ov _ (by unfold lN; rw[h1]; dsimp only; rw[e3,hmp]) ha2 hr ho hll hlen k4 ?_ ?_
  ·have o2' : Ow HD M3 M0.next TH hv' l:=Own.keep o2 k3 (by simp)
   refine Own.mono (Own.keep o2' k34 (fun x hx hm=>?_)) k0.next
   have:=(Own.blk o2' x hx).1
   simp at hm; omega
  ·refine Own.mono (Own.keep o3 k34 (fun x hx hm=>?_)) k02.next
   have:=(Own.blk o3 x hx).1
   have:=k2.next
   simp at hm; omega
 ·simp only[aX,aY,eB,gK,Nat.zero_add]
  have X3:=k3.aO X2 (Nat.lt_of_lt_of_le (by omega) k2.next) (by simp)
  rw[fF [St m,St p,hv',aH] X3 (by simp) rfl rfl rfl,iB,show(((e:Nat) : Int) != 0)=true by rcases he with rfl | rfl | rfl <;> rfl,bS]
  exact err e _ ((k2.trans (k3.mono (by simp))).put _ (.inr (by simp))) (by unfold lN; rw[h1]; dsimp only; rw[e3]) (by omega)
def lH (b:Str) : Except Nat ((Nat × List Hd × Str) × Str):=match headD oW b with
 | .error e=>.error e
 | .ok (s,l,at')=>match AJ (b.drop at') l with
   | .error e=>.error e
   | .ok (out,r)=>.ok ((codeOf s,l,out),r)
def Dh (B:Base) (TH T8:Nat) (c:ai) : Prop:=∀ {M:RM} {v:AV} {b:Str} {Q:ah},M.base=B→Bs M v b→b.length≤1000000000 →
 (∀ n l out r at2 hv ov M',lH b=.ok ((n,l,out),r)→at2≤b.length→b.drop at2=r→out.length≤16384→l.length≤32→(∀ h∈l,h.1.length≤2048∧h.2.length≤2048)→ae [] M M'→Ow HD M' M.next TH hv l→Ow BY M' M.next T8 ov out →
  Q (.tup [.agg [N .i64 (n:Int),hv,ov],N .i64 (at2:Int),N .i64 0]) M') →
 (∀ (e:Nat) M',lH b=.error e→(e=14∨e=15∨e=2)→ae [] M M'→Q (.tup [.agg [N .i64 0,aH,aH],N .i64 0,N .i64 (e:Int)]) M')→c [v] M Q
theorem Dx {B:Base} {T TH T8 g:Nat} {ch cb:ai} (hH:∀ br,DY B (.fn (.func g) [] [.ptr br 0]) oW br (gp T 0) (DZ T) TH ch) (hb:DW B T8 cb) : Dh B TH T8 fun args M Q=>∃ a0,args=[a0]∧gP T g ch cb a0 M Q:=by
 intro M v b Q hB hv hl hQ hE
 refine⟨_,rfl, ?_⟩
 unfold gP
 simp only[aS]
 have k0:ae [] M ((M.push (gp T 0)).push (gp T 0)):=((ae.refl _ _).push _).push _
 have a2:((M.push (gp T 0)).push (gp T 0)).heap M.next=some (gp T 0):=by simp[RM.push]
 have a5:((M.push (gp T 0)).push (gp T 0)).heap (M.push (gp T 0)).next=some (gp T 0):=by simp[RM.push]
 have e5:(M.push (gp T 0)).next=M.next + 1:=rfl
 have n0:((M.push (gp T 0)).push (gp T 0)).next=M.next + 2:=rfl
 rw[e5] at a5 ⊢
 generalize (M.push (gp T 0)).push (gp T 0)=M0 at *
 have hv0:=hv.keep k0 (by simp)
 have err:∀ (e:Nat) (M1:RM),ae [M.next + 1] M0 M1→lH b=.error e→(e=14∨e=15∨e=2) →
   eX [(N .i64 0),(.sc (.slice none 0 0)),(.sc (.slice none 0 0))] [] fun t18=>aG M1 (.ptr M.next 0) t18 3 fun M_2=>bG M_2 (.ptr M.next 0) 3 fun res=>Q (.tup [res,(N .i64 0),N .i64 (e:Int)]) M_2:=by
  intro e M1 k1 he1 he
  rw[gF]
  refine⟨_,rfl, ?_⟩
  have n1:=k1.aO a2 (by omega) (by simp)
  rw[jq n1 (by rfl) (by rfl) (by rfl),bV (aM _) (by rfl)]
  exact hE e _ he1 he ((qJ k0 k1 (by omega)).new _ (Nat.le_refl _))
 refine hH (M.next + 1) (k0.base.trans hB) hv0 hl (by omega) (fun hx=>by have:=hv.lt _ hx; omega) a5 (fun e M1 h1 he k1=>?_) (fun s l at' hv' M1 h1 hat hs hll k1 X1 o1=>?_)
 ·simp only[aX,aY,eB,iB]
  rw[show(((e:Nat) : Int) != 0)=true by rcases he with rfl | rfl | rfl <;> rfl,bS]
  exact err e M1 k1 (by unfold lH; rw[h1]) (by omega)
 obtain⟨hlen,hp⟩:=CZ h1
 simp only[aX,aY,eB,zJ,bg,gK]
 have X1' : M1.heap (M.next + 1)=some (gp T (codeOf s)):=X1
 have hone:oneCell hv'=true:=Own.one o1
 have hcell:hv'.cells=[hv']:=Own.cells o1
 simp only[Nat.zero_add]
 rw[fF [N .i64 (codeOf s:Int),hv',aH] X1' (by simp) hcell hone rfl]
 have k2:ae [M.next + 1] M0 (M1.put (M.next + 1) (.row [N .i64 (codeOf s:Int),hv',aH] false T 0)):=k1.put _ (.inr (by simp))
 have X2:(M1.put (M.next + 1) (.row [N .i64 (codeOf s:Int),hv',aH] false T 0)).heap (M.next + 1)=some (.row [N .i64 (codeOf s:Int),hv',aH] false T 0):=aM _
 have o2:Ow HD (M1.put (M.next + 1) (.row [N .i64 (codeOf s:Int),hv',aH] false T 0)) M0.next TH hv' l:=Own.keep o1 ((ae.refl [M.next + 1] M1).put _ (.inr (by simp))) (fun x hx hm=>by
  have:=(Own.blk o1 x hx).1
  simp at hm; omega)
 generalize M1.put (M.next + 1) (.row [N .i64 (codeOf s:Int),hv',aH] false T 0)=M2 at *
 have k02:=qJ k0 k2 (by omega)
 refine hb (k02.base.trans hB) (hv.keep k02 (by simp)) hat hl (Own.oq o2) (by omega) (fun h hx=>by have:=hlen h hx; omega) (fun out r at2 ov M3 e3 ha2 ha3 hr ho k3 o3=>?_) (fun e M3 e3 he k3=>?_)
 ·simp only[aX,aY,eB,zJ,bg,gK,Nat.zero_add]
  have X3:=k3.aO X2 (Nat.lt_of_lt_of_le (by omega) k2.next) (by simp)
  rw[fF [N .i64 (codeOf s:Int),hv',ov] X3 (by simp) (Own.cells o3) (Own.one o3) rfl]
  have n3:=(k2.trans (k3.mono (by simp))).aO a2 (by omega) (by simp)
  rw[bV (aM _) (by rfl),jq (rW n3 (by omega)) (by rfl) (by rfl) (by have:=Own.one o3; simp only[List.all_cons,List.all_nil,hone,this]; rfl),bV (aM _) (by rfl)]
  have k4:ae [] M (((M3.put (M.next + 1) (.row [N .i64 (codeOf s:Int),hv',ov] false T 0))).put M.next (.row [N .i64 (codeOf s:Int),hv',ov] false T 0)):=((k02.trans k3).new _ (by omega)).new _ (Nat.le_refl _)
  have k34:ae [M.next,M.next + 1] M3 (((M3.put (M.next + 1) (.row [N .i64 (codeOf s:Int),hv',ov] false T 0))).put M.next (.row [N .i64 (codeOf s:Int),hv',ov] false T 0)):=((ae.refl _ _).put _ (.inr (by simp))).put _ (.inr (by simp))
  refine hQ (codeOf s) l out r at2 hv' ov _ (by unfold lH; rw[h1]; dsimp only; rw[e3]) ha2 hr ho hll hlen k4 ?_ ?_
  ·have o2' : Ow HD M3 M0.next TH hv' l:=Own.keep o2 k3 (by simp)
   refine Own.mono (Own.keep o2' k34 (fun x hx hm=>?_)) k0.next
   have:=(Own.blk o2' x hx).1
   simp at hm; omega
  ·refine Own.mono (Own.keep o3 k34 (fun x hx hm=>?_)) k02.next
   have:=(Own.blk o3 x hx).1
   have:=k2.next
   simp at hm; omega
 ·simp only[aX,aY,eB,gK,Nat.zero_add]
  have X3:=k3.aO X2 (Nat.lt_of_lt_of_le (by omega) k2.next) (by simp)
  rw[fF [N .i64 (codeOf s:Int),hv',aH] X3 (by simp) rfl rfl rfl,iB,show(((e:Nat) : Int) != 0)=true by rcases he with rfl | rfl | rfl <;> rfl,bS]
  exact err e _ ((k2.trans (k3.mono (by simp))).put _ (.inr (by simp))) (by unfold lH; rw[h1]; dsimp only; rw[e3]) (by omega)
end Go.Ab.Hw
namespace Go.Ab.Hw
open Go Go.Ab Go.Ab.Sm
def vT (h:Hd) : Bool:=!(!j3 h.1 || !ic h.2 || low h.1 == CQ || low h.1 == CS)
def xQ (h:Hd) : Str:=h.1++[58,32]++h.2++[13,10]
def uM (first:Str) (l:List Hd) : Str:=first++[13,10]++l.flatMap xQ
def qA (first:Str) (l:List Hd) (more:Hd) : Str:=uM first l++(xQ more++[13,10])
def BX (l:List Hd) (s:Str) (sz:Nat) : Bool:=decide (((l.length + 1:Nat) : Int) > 32) || decide ((s.length:Int) > 2048) || decide ((sz:Int) > 16384)
def gJ (first:Str) (l:List Hd) (more:Hd) (sz:Nat) (body:Str) : Except Nat Str:=match l.all vT with
 | false=>.error 1
 | true=>match BX l (qA first l more) sz with
   | true=>.error 2
   | false=>.ok (qA first l more++body)
theorem EH:∀ (l:List Hd) (k:Nat),(∀ h∈l,h.1.length≤k∧h.2.length≤k)→(l.flatMap xQ).length≤l.length * (2 * k + 4)
 | [],k,_=>by simp
 | h :: l,k,hk=>by
   have:=EH l k fun x hx=>hk x (.tail _ hx)
   have h0:=hk h (.head _)
   rw[List.flatMap_cons,List.length_append,List.length_cons,Nat.succ_mul]
   have:(xQ h).length=h.1.length + h.2.length + 4:=by unfold xQ; simp; omega
   omega
def pJ (B:Base) (T:Nat) (c:ai) : Prop:=∀ {M:RM} {v bv:AV} {first body:Str} {l:List Hd} {more:Hd} {sz:Nat} {Q:ah},M.base=B→Sl HD M v l→l.length≤1000→(∀ h∈l,h.1.length≤281474976710656∧h.2.length≤281474976710656) →
 first.length≤1000000→more.1.length≤1000000→more.2.length≤1000000→Sl BY M bv body→body.length≤1000000000 →
 (∀ s v' M',gJ first l more sz body=.ok s→s.length≤2048 + body.length→ae [] M M'→Ow BY M' M.next T v' s→Q (.tup [v',N .i64 0]) M')→(∀ (e:Nat) M',gJ first l more sz body=.error e→(e=1∨e=2)→ae [] M M'→Q (.tup [aH,N .i64 (e:Int)]) M') →
 c [St first,v,.agg [St more.1,St more.2],N .i64 (sz:Int),bv] M Q
theorem EI {B:Base} {TH T:Nat} {cn cv cs:ai} (hn:kW j3 cn) (hg:Ad B ic cv) (hs:uw cs) :
  pJ B T fun args M Q=>∃ a0 a1 a2 a3 a4,args=[a0,a1,a2,a3,a4]∧jU TH cn cv cs T a0 a1 a2 a3 a4 M Q:=by
 intro M v bv first body l more sz Q hB hv hll hle hf hm1 hm2 hbv hbl hQ hE
 refine⟨_,_,_,_,_,rfl, ?_⟩
 unfold jU
 rw[lc rfl (by simp)]
 simp only[aS]
 have k0:ae [] M (M.push (.row [St more.1,St more.2] false TH 0)):=(ae.refl _ _).push _
 have n0:(M.push (.row [St more.1,St more.2] false TH 0)).heap M.next=some (.row [St more.1,St more.2] false TH 0):=by simp[RM.push]
 have l0:M.next<(M.push (.row [St more.1,St more.2] false TH 0)).next:=by simp[RM.push]
 generalize M.push (.row [St more.1,St more.2] false TH 0)=M0 at *
 rw[bM]
 refine⟨by simp; omega, ?_⟩
 rw[aK.len hv]
 refine dF (fun m ys M3=>∃ i:Nat,m=l.length - i∧ys=[St (uM first (l.take i)),N .i64 (i:Int)]∧i≤l.length∧(l.take i).all vT=true∧ae [] M0 M3) _
  ⟨0,rfl,by simp[uM],Nat.zero_le _,rfl,ae.refl _ _⟩ ?_
 rintro next m ys M3 hnext ⟨i,rfl,rfl,hi,hA,k3⟩
 simp only[bz,dm,wB]
 have k03:=k0.trans k3
 have hv3:Sl HD M3 v l:=aK.keep hv k03 (by simp)
 have hlen:(uM first (l.take i)).length≤1000002 + 1000 * (2 * 281474976710656 + 4):=by
  have:=EH (l.take i) 281474976710656 fun h hh=>hle h (List.mem_of_mem_take hh)
  have h2:(l.take i).length≤1000:=by simp; omega
  have h3:=Nat.mul_le_mul_right (2 * 281474976710656 + 4) h2
  unfold uM
  simp only[List.length_append,List.length_cons,List.length_nil]
  omega
 refine dE (fun h=>?_) fun h=>?_
 ·have hlt:i<l.length:=by simpa using h
  obtain⟨b,off,hb,_,hix,hld⟩:=hv3.at 2 (i:Int) hlt
  have hhl:=hle l[i] (List.getElem_mem hlt)
  rw[hix,wF]
  refine⟨_,hld, ?_⟩
  try simp only[aS]
  have n4:(M3.push (.row [St [],St []] false TH 0)).heap M3.next=some (.row [St [],St []] false TH 0):=by simp[RM.push]
  rw[jq n4 (by rfl) (by rfl) (by rfl)]
  have k4:ae [] M3 ((M3.push (.row [St [],St []] false TH 0)).put M3.next (.row (HD.cells l[i]) false TH 0)):=((ae.refl _ _).push _).new _ (Nat.le_refl _)
  have n5:((M3.push (.row [St [],St []] false TH 0)).put M3.next (.row (HD.cells l[i]) false TH 0)).heap M3.next=some (.row (HD.cells l[i]) false TH 0):=aM _
  have l5:M3.next<((M3.push (.row [St [],St []] false TH 0)).put M3.next (.row (HD.cells l[i]) false TH 0)).next:=by simp[RM.push,RM.put]
  generalize (M3.push (.row [St [],St []] false TH 0)).put M3.next (.row (HD.cells l[i]) false TH 0)=M4 at *
  have ld0:∀ {M' : RM} (k:ae [] M4 M') {K' : AV→Prop},ax M' (.ptr M3.next 0) K'=K' (St l[i].1):=fun k=>bu (k.aO n5 l5 (by simp)) rfl
  have ld1:∀ {M' : RM} (k:ae [] M4 M') {K' : AV→Prop},ax M' (.ptr M3.next 1) K'=K' (St l[i].2):=fun k=>bu (k.aO n5 l5 (by simp)) rfl
  simp only[jK,bW]
  rw[ld0 (ae.refl _ _)]
  have kM4:ae [] M M4:=k03.trans k4
  refine hn (by omega) fun M5 k5=>?_
  simp only[bX]
  refine zT (P:=ae [] M4) (p:=!ic l[i].2) k5 (fun _ k hk=>?_) fun M6 k6=>?_
  ·rw[ld1 k5]
   refine hg ((kM4.trans k5).base.trans hB) (by omega) fun M6 k6=>?_
   simp only[bX]
   exact hk M6 (k5.trans k6)
  refine zT (P:=ae [] M4) (p:=low l[i].1 == CQ) k6 (fun _ k hk=>?_) fun M7 k7=>?_
  ·rw[ld0 k6]
   refine hs (by omega) fun M7 k7=>?_
   simp only[df]
   exact hk M7 (k6.trans k7)
  refine zT (P:=ae [] M4) (p:=low l[i].1 == CS) k7 (fun _ k hk=>?_) fun M8 k8=>?_
  ·rw[ld0 k7]
   refine hs (by omega) fun M8 k8=>?_
   simp only[df]
   exact hk M8 (k7.trans k8)
  have hok:vT l[i]=!(!j3 l[i].1 || !ic l[i].2 || low l[i].1 == CQ || low l[i].1 == CS):=rfl
  have htk:(l.take (i + 1)).all vT=vT l[i]:=by
   rw[List.take_succ_eq_append_getElem hlt,List.all_append,hA]; simp
  refine dE (fun h=>?_) fun h=>?_
  ·have hbad:vT l[i]=false:=by rw[hok,h]; rfl
   refine hE 1 M8 ?_ (.inl rfl) (kM4.trans k8)
   have:l.all vT=false:=by
    rw[← List.take_append_drop (i + 1) l,List.all_append,htk,hbad]; rfl
   unfold gJ; rw[this]
  ·have hgd:vT l[i]=true:=by rw[hok,h]; rfl
   rw[ld0 k8,bM]
   refine⟨by simp; omega, ?_⟩
   rw[ld1 k8,bM]
   refine⟨by simp; omega, ?_⟩
   rw[bM]
   refine⟨by simp; omega, ?_⟩
   rw[bM]
   refine⟨by simp; omega, ?_⟩
   rw[add1 (by omega)]
   refine hnext _ _ _ (by omega) ⟨i + 1,rfl, ?_,by omega,by rw[htk,hgd],k3.trans (k4.trans k8)⟩
   congr 2
   unfold uM
   rw[List.take_succ_eq_append_getElem hlt,List.flatMap_append]
   simp[xQ]
 ·have:i=l.length:=by simp at h; omega
  subst this
  rw[List.take_length] at hA hlen
  have n3:=k3.aO n0 l0 (by simp)
  simp only[List.take_length,jK,bW]
  rw[bu n3 rfl,bM]
  refine⟨by simp; omega, ?_⟩
  rw[bu n3 (by rfl:([St more.1,St more.2] : List AV)[1]?=some (St more.2)),bM]
  refine⟨by simp; omega, ?_⟩
  rw[bM]
  refine⟨by simp; omega, ?_⟩
  rw[bM]
  refine⟨by simp; omega, ?_⟩
  rw[bM]
  refine⟨by simp; omega, ?_⟩
  have hs:uM first l++(more.1++[58,32]++more.2++[13,10]++[13,10])=qA first l more:=rfl
  rw[hs,aK.len hv,add1 (by omega),show(N .i64 32)=N .i64 ((32:Nat) : Int) from rfl,eD]
  refine CF (p:=decide (((qA first l more).length:Int) > 2048)) (fun _ k hk=>by simpa only[go_sem] using hk) ?_
  refine CF (p:=decide ((sz:Int) > 16384)) (fun _ k hk=>by simpa only[go_sem] using hk) ?_
  have ht:(decide (((l.length + 1:Nat) : Int) > ((32:Nat) : Int)) || decide (((qA first l more).length:Int) > 2048) || decide ((sz:Int) > 16384))=BX l (qA first l more) sz:=rfl
  rw[ht]
  refine dE (fun h=>?_) fun h=>?_
  ·exact hE 2 M3 (by unfold gJ; rw[hA]; simp only[h]) (.inr rfl) k03
  ·rw[gD]
   simp only[aS]
   have k4:ae [] M3 (M3.push (.row (BY.row (qA first l more)) true T 0)):=(ae.refl _ _).push _
   have hal:(qA first l more).length≤2048:=by
    have h':=h
    unfold BX at h'
    simp only[Bool.or_eq_false_iff,decide_eq_false_iff_not] at h'
    omega
   have o4:Ow BY (M3.push (.row (BY.row (qA first l more)) true T 0)) M3.next T (.slc M3.next 0 (qA first l more).length (.op 1)) (qA first l more) :=
    Own.op _ _ _ (Nat.le_refl _) (by simp[RM.push]) (RM.lF _) (by rw[Enc.fo])
   refine pq (E:=BY) o4 k4.next (by decide) (aK.keep (aK.keep hbv k03 (by simp)) k4 (by simp)) (by omega) (by omega) fun v7 M7 o7 k7 _ _=>?_
   refine hQ _ v7 M7 (by unfold gJ; rw[hA]; simp only[h]) (by simp; omega) ?_ (Own.mono o7 k03.next)
   refine ae.own (k03.trans k4) k7 (fun x hx=>?_)
   have:=k03.next
   simp[aN] at hx; omega
def lY (base:Nat) : Nat→Nat→Str
 | 0,_=>[]
 | f + 1,n=>match Nat.blt n base with
   | true=>[if n<10 then UInt8.ofNat (48 + n) else UInt8.ofNat (87 + n)]
   | false=>lY base f (n / base)++[if n % base<10 then UInt8.ofNat (48 + n % base) else UInt8.ofNat (87 + n % base)]
def gM (n:Nat) : Str:=lY 10 20 n
def fH (n:Nat) : Str:=lY 16 20 n
def IX (B:Base) (c:ai) : Prop:=∀ {M:RM} {n:Nat} {Q:ah},M.base=B→n<1000000000000→(∀ M',ae [] M M'→Q (St (gM n)) M')→c [N .i64 (n:Int)] M Q
def BV (B:Base) (c:ai) : Prop:=∀ {M:RM} {n:Nat} {Q:ah},M.base=B→n<4294967296→(∀ M',ae [] M M'→Q (St (fH n)) M')→c [N .i64 (n:Int),N .i64 16] M Q
theorem qg:∀ (base f n:Nat),(lY base f n).length≤f
 | _,0,_=>by simp[lY]
 | base,f + 1,n=>by
   rw[lY]
   split
   ·simp
   ·have:=qg base f (n / base); simp; omega
abbrev nE:Str:=[67,111,110,116,101,110,116,45,76,101,110,103,116,104]
abbrev G6:Str:=[84,114,97,110,115,102,101,114,45,69,110,99,111,100,105,110,103]
def tJ (B:Base) (c:ai) : Prop:=∀ {M:RM} {n:Nat} {Q:ah},M.base=B→n<1000000000000→(∀ M',ae [] M M'→Q (.agg [St nE,St (gM n)]) M')→c [N .i64 (n:Int)] M Q
theorem EU {B:Base} {T:Nat} {ci:ai} (hi:IX B ci) : tJ B fun args M Q=>∃ a0,args=[a0]∧jM T ci a0 M Q:=by
 intro M n Q hB hn hQ
 refine⟨_,rfl, ?_⟩
 unfold jM
 simp only[aS]
 have k0:ae [] M (M.push (.row [St [],St []] false T 0)):=(ae.refl _ _).push _
 have n0:(M.push (.row [St [],St []] false T 0)).heap M.next=some (.row [St [],St []] false T 0):=by simp[RM.push]
 have l0:M.next<(M.push (.row [St [],St []] false T 0)).next:=by simp[RM.push]
 generalize M.push (.row [St [],St []] false T 0)=M0 at *
 refine hi (k0.base.trans hB) hn fun M1 k1=>?_
 rw[gF]
 refine⟨_,Af rfl rfl rfl rfl, ?_⟩
 rw[jq (k1.aO n0 l0 (by simp)) (by rfl) (by rfl) (by rfl),bV (aM _) (by rfl)]
 exact hQ _ ((k0.trans k1).new _ (Nat.le_refl _))
def uN (m p:Str) : Bool:=il m && jd p
def tN (c:ai) : Prop:=∀ {M:RM} {m p:Str} {x y:AV} {Q:ah},oneCell x=true→oneCell y=true→m.length<4611686018427387904→p.length<4611686018427387904→(∀ M',ae [] M M'→Q (Bo (uN m p)) M')→c [.agg [St m,St p,x,y]] M Q
theorem ED {T:Nat} {cm cp:ai} (hm:kW il cm) (hp:kW jd cp) : tN fun args M Q=>∃ a0,args=[a0]∧iC T cm cp a0 M Q:=by
 intro M m p x y Q hx hy h1 h2 hQ
 refine⟨_,rfl, ?_⟩
 unfold iC
 rw[lc (by simp only[List.all_cons,List.all_nil,hx,hy]; rfl) (by simp)]
 simp only[aS,bW]
 have k0:ae [] M (M.push (.row [St m,St p,x,y] false T 0)):=(ae.refl _ _).push _
 have n0:(M.push (.row [St m,St p,x,y] false T 0)).heap M.next=some (.row [St m,St p,x,y] false T 0):=by simp[RM.push]
 have l0:M.next<(M.push (.row [St m,St p,x,y] false T 0)).next:=by simp[RM.push]
 generalize M.push (.row [St m,St p,x,y] false T 0)=M0 at *
 rw[jK,bu n0 rfl]
 refine hm h1 fun M1 k1=>?_
 refine AA (P:=ae [] M) (p:=jd p) (k0.trans k1) (fun _ k hk=>?_) hQ
 rw[jK,bu (k1.aO n0 l0 (by simp)) rfl]
 exact hp h2 fun M2 k2=>hk M2 (k0.trans (k1.trans k2))
def DX (m p:Str) : Str:=m++[32]++p++[32]++NQ
def mZ (m p:Str) (l:List Hd) (body:Str) : Except Nat Str:=match uN m p with
 | false=>.error 1
 | true=>gJ (DX m p) l (nE,gM body.length) body.length body
theorem EM {m p:Str} (h:uN m p=true) : m.length≤8∧p.length≤201:=by
 unfold uN il jd iU at h
 simp only[Bool.and_eq_true,decide_eq_true_eq] at h
 omega
def CY (B:Base) (T:Nat) (c:ai) : Prop:=∀ {M:RM} {hv bv:AV} {m p body:Str} {l:List Hd} {Q:ah},M.base=B→Sl HD M hv l→l.length≤1000→(∀ h∈l,h.1.length≤281474976710656∧h.2.length≤281474976710656) →
 m.length≤281474976710656→p.length≤281474976710656→Sl BY M bv body→body.length≤1000000000 →
 (∀ s v' M',mZ m p l body=.ok s→s.length≤2048 + body.length→ae [] M M'→Ow BY M' M.next T v' s→Q (.tup [v',N .i64 0]) M')→(∀ (e:Nat) M',mZ m p l body=.error e→(e=1∨e=2)→ae [] M M'→Q (.tup [aH,N .i64 (e:Int)]) M') →
 c [.agg [St m,St p,hv,bv]] M Q
theorem DF {B:Base} {T T8:Nat} {cg cc cp:ai} (hg:tN cg) (hc:tJ B cc) (hp:pJ B T8 cp) : CY B T8 fun args M Q=>∃ a0,args=[a0]∧gU T cg cc cp a0 M Q:=by
 intro M hv bv m p body l Q hB hh hll hle hm hpl hb hbl hQ hE
 refine⟨_,rfl, ?_⟩
 unfold gU
 have ohv:=aK.one hh
 have obv:=aK.one hb
 rw[lc (by simp only[List.all_cons,List.all_nil,ohv,obv]; rfl) (by simp)]
 simp only[aS]
 have k0:ae [] M (M.push (.row [St m,St p,hv,bv] false T 0)):=(ae.refl _ _).push _
 have n0:(M.push (.row [St m,St p,hv,bv] false T 0)).heap M.next=some (.row [St m,St p,hv,bv] false T 0):=by simp[RM.push]
 have l0:M.next<(M.push (.row [St m,St p,hv,bv] false T 0)).next:=by simp[RM.push]
 generalize M.push (.row [St m,St p,hv,bv] false T 0)=M0 at *
 rw[bV n0 (by rfl)]
 refine hg ohv obv (by omega) (by omega) fun M1 k1=>?_
 have n1:=k1.aO n0 l0 (by simp)
 have l1:=Nat.lt_of_lt_of_le l0 k1.next
 have k01:=k0.trans k1
 simp only[bX]
 refine dE (fun h=>?_) fun h=>?_
 ·have hk:uN m p=false:=by simpa using h
  exact hE 1 M1 (by unfold mZ; rw[hk]) (.inl rfl) k01
 have hk:uN m p=true:=by simpa using h
 obtain⟨q1,q2⟩:=EM hk
 have e:mZ m p l body=gJ (DX m p) l (nE,gM body.length) body.length body:=by unfold mZ; rw[hk]
 rw[e] at hQ hE
 have ld0:∀ {M' : RM} (k:ae [] M1 M') {K' : AV→Prop},ax M' (.ptr M.next 0) K'=K' (St m):=fun k=>bu (k.aO n1 l1 (by simp)) rfl
 have ld1:∀ {M' : RM} (k:ae [] M1 M') {K' : AV→Prop},ax M' (.ptr M.next 1) K'=K' (St p):=fun k=>bu (k.aO n1 l1 (by simp)) rfl
 have ld2:∀ {M' : RM} (k:ae [] M1 M') {K' : AV→Prop},ax M' (.ptr M.next 2) K'=K' hv:=fun k=>bu (k.aO n1 l1 (by simp)) rfl
 have ld3:∀ {M' : RM} (k:ae [] M1 M') {K' : AV→Prop},ax M' (.ptr M.next 3) K'=K' bv:=fun k=>bu (k.aO n1 l1 (by simp)) rfl
 simp only[jK,ld0 (ae.refl _ M1),ld1 (ae.refl _ M1),ld2 (ae.refl _ M1),ld3 (ae.refl _ M1)]
 rw[bM]
 refine⟨by simp; omega, ?_⟩
 rw[bM]
 refine⟨by simp; omega, ?_⟩
 rw[bM]
 refine⟨by simp; omega, ?_⟩
 rw[bM]
 refine⟨by simp; omega, ?_⟩
 rw[aK.len hb,aK.len hb]
 refine hc (n:=body.length) (k01.base.trans hB) (by omega) fun M2 k2=>?_
 have k02:=k01.trans k2
 rw[ld0 k2]; refine⟨rfl, ?_⟩
 rw[ld1 k2]; refine⟨rfl, ?_⟩
 rw[ld2 k2]; refine⟨rfl, ?_⟩
 rw[ld3 k2]; refine⟨rfl, ?_⟩
 rw[ld3 k2]; refine⟨rfl, ?_⟩
 have hil:(gM body.length).length≤20:=qg _ _ _
 refine hp (more:=(nE,gM body.length)) (k02.base.trans hB) (aK.keep hh k02 (by simp)) hll hle (by simp; omega) (by simp) (by simpa using (by omega:(gM body.length).length≤1000000)) (aK.keep hb k02 (by simp)) hbl (fun s v' M3 e3 hl3 k3 o3=>?_) (fun e' M3 e3 he k3=>?_)
 ·simp only[aX,aY]
  exact hQ s v' M3 e3 hl3 (k02.trans k3) (Own.mono o3 k02.next)
 ·simp only[aX,aY]
  exact hE e' M3 e3 he (k02.trans k3)
def Cb (n:Int) : Bool:=decide (n<100) || decide (n > 599)
def vX (n:Int) : Str:=if (n.tdiv 100 == 2)=true then[79,75] else[78,111]
def DU (n:Int) : Str:=Fq++gM n.toNat++[32]++vX n
def jH (n:Int) (l:List Hd) (body:Str) : Except Nat Str:=match Cb n with
 | true=>.error 1
 | false=>gJ (DU n) l (nE,gM body.length) body.length body
def Ah (B:Base) (T:Nat) (c:ai) : Prop:=∀ {M:RM} {hv bv:AV} {n:Int} {body:Str} {l:List Hd} {Q:ah},M.base=B→Sl HD M hv l→l.length≤1000→(∀ h∈l,h.1.length≤281474976710656∧h.2.length≤281474976710656) →
 Sl BY M bv body→body.length≤1000000000 →
 (∀ s v' M',jH n l body=.ok s→s.length≤2048 + body.length→ae [] M M'→Ow BY M' M.next T v' s→Q (.tup [v',N .i64 0]) M')→(∀ (e:Nat) M',jH n l body=.error e→(e=1∨e=2)→ae [] M M'→Q (.tup [aH,N .i64 (e:Int)]) M') →
 c [.agg [N .i64 n,hv,bv]] M Q
theorem Ck {B:Base} {T T8:Nat} {ci cc cp:ai} (hi:IX B ci) (hc:tJ B cc) (hp:pJ B T8 cp) : Ah B T8 fun args M Q=>∃ a0,args=[a0]∧gL T ci cc cp a0 M Q:=by
 intro M hv bv n body l Q hB hh hll hle hb hbl hQ hE
 refine⟨_,rfl, ?_⟩
 unfold gL
 have ohv:=aK.one hh
 have obv:=aK.one hb
 rw[lc (by simp only[List.all_cons,List.all_nil,ohv,obv]; rfl) (by simp)]
 simp only[aS]
 have k0:ae [] M (M.push (.row [N .i64 n,hv,bv] false T 0)):=(ae.refl _ _).push _
 have n0:(M.push (.row [N .i64 n,hv,bv] false T 0)).heap M.next=some (.row [N .i64 n,hv,bv] false T 0):=by simp[RM.push]
 have l0:M.next<(M.push (.row [N .i64 n,hv,bv] false T 0)).next:=by simp[RM.push]
 generalize M.push (.row [N .i64 n,hv,bv] false T 0)=M1 at *
 have ld0:∀ {M' : RM} (k:ae [] M1 M') {K' : AV→Prop},ax M' (.ptr M.next 0) K'=K' (N .i64 n):=fun k=>bu (k.aO n0 l0 (by simp)) rfl
 have ld1:∀ {M' : RM} (k:ae [] M1 M') {K' : AV→Prop},ax M' (.ptr M.next 1) K'=K' hv:=fun k=>bu (k.aO n0 l0 (by simp)) rfl
 have ld2:∀ {M' : RM} (k:ae [] M1 M') {K' : AV→Prop},ax M' (.ptr M.next 2) K'=K' bv:=fun k=>bu (k.aO n0 l0 (by simp)) rfl
 simp only[jK,bW,ld0 (ae.refl _ M1),ld1 (ae.refl _ M1),ld2 (ae.refl _ M1),iK]
 refine CF (p:=decide (n > 599)) (fun _ k hk=>?_) ?_
 ·simpa only[eD,ld0 (ae.refl _ M1)] using hk
 have hbc:(decide (n<100) || decide (n > 599))=Cb n:=rfl
 rw[hbc]
 refine dE (fun h=>?_) fun h=>?_
 ·exact hE 1 M1 (by unfold jH; rw[h]) (.inl rfl) k0
 have h':=h
 unfold Cb at h'
 simp only[Bool.or_eq_false_iff,decide_eq_false_iff_not] at h'
 have e:jH n l body=gJ (DU n) l (nE,gM body.length) body.length body:=by unfold jH; rw[h]
 rw[e] at hQ hE
 rw[nD,ld0 (ae.refl _ M1),KX]
 refine⟨by decide, ?_⟩
 have hdv:1≤n.tdiv 100∧n.tdiv 100≤5:=by
  rw[Int.tdiv_eq_ediv_of_nonneg (by omega)]; omega
 rw[gB (by omega) (by omega),bI]
 have tail:∀ w:Str,w=vX n→((ax M1 (.ptr M.next 0) fun t18=>ax M1 (.ptr M.next 1) fun t25=>ax M1 (.ptr M.next 2) fun t27=>aU t27 fun t28=>ax M1 (.ptr M.next 2) fun t31=>aU t31 fun t32=>ax M1 (.ptr M.next 2) fun t34=>ci [t18] M1 fun t19 M_9=>ax M_9 (.ptr M.next 1) fun OE=>(OE=t25∧ax M_9 (.ptr M.next 2) fun OL=>(OL=t27∧ax M_9 (.ptr M.next 2) fun NP=>(NP=t31∧ax M_9 (.ptr M.next 2) fun NK=>(NK=t34∧aR .add (St [72,84,84,80,47,49,46,49,32]) t19 fun t20=>aR .add t20 (St [32]) fun t21=>aR .add t21 (St w) fun t23=>cc [t28] M_9 fun t29 Hz=>ax Hz (.ptr M.next 1) fun OG=>(OG=t25∧ax Hz (.ptr M.next 2) fun Od=>(Od=t31∧ax Hz (.ptr M.next 2) fun Nv=>(Nv=t34∧cp [t23,t25,t29,t32,t34] Hz fun t35 KG=>aD t35 0 fun t36=>aD t35 1 fun t37=>Q (.tup [t36,t37]) KG)))))))) : Prop):=by
  intro w hw
  rw[ld0 (ae.refl _ M1),ld1 (ae.refl _ M1),ld2 (ae.refl _ M1),aK.len hb,ld2 (ae.refl _ M1),aK.len hb,ld2 (ae.refl _ M1)]
  obtain⟨m,rfl⟩ : ∃ m:Nat,n=(m:Int):=⟨n.toNat,by omega⟩
  refine hi (k0.base.trans hB) (by omega) fun M2 k2=>?_
  rw[ld1 k2]; refine⟨rfl, ?_⟩
  rw[ld2 k2]; refine⟨rfl, ?_⟩
  rw[ld2 k2]; refine⟨rfl, ?_⟩
  rw[ld2 k2]; refine⟨rfl, ?_⟩
  have hl1:(gM m).length≤20:=qg _ _ _
  have hl2:(gM body.length).length≤20:=qg _ _ _
  have hwl:w.length≤2:=by rw[hw]; unfold vX; split <;> simp
  rw[bM]
  refine⟨by simp; omega, ?_⟩
  rw[bM]
  refine⟨by simp; omega, ?_⟩
  rw[bM]
  refine⟨by simp; omega, ?_⟩
  have k02:=k0.trans k2
  refine hc (n:=body.length) (k02.base.trans hB) (by omega) fun M3 k3=>?_
  have k23:=k2.trans k3
  rw[ld1 k23]; refine⟨rfl, ?_⟩
  rw[ld2 k23]; refine⟨rfl, ?_⟩
  rw[ld2 k23]; refine⟨rfl, ?_⟩
  have k03:=k0.trans k23
  have Mj:[72,84,84,80,47,49,46,49,32]++gM m++[32]++w=DU (m:Int):=by rw[hw]; rfl
  rw[Mj]
  have Q9:(DU (m:Int)).length≤1000000:=by rw[← Mj]; simp; omega
  refine hp (more:=(nE,gM body.length)) (k03.base.trans hB) (aK.keep hh k03 (by simp)) hll hle Q9 (by simp) (by simpa using (by omega:(gM body.length).length≤1000000)) (aK.keep hb k03 (by simp)) hbl (fun s v' M4 e4 hl4 k4 o4=>?_) (fun e' M4 e4 he k4=>?_)
  ·simp only[aX,aY]
   exact hQ s v' M4 e4 hl4 (k03.trans k4) (Own.mono o4 k03.next)
  ·simp only[aX,aY]
   exact hE e' M4 e4 he (k03.trans k4)
 refine dE (fun h=>?_) fun h=>?_
 ·exact tail [79,75] (by unfold vX; rw[if_pos h])
 ·exact tail [78,111] (by unfold vX; rw[if_neg (by rw[h]; decide)])
abbrev ZB:List AV:=[N .u8 0]
theorem tV (n:Nat) : (bZ ZB n).length=n∧(bZ ZB n).all oneCell=true:=by
 induction n with
 | zero=>simp[bZ]
 | succ n ih=>rw[bZ,List.length_append,List.all_append,ih.1,ih.2]; simp[oneCell]; omega
theorem EE:∀ (a b:Nat),bZ ZB (a + b)=bZ ZB a++bZ ZB b
 | 0,b=>by simp[bZ]
 | a + 1,b=>by rw[show a + 1 + b=(a + b) + 1 by omega,bZ,bZ,EE a b]; simp
theorem jN (s:Str) : (BY.row s).length=s.length:=by rw[Enc.fo]; simp[BY]
theorem O4 {M:RM} {b T k:Nat} {ps ys:Str} {u:AV} {zs:List AV} {K:ah} (hb:M.heap b=some (.row (BY.row ps++bZ ZB k) true T 0)) (hu:Sl BY M u ys) (hk:ys.length≤k) (hl:ps.length + ys.length≤1000000000)
  (hK:∀ M',M'.heap b=some (.row (BY.row (ps++ys)++bZ ZB (k - ys.length)) true T 0)→ae [b] M M'→M'.next=M.next→K (.slc b 0 (ps++ys).length (.op 1)) M') :
  appW T 1 1 zs false (.slc b 0 ps.length (.op 1)) u M K:=by
 have hn:=aK.l8 hu zs
 refine⟨ys.length,BY.row ys,hn,by omega,by omega, ?_⟩
 by_cases h0:ys.length=0
 ·have:ys=[]:=List.length_eq_zero_iff.1 h0
  subst this
  refine⟨.slc b 0 ps.length (.op 1),M,by simp[pQ], ?_⟩
  have:=hK M (by simpa using hb) (ae.refl _ _) rfl
  simpa using this
 ·have hfit:0 + (ps.length + ys.length) * 1≤(BY.row ps++bZ ZB k).length:=by
   rw[List.length_append,jN,(tV k).1]; omega
  refine⟨.slc b 0 (ps.length + ys.length) (.op 1),M.put b (.row (BY.row (ps++ys)++bZ ZB (k - ys.length)) true T 0), ?_, ?_⟩
  ·simp only[pQ,if_neg h0,hb]
   rw[if_pos (by simp),if_pos hfit,RM.vK hb,qi (by rw[jN,List.length_append,jN,(tV k).1]; omega) (by omega) (BY.pu ys)]
   simp only[Option.map_some]
   congr 4
   rw[Enc.mo]
   have e1:(BY.row ps++bZ ZB k).take (0 + ps.length * 1)=BY.row ps:=by rw[List.take_left' (by rw[jN]; omega)]
   have e2:(BY.row ps++bZ ZB k).drop (0 + ps.length * 1 + (BY.row ys).length)=bZ ZB (k - ys.length):=by
    rw[show bZ ZB k=bZ ZB ys.length++bZ ZB (k - ys.length) by rw[← EE]; congr 1; omega,← List.append_assoc,List.drop_left' (by rw[List.length_append,jN,(tV _).1,jN]; omega)]
   rw[e1,e2]
  ·have:=hK _ (aM _) ((ae.refl _ _).put _ (.inr (by simp))) rfl
   rw[List.length_append] at this
   exact this
theorem Mr {M:RM} {base T n:Nat} {v:AV} {cs:List AV} (h:Own M base T 1 v cs n) (hn:0<n) : ∃ b,v=.slc b 0 n (.op 1)∧base≤b∧b<M.next∧M.heap b=some (.row cs true T 0):=by
 cases h with
 | nil=>omega
 | ex0 b o _ _ _=>omega
 | op b n cs h1 h2 h3 h4=>exact⟨b,rfl,h1,h2,h3⟩
def Fb (T:Nat) (c:ai) : Prop:=∀ {M:RM} {n:Nat} {Q:ah},n≤1000000000→0<n →
 (∀ b M',M.next≤b→b<M'.next→M'.heap b=some (.row (bZ ZB n) true T 0)→ae [] M M'→Q (.slc b 0 0 (.op 1)) M')→c [aH,N .i64 (n:Int)] M Q
theorem Ih {TS T:Nat} : Fb T fun args M Q=>∃ a0 a1,args=[a0,a1]∧rJ TS T a0 a1 M Q:=by
 intro M n Q hn hz h1
 refine⟨_,_,rfl, ?_⟩
 unfold rJ
 rw[nD,iK,show decide ((n:Int)<0)=false by simp,bg]
 dsimp only
 rw[nD]
 have hcap:∀ K:AV→Prop,tQ aH K=K (N .i64 0):=fun K=>by
  unfold tQ
  exact propext ⟨fun⟨m,h,k⟩=>by cases h; exact k,fun k=>⟨0,rfl,k⟩⟩
 rw[hcap,yL,jZ,show IntKind.wrap .i64 ((0:Int) - 0)=0 from by rw[gB] <;> decide,jZ,Int.sub_zero,gB (by omega) (by omega),eD]
 dsimp only[au]
 rw[show decide ((n:Int) > 0)=true by simp; omega,bS,hcap,show dx 1 aH none (some (N .i64 0)) none=some aH by simp[dx,bnd],dW]
 have hr:=tV n
 refine xJ (base:=M.next) (m:=n) (ds:=bZ ZB n) .nil (Nat.le_refl _) (Nat.le_refl _) (by simp[l8]) (by rw[hr.1,Nat.mul_one]) hr.2 (by omega) (by omega) ?_
 intro v' M' o k _ _
 rw[Nat.zero_add] at o
 obtain⟨b,rfl,q1,q2,q3⟩:=Mr o (by omega)
 rw[yL,show dx 1 (.slc b 0 n (.op 1)) none (some (N .i64 0)) none=some (.slc b 0 0 (.op 1)) by simp[dx,bnd]; omega,dW]
 exact h1 b M' q1 q2 (by simpa using q3) (by simpa [aN] using k)
def yO (T:Nat) (c:ai) : Prop:=∀ {M:RM} {bb TB:Nat} {vs:List AV} {xss:List Str} {Q:ah},M.heap bb=some (.row vs false TB 0)→bb<M.next→vs.length=xss.length→vs.length≤1000→(∀ (i:Nat) (v:AV) (x:Str),vs[i]?=some v→xss[i]?=some x→Sl BY M v x) →
 0<xss.flatten.length→xss.flatten.length≤1000000000→(∀ r M',Ow BY M' M.next T r xss.flatten→ae [] M M'→Q r M')→c [.slc bb 0 vs.length (.ex vs.length)] M Q
theorem EA {TS T:Nat} {cg:ai} (hg:Fb T cg) : yO T fun args M Q=>∃ a0,args=[a0]∧oo TS cg T a0 M Q:=by
 intro M bb TB vs xss Q hb hbl hlen hvl hv hpos hmax hQ
 refine⟨_,rfl, ?_⟩
 unfold oo
 simp only[nD]
 have at_:∀ (i:Nat) (K:AV→Prop),i<vs.length→bY (.slc bb 0 vs.length (.ex vs.length)) (N .i64 (i:Int)) 1 K=K (.ptr bb i):=fun i K hi=>by
  rw[qH]
  simp only[Int.toNat_natCast,Nat.mul_one,Nat.zero_add]
  exact propext ⟨fun h=>h.2.2,fun h=>⟨by omega,by omega,h⟩⟩
 have hfl:∀ i,i≤xss.length→(xss.take i).flatten.length≤xss.flatten.length:=fun i _=>by
  have e:xss.flatten=(xss.take i).flatten++(xss.drop i).flatten:=by rw[← List.flatten_append,List.take_append_drop]
  rw[e,List.length_append]; omega
 have hst:∀ i (hi:i<xss.length),(xss.take (i + 1)).flatten=(xss.take i).flatten++xss[i]:=fun i hi=>by
  rw[List.take_succ_eq_append_getElem hi,List.flatten_append,List.flatten_cons,List.flatten_nil,List.append_nil]
 rw[jJ]
 refine dF (fun m zs M3=>∃ i:Nat,m=vs.length - i∧i≤vs.length∧zs=[N .i64 ((xss.take i).flatten.length:Int),N .i64 (i:Int)]∧M3=M) _ ⟨0,rfl,Nat.zero_le _,rfl,rfl⟩ ?_
 rintro next m zs M3 hnext ⟨i,rfl,hi,rfl,rfl⟩
 simp only[bz,dm,wB]
 refine dE (fun h=>?_) fun h=>?_
 ·have hlt:i<vs.length:=by simpa using h
  have hlx:i<xss.length:=by omega
  have sl:=hv i vs[i] xss[i] (List.getElem?_eq_getElem hlt) (List.getElem?_eq_getElem hlx)
  have h1:=hfl (i + 1) (by omega)
  have h2:=congrArg List.length (hst i hlx)
  rw[List.length_append] at h2
  rw[at_ i _ hlt,bu hb (List.getElem?_eq_getElem hlt),aK.len sl,addN (by omega),iK,show decide ((((xss.take i).flatten.length + xss[i].length:Nat) : Int)<0)=false by simp; omega,bg]
  try simp only[bz]
  rw[add1 (by omega)]
  exact hnext _ _ _ (by omega) ⟨i + 1,rfl,by omega,by rw[h2],rfl⟩
 ·have:i=vs.length:=by simp at h; omega
  subst this
  rw[hlen,List.take_length]
  refine hg hmax hpos fun b M4 hb0 hb1 hrow k4=>?_
  rw[← hlen,jJ]
  have hbb:bb≠b:=by omega
  refine dF (fun m zs M5=>∃ i:Nat,m=vs.length - i∧i≤vs.length∧zs=[.slc b 0 (xss.take i).flatten.length (.op 1),N .i64 (i:Int)]∧ae [b] M4 M5∧M5.next=M4.next ∧
    M5.heap b=some (.row (BY.row (xss.take i).flatten++bZ ZB (xss.flatten.length - (xss.take i).flatten.length)) true T 0)) _
   ⟨0,rfl,Nat.zero_le _,rfl,ae.refl _ _,rfl,by simpa [Enc.row] using hrow⟩ ?_
  rintro next2 m zs M5 Ny ⟨i,rfl,hi2,rfl,k5,n5,D8⟩
  simp only[bz,dm,wB]
  refine dE (fun h=>?_) fun h=>?_
  ·have hlt:i<vs.length:=by simpa using h
   have hlx:i<xss.length:=by omega
   have sl:=hv i vs[i] xss[i] (List.getElem?_eq_getElem hlt) (List.getElem?_eq_getElem hlx)
   have hb4:=k4.aO hb hbl (by simp)
   have hb5:=k5.aO hb4 (by omega) (by simp; exact hbb)
   have sl5:Sl BY M5 vs[i] xss[i]:=aK.keep (aK.keep sl k4 (by simp)) k5 (fun d hd hm=>by have:=aK.lt sl d hd; simp at hm; omega)
   have h1:=hfl (i + 1) (by omega)
   have h2:=congrArg List.length (hst i hlx)
   rw[List.length_append] at h2
   rw[at_ i _ hlt,bu hb5 (List.getElem?_eq_getElem hlt)]
   refine O4 D8 sl5 (by omega) (by omega) fun M6 PK k6 n6=>?_
   rw[add1 (by omega)]
   refine Ny _ _ _ (by omega) ⟨i + 1,rfl,by omega,by rw[hst i hlx],k5.trans k6,by rw[n6,n5], ?_⟩
   rw[PK,hst i hlx,List.length_append,Nat.sub_sub]
  ·have:i=vs.length:=by simp at h; omega
   subst this
   rw[hlen,List.take_length] at D8 ⊢
   rw[Nat.sub_self] at D8
   have OD:M5.heap b=some (.row (BY.row xss.flatten) true T 0):=by simpa [bZ] using D8
   refine hQ _ M5 (Own.op _ _ _ hb0 (by omega) OD (by rw[Enc.fo])) ?_
   exact⟨k5.base.trans k4.base,by rw[n5]; exact k4.next,fun x hx _=>by rw[k5.heap x (Nat.lt_of_lt_of_le hx k4.next) (by simp; omega),k4.heap x hx (by simp)]⟩
def Cx (T:Nat) (c:ai) : Prop:=∀ {M:RM} {v:AV} {s:List Int} {Q:ah},Sl INT M v s→s.length≤1000000→(∀ v' M',Ow INT M' M.next T v' s→ae [] M M'→Q v' M')→c [v] M Q
theorem FT {T:Nat} : Cx T fun args M Q=>∃ a0,args=[a0]∧sw T a0 M Q:=by
 intro M v s Q hv hl hQ
 refine⟨_,rfl, ?_⟩
 unfold sw
 rcases aK.ug hv false with⟨rfl,he⟩ | ⟨hne,he⟩
 ·rw[he,show(!false)=true from rfl,bS]
  have:s=[]:=by
   unfold Sl at hv
   cases s with
   | nil=>rfl
   | cons x s=>generalize hcs:INT.row (x :: s)=cs at *; generalize hn:(x :: s).length=n at *; cases hv; cases hcs
  subst this
  exact hQ aH M .nil (ae.refl _ _)
 ·rw[he,bg,Hm]
  simp only[aS]
  have k1:ae [] M (M.push (.row [] false T 0)):=(ae.refl _ _).push _
  refine pq (E:=INT) (Ow.lit INT M) (by simp[RM.push]) (by decide) (aK.keep hv k1 (by simp)) (by simp; omega) (by simp; omega) fun v7 M7 o7 k7 _ _=>?_
  refine hQ v7 M7 (by simpa using o7) ?_
  refine ae.own k1 k7 (fun b hb=>?_)
  simp[aN] at hb; omega
theorem GA {M:RM} {base T:Nat} {v:AV} {xs s:Str} {zs:List AV} {K:ah} (ho:Ow BY M base T v xs) (hb:base≤M.next) (hn:xs.length + s.length≤1000000000)
  (hK:∀ v' M',Ow BY M' base T v' (xs++s)→ae (aN v) M M'→K v' M') : appW T 1 1 zs false v (St s) M K:=by
 have e:l8 M 1 zs false (St s)=some (s.length,BY.row s):=by simp[l8,Be]
 refine xJ ho hb (by decide) e (by rw[jN,Nat.mul_one]) (BY.pu s) (by omega) (by omega) fun v' M' h1 h2 _ _=>?_
 refine hK v' M' ?_ h2
 rw[← Enc.mo] at h1
 unfold Ow; rw[List.length_append]; exact h1
def rF (n:Int) (rest:Str) : Int:=if (rest.length:Int)<n then(rest.length:Int) else n
def nS (s:Str) : Str:=fH s.length++[13,10]++s++[13,10]
def iO:List Int→Str→Str→Str × Str
 | [],acc,rest=>(acc,rest)
 | n :: ns,acc,rest=>match decide (rF n rest<1) with
   | true=>iO ns acc rest
   | false=>iO ns (acc++nS (rest.take (rF n rest).toNat)) (rest.drop (rF n rest).toNat)
abbrev IM:Str:=[48,13,10,13,10]
def jf (m p:Str) (l:List Hd) (body:Str) (sizes:List Int) : Except Nat Str:=match uN m p with
 | false=>.error 1
 | true=>gJ (DX m p) l (G6,CO) body.length ((iO (sizes++[(body.length:Int)]) [] body).1++IM)
theorem OW {T:Nat} {zs:List AV} {a b c d z:AV} {K:RB→(Nat→AV)→Prop} (ha:a.cells=[a]) (hb:b.cells=[b]) (hc:c.cells=[c]) (hd:d.cells=[d]) (ha1:oneCell a=true) (hb1:oneCell b=true) (hc1:oneCell c=true) (hd1:oneCell d=true) :
  dB T 4 [z] [(0,1,a),(1,1,b),(2,1,c),(3,1,d)] K=K (.row [a,b,c,d] false T 0) (fun b=>.slc b 0 4 (.ex 4)):=by
 have:nO (bZ [z] 4) [(0,1,a),(1,1,b),(2,1,c),(3,1,d)]=some [a,b,c,d]:=by
  simp[nO,bZ,ha,hb,hc,hd,ha1,hb1,hc1,hd1]
 apply propext; unfold dB
 constructor
 ·rintro⟨l,h,hk⟩; rw[this] at h; cases h; exact hk
 ·intro hk; exact⟨_,this,hk⟩
theorem Bs.new (M:RM) (T:Nat) (s:Str) : Bs (M.push (.row (BY.row s) true T 0)) (.slc M.next 0 s.length (.op 1)) s:=⟨(Rw.new M s).sl,rfl⟩
def yG (B:Base) (T:Nat) (c:ai) : Prop:=∀ {M:RM} {hv bv sv:AV} {m p body:Str} {l:List Hd} {sizes:List Int} {Q:ah},M.base=B→Sl HD M hv l→l.length≤1000→(∀ h∈l,h.1.length≤281474976710656∧h.2.length≤281474976710656) →
 m.length≤281474976710656→p.length≤281474976710656→Bs M bv body→body.length≤1000000→Sl INT M sv sizes→sizes.length≤1000 →
 (∀ s v' M',jf m p l body sizes=.ok s→s.length≤100000000→ae [] M M'→Ow BY M' M.next T v' s→Q (.tup [v',N .i64 0]) M')→(∀ (e:Nat) M',jf m p l body sizes=.error e→(e=1∨e=2)→ae [] M M'→Q (.tup [aH,N .i64 (e:Int)]) M') →
 c [.agg [St m,St p,hv,bv],sv] M Q
theorem Bj {B:Base} {T TI T8 TB:Nat} {cg ck cf cc cp:ai} (hg:tN cg) (hk:Cx TI ck) (hf:BV B cf) (hc:yO T8 cc) (hp:pJ B T8 cp) :
  yG B T8 fun args M Q=>∃ a0 a1,args=[a0,a1]∧jW T cg ck TI T8 cf TB cc cp a0 a1 M Q:=by
 intro M hv bv sv m p body l sizes Q hB hh hll hle hm hpl hb hbl hsv hsl hQ hE
 refine⟨_,_,rfl, ?_⟩
 unfold jW
 have ohv:=aK.one hh
 have obv:=aK.one hb.sl
 rw[lc (by simp only[List.all_cons,List.all_nil,ohv,obv]; rfl) (by simp)]
 simp only[aS]
 have k0:ae [] M (M.push (.row [St m,St p,hv,bv] false T 0)):=(ae.refl _ _).push _
 have n0:(M.push (.row [St m,St p,hv,bv] false T 0)).heap M.next=some (.row [St m,St p,hv,bv] false T 0):=by simp[RM.push]
 have l0:M.next<(M.push (.row [St m,St p,hv,bv] false T 0)).next:=by simp[RM.push]
 generalize M.push (.row [St m,St p,hv,bv] false T 0)=M0 at *
 rw[bV n0 (by rfl)]
 refine hg ohv obv (by omega) (by omega) fun M1 k1=>?_
 have n1:=k1.aO n0 l0 (by simp)
 have l1:=Nat.lt_of_lt_of_le l0 k1.next
 have k01:=k0.trans k1
 simp only[bX]
 refine dE (fun h=>?_) fun h=>?_
 ·have hk:uN m p=false:=by simpa using h
  exact hE 1 M1 (by unfold jf; rw[hk]) (.inl rfl) k01
 have hok:uN m p=true:=by simpa using h
 obtain⟨q1,q2⟩:=EM hok
 have e:jf m p l body sizes=gJ (DX m p) l (G6,CO) body.length ((iO (sizes++[(body.length:Int)]) [] body).1++IM):=by unfold jf; rw[hok]
 rw[e] at hQ hE
 have ld:∀ {M' : RM} (k:ae [] M1 M') (i:Nat) (x:AV),([St m,St p,hv,bv] : List AV)[i]?=some x→∀ {K' : AV→Prop},ax M' (.ptr M.next i) K'=K' x:=fun k i x hx=>bu (k.aO n1 l1 (by simp)) hx
 simp only[jK]
 rw[ld (ae.refl _ _) 3 bv rfl]
 refine hk (aK.keep hsv k01 (by simp)) (by omega) fun v2 M2 o2 k2=>?_
 rw[hb.len,xM (by rfl) (by rfl) (by rfl)]
 simp only[aS]
 have k02:=k01.trans k2
 refine wV (E:=INT) (a:=(body.length:Int)) (Own.mono o2 k01.next) k02.next (by decide) (by omega) (by omega) fun v3 M3 o3 k3 _ _=>?_
 have k03:ae [] M M3:=ae.own k02 k3 (fun x hx=>by have:=(Own.blk o2 x hx).1; have:=k01.next; omega)
 have k13:ae [] M1 M3:=ae.own k2 k3 (fun x hx=>(Own.blk o2 x hx).1)
 generalize hns:sizes++[(body.length:Int)]=ns at *
 have hnl:ns.length≤1001:=by rw[← hns]; simp; omega
 have s3:Sl INT M3 v3 ns:=Own.oq o3
 rw[aK.len s3]
 refine dF (fun z ys M4=>∃ (i:Nat) (av rv:AV) (acc rest:Str),z=ns.length - i∧ys=[av,rv,N .i64 (i:Int)]∧i≤ns.length∧ae [] M3 M4∧Ow BY M4 M1.next T8 av acc∧Bs M4 rv rest∧(∀ x∈aN rv,x∈aN bv) ∧
   iO ns [] body=iO (ns.drop i) acc rest∧acc.length + rest.length≤i * 30 + body.length) _
  ⟨0,aH,bv,[],body,rfl,rfl,Nat.zero_le _,ae.refl _ _,.nil,hb.keep k03 (by simp),fun x hx=>hx,rfl,by simp⟩ ?_
 rintro next z ys M4 hnext ⟨i,av,rv,acc,rest,rfl,rfl,hi,k4,oa,hr,hrb,hch,hal⟩
 simp only[bz,dm,wB]
 have k34:=k03.trans k4
 have k14:=k13.trans k4
 refine dE (fun h=>?_) fun h=>?_
 ·have hlt:i<ns.length:=by simpa using h
  have s4:Sl INT M4 v3 ns:=aK.keep s3 k4 (by simp)
  obtain⟨b0,o0,_,_,hix,hld⟩:=s4.at 1 (i:Int) hlt
  have hdr:ns.drop i=ns[i] :: ns.drop (i + 1):=List.drop_eq_getElem_cons hlt
  rw[nD,hix,dw]
  refine⟨_,dM.1 hld, ?_⟩
  rw[hr.len,JL]
  have hcut:(if false=true then(if (rest.length:Int) > ns[i] then(rest.length:Int) else ns[i]) else if (rest.length:Int)<ns[i] then(rest.length:Int) else ns[i])=rF ns[i] rest:=by
   unfold rF; simp
  rw[hcut,iK]
  refine dE (fun h=>?_) fun h=>?_
  ·simp only[bz,dm]
   rw[add1 (by omega)]
   refine hnext _ _ _ (by omega) ⟨i + 1,av,rv,acc,rest,rfl,rfl,by omega,k4,oa,hr,hrb, ?_,by omega⟩
   rw[hch,hdr,iO,h]
  ·obtain⟨k,hk,hkl,hk1⟩ : ∃ k:Nat,rF ns[i] rest=(k:Int)∧k≤rest.length∧1≤k:=by
    have h1:¬ rF ns[i] rest<1:=by simpa using h
    refine⟨(rF ns[i] rest).toNat,by omega, ?_,by omega⟩
    have:rF ns[i] rest≤rest.length:=by unfold rF; split <;> omega
    omega
   have hstep:iO (ns.drop i) acc rest=iO (ns.drop (i + 1)) (acc++nS (rest.take k)) (rest.drop k):=by
    rw[hdr,iO,h,hk,Int.toNat_natCast]
   have htl:(rest.take k).length=k:=by simp; omega
   have hcb:nS (rest.take k)=fH k++[13,10]++rest.take k++[13,10]:=by unfold nS; rw[htl]
   have hxl:(fH k).length≤20:=qg _ _ _
   rw[hk]
   obtain⟨t39,e39,h39,hsub39⟩ : ∃ v',dx 1 rv none (some (N .i64 (k:Int))) none=some v'∧Bs M4 v' (rest.take k)∧(∀ x∈aN v',x∈aN rv):=by
    have:=hr.sub (Es 0) (kL _ k .i64) (Nat.zero_le _) hkl (K:=fun v'=>Bs M4 v' (rest.take k)∧(∀ x∈aN v',x∈aN rv)) (fun v' h1 h2=>⟨by simpa using h1,h2⟩)
    obtain⟨v',h1,h2⟩:=this
    exact⟨v',h1,h2.1,h2.2⟩
   obtain⟨t46,e46,h46,OH⟩ : ∃ v',dx 1 rv (some (N .i64 (k:Int))) none none=some v'∧Bs M4 v' (rest.drop k)∧(∀ x∈aN v',x∈aN rv):=by
    have:=hr.sub (kL 0 k .i64) (Es _) hkl (Nat.le_refl _) (K:=fun v'=>Bs M4 v' (rest.drop k)∧(∀ x∈aN v',x∈aN rv)) (fun v' h1 h2=>⟨by rw[List.take_of_length_le (by simp)] at h1; exact h1,h2⟩)
    obtain⟨v',h1,h2⟩:=this
    exact⟨v',h1,h2.1,h2.2⟩
   -- put together
   have fin:∀ (M5:RM) (t36 t41:AV),ae [] M4 M5→Bs M5 t36 (fH k++[13,10])→Bs M5 t41 [13,10] →
     (dB TB 4 [(.sc (.slice none 0 0))] [(0,1,av),(1,1,t36),(2,1,t39),(3,1,t41)] fun Qs Rk=>uH Qs Rk M5 fun t42 Ld b_19=>cc [t42] Ld fun t43 Ie=>bH (dx 1 rv (some (N .i64 (k:Int))) none none) fun t46=>af .add (N .i64 (i:Int)) (N .i64 1) fun t47=>next [(au [t43,t46] 0),(au [t43,t46] 1),t47] Ie):=by
    intro M5 t36 t41 k5 h36 h41
    have a5:=oa.keep k5 (by simp)
    have b5:=h39.keep k5 (by simp)
    rw[OW (z:=.sc (.slice none 0 0)) (zs:=[]) (Own.cells a5) (aK.cells h36.sl) (aK.cells b5.sl) (aK.cells h41.sl) (Own.one a5) (aK.one h36.sl) (aK.one b5.sl) (aK.one h41.sl)]
    simp only[CE]
    have k6:ae [] M5 (M5.push (.row [av,t36,t39,t41] false TB 0)):=(ae.refl _ _).push _
    have n6:(M5.push (.row [av,t36,t39,t41] false TB 0)).heap M5.next=some (.row [av,t36,t39,t41] false TB 0):=by simp[RM.push]
    have l6:M5.next<(M5.push (.row [av,t36,t39,t41] false TB 0)).next:=by simp[RM.push]
    generalize M5.push (.row [av,t36,t39,t41] false TB 0)=M6 at *
    have hfl:([acc,fH k++[13,10],rest.take k,[13,10]] : List Str).flatten=acc++nS (rest.take k):=by rw[hcb]; simp
    have hfll:(acc++nS (rest.take k)).length≤acc.length + 24 + k:=by
     rw[hcb]; simp only[List.length_append,List.length_cons,List.length_nil,htl]; omega
    have QN:0<(acc++nS (rest.take k)).length:=by
     rw[hcb]; simp only[List.length_append,List.length_cons,List.length_nil]; omega
    refine hc (vs:=[av,t36,t39,t41]) (xss:=[acc,fH k++[13,10],rest.take k,[13,10]]) n6 l6 rfl (by simp) (fun j v x hv hx=>?_) (by rw[hfl]; exact QN) (by
      rw[hfl]
      have:i * 30≤1001 * 30:=Nat.mul_le_mul_right _ (by omega)
      omega) fun r M7 o7 k7=>?_
    ·rcases j with _ | _ | _ | _ | j
     ·cases hv; cases hx; exact aK.keep (Own.oq a5) k6 (by simp)
     ·cases hv; cases hx; exact aK.keep h36.sl k6 (by simp)
     ·cases hv; cases hx; exact aK.keep b5.sl k6 (by simp)
     ·cases hv; cases hx; exact aK.keep h41.sl k6 (by simp)
     ·cases hv
    rw[hfl] at o7
    have k47:=k5.trans (k6.trans k7)
    rw[e46,dW]
    simp only[bz,dm]
    rw[add1 (by omega)]
    refine hnext _ _ _ (by omega) ⟨i + 1,r,t46,acc++nS (rest.take k),rest.drop k,rfl,rfl,by omega,k4.trans k47,Own.mono o7 (Nat.le_trans (k14.trans k5).next k6.next),h46.keep k47 (by simp),fun x hx=>hrb x (OH x hx),by rw[hch,hstep], ?_⟩
    have:(rest.drop k).length=rest.length - k:=by simp
    omega
   refine⟨?_, ?_⟩
   ·rw[e39,dW]
    refine⟨[N .u8 13,N .u8 10],rfl, ?_⟩
    simp only[CE]
    have k5:ae [] M4 (M4.push (.row [N .u8 13,N .u8 10] false T8 0)):=(ae.refl _ _).push _
    have n5:(M4.push (.row [N .u8 13,N .u8 10] false T8 0)).heap M4.next=some (.row [N .u8 13,N .u8 10] false T8 0):=by simp[RM.push]
    have l5:M4.next<(M4.push (.row [N .u8 13,N .u8 10] false T8 0)).next:=by simp[RM.push]
    generalize M4.push (.row [N .u8 13,N .u8 10] false T8 0)=M5 at *
    refine hf ((k34.trans k5).base.trans hB) (by omega) fun M6 k6=>?_
    have n6:=k6.aO n5 l5 (by simp)
    have l6:=Nat.lt_of_lt_of_le l5 k6.next
    rw[dW]
    refine⟨rfl,[N .u8 13,N .u8 10],rfl,⟨n6,rfl⟩, ?_⟩
    rw[bM]
    refine⟨by simp; omega, ?_⟩
    rw[gD]
    have b7:=Bs.new M6 T8 (fH k++[13,10])
    have k7:ae [] M6 (M6.push (.row (BY.row (fH k++[13,10])) true T8 0)):=(ae.refl _ _).push _
    have n7:=k7.aO n6 l6 (by simp)
    have m7:(M6.push (.row (BY.row (fH k++[13,10])) true T8 0)).heap M6.next=some (.row (BY.row (fH k++[13,10])) true T8 0):=by simp[RM.push]
    have l7:M4.next<(M6.push (.row (BY.row (fH k++[13,10])) true T8 0)).next:=by simp[RM.push]; omega
    have l7' : M6.next<(M6.push (.row (BY.row (fH k++[13,10])) true T8 0)).next:=by simp[RM.push]
    generalize hM7:M6.push (.row (BY.row (fH k++[13,10])) true T8 0)=M7 at *
    refine⟨M4.next,0,2,2,[N .u8 13,N .u8 10],T8,rfl,n7, ?_⟩
    have k47:ae [] M4 M7:=k5.trans (k6.trans k7)
    have k8:ae [] M4 (M7.put M4.next (.row [N .u8 13,N .u8 10] false T8 (([N .u8 13,N .u8 10] : List AV).length + 1))):=k47.new _ (Nat.le_refl _)
    have m8:(M7.put M4.next (.row [N .u8 13,N .u8 10] false T8 (([N .u8 13,N .u8 10] : List AV).length + 1))).heap M6.next=some (.row (BY.row (fH k++[13,10])) true T8 0):=rW m7 (by omega)
    dsimp only
    rw[gD]
    refine⟨⟨m8,rfl⟩, ?_⟩
    rw[dW]
    refine⟨rfl, ?_⟩
    refine fin _ _ _ k8 ⟨?_,rfl⟩ ⟨?_,Nat.le_refl _⟩
    ·exact aK.slc _ _ _ _ _ (by rw[Eh]; exact l7') (by rw[RM.gz m8 (by rw[Enc.fo]; simp[BY]),List.drop_zero,List.take_of_length_le (by rw[Enc.fo]; simp[BY])])
    ·refine aK.slc _ _ _ _ _ (by rw[Eh]; exact l7) ?_
     rw[RM.gz (aM _) (by decide)]
     rfl
   ·refine⟨[N .u8 13,N .u8 10],rfl, ?_⟩
    simp only[CE]
    rw[e39,dW]
    refine⟨M4.next,0,2,2,[N .u8 13,N .u8 10],T8,rfl,by simp[RM.push], ?_⟩
    have k5:ae [] M4 ((M4.push (.row [N .u8 13,N .u8 10] false T8 0)).put M4.next (.row [N .u8 13,N .u8 10] false T8 (([N .u8 13,N .u8 10] : List AV).length + 1))):=((ae.refl _ _).push _).new _ (Nat.le_refl _)
    have b5:Bs ((M4.push (.row [N .u8 13,N .u8 10] false T8 0)).put M4.next (.row [N .u8 13,N .u8 10] false T8 (([N .u8 13,N .u8 10] : List AV).length + 1))) (.slc M4.next 0 2 (.ex 2)) [13,10]:=⟨by
     refine aK.slc _ _ _ _ _ (by simp[RM.push,RM.put]) ?_
     rw[RM.gz (aM _) (by decide)]
     rfl,Nat.le_refl _⟩
    dsimp only
    rw[dW]
    refine⟨rfl, ?_⟩
    refine hf ((k34.trans k5).base.trans hB) (by omega) fun M6 k6=>?_
    rw[dW]
    refine⟨rfl, ?_⟩
    rw[bM]
    refine⟨by simp; omega, ?_⟩
    rw[gD]
    have k7:ae [] M6 (M6.push (.row (BY.row (fH k++[13,10])) true T8 0)):=(ae.refl _ _).push _
    exact fin _ _ _ (k5.trans (k6.trans k7)) (Bs.new M6 T8 _) (b5.keep (k6.trans k7) (by simp))
 ·have:i=ns.length:=by simp at h; omega
  subst this
  rw[List.drop_length] at hch
  have hch' : iO ns [] body=(acc,rest):=hch
  rw[hch'] at hQ hE
  have:ns.length * 30≤1001 * 30:=Nat.mul_le_mul_right _ hnl
  refine GA oa k14.next (by simp; omega) fun v5 M5 o5 k5=>?_
  have k15:ae [] M1 M5:=ae.own k14 k5 (fun x hx=>(Own.blk oa x hx).1)
  have k05:ae [] M M5:=k01.trans k15
  rw[ld k15 0 (St m) rfl,bM]
  refine⟨by simp; omega, ?_⟩
  rw[ld k15 1 (St p) rfl,bM]
  refine⟨by simp; omega, ?_⟩
  rw[bM]
  refine⟨by simp; omega, ?_⟩
  rw[bM]
  refine⟨by simp; omega, ?_⟩
  rw[ld k15 2 hv rfl,gF]
  refine⟨_,Af rfl rfl rfl rfl, ?_⟩
  rw[ld k15 3 bv rfl,hb.len]
  have hl5:(acc++IM).length≤100000000 - 2048:=by simp; omega
  refine hp (more:=(G6,CO)) (body:=acc++IM) (sz:=body.length) (k05.base.trans hB) (aK.keep hh k05 (by simp)) hll hle (by simp; omega) (by simp) (by simp) (Own.oq o5) (by omega) (fun s v' M6 e6 hl6 k6 o6=>?_) (fun e' M6 e6 he k6=>?_)
  ·simp only[aX,aY]
   exact hQ s v' M6 e6 (by omega) (k05.trans k6) (Own.mono o6 k05.next)
  ·simp only[aX,aY]
   exact hE e' M6 e6 he (k05.trans k6)
end Go.Ab.Hw
set_option maxRecDepth 20000
namespace Go.Ab.Hw
open Go Go.Ab Go.Ab.Sm
open Go.Ab.Vl (pz)
theorem jR {f:(List AV→RM→Prop)→Prop} {g:List AV→RM→Prop} (x:List AV) (N:RM) (hf:∀ J:List AV→RM→Prop,J x N→f J) (hg:g x N) : dG f g:=hf g hg
def uy (n:Nat) : Int:=Qe .u8 (n:Int) 32
def Fh (c:ai) : Prop:=∀ {M:RM} {x:UInt8} {Q:ah},Q (N .u8 (uy x.toNat)) M→c [By x] M Q
theorem IY:Fh fun args M Q=>∃ a0,args=[a0]∧gH a0 M Q:=by
 intro M x Q hQ
 refine⟨_,rfl, ?_⟩
 unfold gH
 rw[Mx]
 exact hQ
def Iz (n:Nat) : Bool:=!(kJ (bq (UInt8.ofNat n)) && !dI (UInt8.ofNat n)) || (decide (97≤uy n) && decide (uy n≤122) && decide (uy n - 97 + 10=(ll (UInt8.ofNat n) : Int)) && !decide (n=95))
theorem J8:(List.range 256).all Iz=true:=by decide +kernel
theorem K5 (x:UInt8) : Iz x.toNat=true:=List.all_eq_true.1 J8 x.toNat (List.mem_range.2 x.toNat_lt)
theorem Gm {x:UInt8} (h:kJ (bq x)=true) (hd:dI x=false) : 97≤uy x.toNat∧uy x.toNat≤122∧uy x.toNat - 97 + 10=(ll x:Int)∧x.toNat≠95:=by
 have:=K5 x
 unfold Iz at this
 rw[UInt8.ofNat_toNat,h,hd] at this
 simp only[Bool.not_false,Bool.and_self,Bool.not_true,Bool.false_or,Bool.and_eq_true,decide_eq_true_eq,Bool.not_eq_true',decide_eq_false_iff_not] at this
 exact⟨this.1.1.1,this.1.1.2,this.1.2,this.2⟩
theorem J6 {s:Str} {i:Nat} (hi:i<s.length) : kE (s.take (i + 1))=kE (s.take i) * 16 + ll s[i]:=by
 unfold kE
 rw[List.take_succ_eq_append_getElem hi,List.foldl_append]
 rfl
theorem Bt {n:Int} (h0:0≤n) (h1:n<18446744073709551616) : IntKind.wrap .u64 n=n:=by
 simp only[IntKind.wrap,show(2:Int) ^ IntKind.u64.bits=18446744073709551616 from by decide]
 simp[IntKind.signed]
 omega
theorem Ai {TE T8:Nat} {cl cu:ai} (hl:Fh cl) : Cq fun args M Q=>∃ a0 a1 a2,args=[a0,a1,a2]∧fq TE cl T8 cu a0 a1 a2 M Q:=by
 intro M s Q h1 h8 hx hQ
 refine⟨_,_,_,rfl, ?_⟩
 unfold fq
 have hne:(s == [])=false:=by cases s with | nil=>simp at h1 | cons a b=>rfl
 rw[df,hne,bg,bI,show((16:Int) == 0)=false from rfl]
 refine jR (x:=[St s,N .i64 16]) (N:=M) (fun J hJ=>?_) ?_
 ·rw[qK,show decide ((2:Int)≤16)=true from rfl]
  simp only[bT,qK]
  rw[show decide ((16:Int)≤36)=true from rfl]
  simp only[dh,bS]
  exact hJ
 simp only[bz,dm]
 refine jR (x:=[N .i64 64]) (N:=M) (fun J hJ=>?_) ?_
 ·rw[bI,show((64:Int) == 0)=false from rfl,bg,iK,show decide ((64:Int)<0)=false from rfl]
  simp only[dK,eD]
  rw[show decide ((64:Int) > 64)=false from rfl]
  simp only[dZ,bg]
  exact hJ
 simp only[bz,dm]
 refine jR (x:=[N .u64 1152921504606846976]) (N:=M) (fun J hJ=>?_) ?_
 ·rw[bI,show((16:Int) == 10)=false from rfl,bg,bI,show((16:Int) == 16)=true from rfl,bS]
  exact hJ
 simp only[bz,dm]
 rw[kQ,MU]
 refine⟨by decide, ?_⟩
 rw[jZ,gD]
 simp only[aS,jJ]
 have hmax:IntKind.wrap .u64 (NL .u64 1 (IntKind.wrap .u64 64) - 1)=18446744073709551615:=by decide +kernel
 rw[hmax]
 have hk1:ae [] M (M.push (.row (BY.row s) true T8 0)):=(ae.refl _ _).push _
 have hr1:Rw BY (M.push (.row (BY.row s) true T8 0)) M.next true T8 s:=Rw.new M s
 generalize M.push (.row (BY.row s) true T8 0)=M1 at *
 refine dF (fun m ys M3=>∃ i:Nat,m=s.length - i∧ys=[Bo false,N .u64 (kE (s.take i) : Int),N .i64 (i:Int)]∧i≤s.length∧M3=M1) _ ⟨0,rfl,rfl,Nat.zero_le _,rfl⟩ ?_
 rintro next m ys M3 hnext ⟨i,rfl,rfl,hi,rfl⟩
 simp only[bz,dm,wB]
 refine dE (fun h=>?_) fun h=>?_
 ·have hlt:i<s.length:=by simpa using h
  have hc:=hr1.ax hlt
  have cb:=xB s[i]
  have hmem:kJ (bq s[i])=true:=by
   unfold low at hx
   rw[List.all_map] at hx
   exact List.all_eq_true.1 hx s[i] (List.getElem_mem hlt)
  have hdv:=Gv hmem
  have hall:(low (s.take i)).all kJ=true:=by
   rw[List.all_eq_true]
   intro y hy
   unfold low at hy
   rw[List.mem_map] at hy
   obtain⟨z,hz,rfl⟩:=hy
   unfold low at hx
   rw[List.all_map] at hx
   exact List.all_eq_true.1 hx z (List.mem_of_mem_take hz)
  have hlt2:=Gi hall (by simp; omega)
  have ht:=J6 hlt
  refine jR (x:=[Bo false,N .u64 (kE (s.take (i + 1)) : Int)]) (N:=M3) (fun J hJ=>?_) ?_
  rotate_left
  ·simp only[bz,dm]
   rw[add1 (by omega)]
   exact hnext _ _ _ (by omega) ⟨i + 1,rfl,rfl,by omega,rfl⟩
  rw[qH]
  refine⟨by omega,by omega, ?_⟩
  rw[dw]
  refine⟨By s[i],by simpa using hc, ?_⟩
  refine jR (x:=[Bo false,N .u8 (ll s[i] : Int)]) (N:=M3) (fun J2 hJ2=>?_) ?_
  rotate_left
  ·simp only[bz,dm]
   rw[kQ,show IntKind.wrap .u8 16=16 by decide,dz,show decide ((ll s[i] : Int) ≥ 16)=false by simp; omega,bg,dz,show decide ((kE (s.take i) : Int) ≥ 1152921504606846976)=false by simp; omega,bg,kQ,show IntKind.wrap .u64 16=16 by decide,
    Lj,Bt (by omega) (by omega),kQ,Bt (by omega) (by omega),uj,Bt (by omega) (by omega),iK,show decide ((kE (s.take i) : Int) * 16 + (ll s[i] : Int)<(kE (s.take i) : Int) * 16)=false from decide_eq_false (by omega)]
   simp only[dK,eD]
   rw[show decide ((kE (s.take i) : Int) * 16 + (ll s[i] : Int) > 18446744073709551615)=false by simp; omega]
   simp only[dZ,bg]
   have e:((kE (s.take (i + 1)) : Nat) : Int)=(kE (s.take i) : Int) * 16 + (ll s[i] : Int):=by rw[ht]; omega
   rw[e] at hJ
   exact hJ
  rw[bI]
  have h95:((s[i].toNat:Int) == 95)=false:=by
   cases hd:dI s[i] with
   | true =>
     unfold dI at hd
     simp only[Bool.and_eq_true,decide_eq_true_eq] at hd
     simp; omega
   | false =>
     have:=(Gm hmem hd).2.2.2
     simp; omega
  rw[h95]
  simp only[jc,dZ,bg,bW,bz,qK]
  cases hd:dI s[i] with
  | true =>
    have hd':=hd
    unfold dI at hd'
    simp only[Bool.and_eq_true,decide_eq_true_eq] at hd'
    rw[show decide ((48:Int)≤(s[i].toNat:Int))=true by simp; omega]
    simp only[bT]
    rw[show decide ((s[i].toNat:Int)≤57)=true by simp; omega]
    simp only[dh,bS]
    rw[jZ,gW (by omega) (by omega)]
    have hv:(s[i].toNat:Int) - 48=(ll s[i] : Int):=by unfold ll; rw[if_pos (by omega)]; omega
    rw[hv]
    exact hJ2
  | false =>
    obtain⟨q1,q2,q3,_⟩:=Gm hmem hd
    have hno:(decide ((48:Int)≤(s[i].toNat:Int)) && decide ((s[i].toNat:Int)≤57))=false:=by
     rw[← hd]; unfold dI; rfl
    refine nJ (p:=decide ((s[i].toNat:Int)≤57)) (fun _ k hk=>hk) ?_
    rw[hno,bg]
    refine hl ?_
    rw[qK,show decide ((97:Int)≤uy s[i].toNat)=true by simpa using q1]
    simp only[bT]
    refine hl ?_
    rw[qK,show decide (uy s[i].toNat≤(122:Int))=true by simpa using q2]
    simp only[dh,bS]
    refine hl ?_
    rw[jZ,gW (by omega) (by omega),uj,gW (by omega) (by omega),q3]
    exact hJ2
 ·have:i=s.length:=by simp at h; omega
  subst this
  simp only[jc,dZ,bg]
  rw[List.take_length]
  exact hQ _ hk1
theorem Cr {cp ct:ai} (hp:Cq cp) : Cq fun args M Q=>∃ a0 a1 a2,args=[a0,a1,a2]∧jB cp ct a0 a1 a2 M Q:=by
 intro M s Q h1 h8 hx hQ
 refine⟨_,_,_,rfl, ?_⟩
 unfold jB
 refine hp h1 h8 hx fun M1 k1=>?_
 simp only[aX,aY]
 refine .inr ⟨rfl,rfl, ?_⟩
 dsimp only
 rw[show(!true)=false from rfl,bg]
 exact hQ M1 k1
def vP (n:Nat) : UInt8:=if n<10 then UInt8.ofNat (48 + n) else UInt8.ofNat (87 + n)
theorem Bq {base f n:Nat} (h:n<base) : lY base (f + 1) n=[vP n]:=by
 rw[lY,AY h]; rfl
theorem Ff {base f n:Nat} (h:¬ n<base) : lY base (f + 1) n=lY base f (n / base)++[vP (n % base)]:=by
 rw[lY,ma h]; rfl
abbrev zO:Str:=[48,49,50,51,52,53,54,55,56,57,97,98,99,100,101,102,103,104,105,106,107,108,109,110,111,112,113,114,115,116,117,118,119,120,121,122]
theorem LK:∀ m:Fin 16,zO[m.val]?=some (vP m.val):=by decide
theorem GH {n:Nat} (h:n<16) {K:AV→Prop} : dN (St zO) (N .u64 (n:Int)) K=K (By (vP n)):=by
 have hl:n<zO.length:=Nat.lt_of_lt_of_le h (by decide)
 rw[pz hl]
 have:=LK ⟨n,h⟩
 rw[List.getElem?_eq_getElem hl] at this
 rw[Option.some.inj this]
def Qd (B:Base) (c:ai) : Prop:=∀ {M:RM} {Q:ah},M.base=B→Q (N .i64 4) M→c [N .u64 16] M Q
def Ij (c:ai) : Prop:=∀ {M:RM} {Q:ah},Q (Bo true) M→c [N .i64 16] M Q
theorem Ls:Ij fun args M Q=>∃ a0,args=[a0]∧ed a0 M Q:=by
 intro M Q hQ
 refine⟨_,rfl, ?_⟩
 unfold ed
 rw[jZ,Eo,show Jk .i64 16 (IntKind.wrap .i64 (16 - 1))=0 by decide +kernel,bI,show((0:Int) == 0)=true from rfl]
 exact hQ
def IZ (B:Base) (c:ai) : Prop:=∀ {M:RM} {n:Nat} {Q:ah},M.base=B→n<4294967296→(∀ M',ae [] M M'→Q (.tup [aH,St (fH n)]) M')→c [aH,N .u64 (n:Int),N .i64 16,Bo false,Bo false] M Q
theorem Kc {B:Base} {TA n:Nat} {cp ct:ai} (hp:Ij cp) (ht:Qd B ct) {M M0:RM} {zs:List AV} (hB:M.base=B) (hn:n<4294967296) (hzl:zs.length=65) (k0:ae [] M M0) (n0:M0.heap M.next=some (.row zs false TA 0)) (l0:M.next<M0.next) :
  ∀ J13:List AV→RM→Prop,(∀ (i:Nat) (M3:RM) (X:List AV),M3.heap M.next=some (.row (X++BY.row (fH n)) false TA 0)→X.length=i→i + (fH n).length=65→ae [] M M3→M.next<M3.next→J13 [N .i64 (i:Int)] M3) →
    dG (fun J13=>cp [N .i64 16] M0 fun t34 NS=>ak t34 ( gT .u64 (N .i64 16) fun t36=>ct [t36] NS fun t37 Rc=>gT .u64 t37 fun t38=>gT .u64 (N .i64 16) fun t40=>gT .u64 (N .i64 16) fun t42=>af .sub t42 (N .u64 1) fun t43=>eT (fun next xA N7=>af .geq (au xA 0) t40 fun t46=>ak t46 ( af .sub (au xA 1) (N .i64 1) fun t48=>af .and (au xA 0) t43 fun t52=>dN (St zO) t52 fun t53=>lV (.ptr M.next 0) t48 65 1 fun t54=>aG N7 t54 t53 1 fun Ld=>yK .shr (au xA 0) t38 fun t57=>next [t57,t48] Ld) ( af .sub (au xA 1) (N .i64 1) fun t59=>dN (St zO) (au xA 0) fun t62=>lV (.ptr M.next 0) t59 65 1 fun t63=>aG N7 t63 t62 1 fun QK=>J13 [t59] QK)) [N .u64 (n:Int),(N .i64 65)] Rc) ( gT .u64 (N .i64 16) fun t65=>eT (fun Nb xD Oz=>af .geq (au xD 0) t65 fun t68=>ak t68 ( af .sub (au xD 1) (N .i64 1) fun t70=>af .quo (au xD 0) t65 fun t73=>af .mul t73 t65 fun t78=>af .sub (au xD 0) t78 fun t79=>dN (St zO) t79 fun t80=>lV (.ptr M.next 0) t70 65 1 fun t81=>aG Oz t81 t80 1 fun KJ=>Nb [t73,t70] KJ) ( af .sub (au xD 1) (N .i64 1) fun t84=>dN (St zO) (au xD 0) fun t87=>lV (.ptr M.next 0) t84 65 1 fun t88=>aG Oz t88 t87 1 fun Q8=>J13 [t84] Q8)) [N .u64 (n:Int),(N .i64 65)] NS)) J13:=by
 intro J13 hJ
 refine(show ∀ (f:(List AV→RM→Prop)→Prop) (g:List AV→RM→Prop),f g→dG f g from fun _ _ h=>h) _ _ ?_
 refine hp ?_
 rw[bS,kQ,show IntKind.wrap .u64 16=16 by decide]
 refine ht (k0.base.trans hB) ?_
 rw[kQ,show IntKind.wrap .u64 4=4 by decide,kQ,show IntKind.wrap .u64 16=16 by decide,kQ,show IntKind.wrap .u64 16=16 by decide,jZ,show IntKind.wrap .u64 (16 - 1)=15 by decide]
 refine dF (fun m ys M3=>∃ (u f:Nat) (X:List AV) (ds:Str),u=m∧ys=[N .u64 (u:Int),N .i64 (X.length:Int)]∧X.length + ds.length=65∧f + ds.length=20∧1≤f∧u<16 ^ f∧u<4294967296∧fH n=lY 16 f u++ds∧M3.heap M.next=some (.row (X++BY.row ds) false TA 0)∧ae [] M M3∧M.next<M3.next) _
  ⟨n,20,zs,[],rfl,by rw[hzl]; rfl,by rw[hzl]; rfl,rfl,by decide,Nat.lt_of_lt_of_le hn (by decide),hn,by unfold fH; rw[List.append_nil],by rw[Enc.MQ,List.append_nil]; exact n0,k0,l0⟩ ?_
 rintro next m ys M3 hnext ⟨u,f,X,ds,rfl,rfl,hXl,hf,hf1,huf,hu,Ob,hrow,k3,l3⟩
 simp only[bz,dm]
 have hXp:1≤X.length:=by omega
 obtain⟨Y,y,rfl⟩ : ∃ Y y,X=Y++[y]:=⟨X.dropLast,X.getLast (by intro e; rw[e] at hXp; simp at hXp),(List.dropLast_concat_getLast _).symm⟩
 simp only[List.length_append,List.length_cons,List.length_nil,Nat.zero_add] at hXl
 have hsub:∀ K:AV→Prop,af .sub (N .i64 (((Y++[y]).length:Nat) : Int)) (N .i64 1) K=K (N .i64 (Y.length:Int)):=fun K=>by
  rw[show(N .i64 1)=N .i64 ((1:Nat) : Int) from rfl,Hr (by simp) (by simp; omega)]
  simp
 have hidx:∀ K:AV→Prop,lV (.ptr M.next 0) (N .i64 (Y.length:Int)) 65 1 K=K (.ptr M.next Y.length):=fun K=>by
  rw[LG]
  simp only[Int.toNat_natCast,Nat.mul_one,Nat.zero_add]
  exact propext ⟨fun h=>h.2.2,fun h=>⟨by omega,by omega,h⟩⟩
 have hset:∀ d:UInt8,((Y++[y])++BY.row ds).set Y.length (By d)=Y++BY.row (d :: ds):=fun d=>by
  rw[List.append_assoc,List.set_append_right _ _ (Nat.le_refl _),Nat.sub_self]
  rfl
 have hput:∀ (d:UInt8) (K:RM→Prop),aG M3 (.ptr M.next Y.length) (By d) 1 K=K (M3.put M.next (.row (Y++BY.row (d :: ds)) false TA 0)):=fun d K =>
  fF _ hrow (by simp) rfl rfl (hset d)
 have Ou:∀ d:UInt8,ae [] M (M3.put M.next (.row (Y++BY.row (d :: ds)) false TA 0)):=fun d=>k3.new _ (Nat.le_refl _)
 rw[dz]
 refine dE (fun h=>?_) fun h=>?_
 ·have h16:¬ u<16:=by simp at h; omega
  obtain⟨g,rfl⟩ : ∃ g,f=g + 1:=⟨f - 1,by omega⟩
  have hg1:1≤g:=by
   rcases Nat.eq_zero_or_pos g with e | e
   ·subst e; simp at huf; omega
   ·exact e
  rw[hsub,Eo,show(15:Int)=((15:Nat) : Int) from rfl,K8 rfl]
  have hand:(u &&& 15) % 2 ^ AO .u64=u % 16:=by
   rw[show(15:Nat)=2 ^ 4 - 1 from rfl,Nat.and_two_pow_sub_one_eq_mod]
   exact Nat.mod_eq_of_lt (Nat.lt_of_lt_of_le (Nat.mod_lt _ (by decide)) (by decide))
  rw[hand,GH (Nat.mod_lt _ (by decide)),hidx,hput,MM]
  refine⟨by decide, ?_⟩
  have QZ:Lx .u64 (u:Int) 4=((u / 16:Nat) : Int):=by
   unfold Lx
   rw[show(2:Int) ^ min (Int.toNat 4) IntKind.u64.bits=16 by decide,Int.fdiv_eq_ediv_of_nonneg _ (by decide)]
   omega
  rw[QZ]
  refine hnext (u / 16) _ _ (by omega) ⟨u / 16,g,Y,vP (u % 16) :: ds,rfl,rfl,by simp; omega,by simp; omega,hg1, ?_,by omega, ?_,aM _,Ou _,l3⟩
  ·rw[Nat.pow_succ] at huf
   exact Nat.div_lt_of_lt_mul (by rw[Nat.mul_comm]; exact huf)
  ·rw[Ob,Ff h16]; simp
 ·have h16:u<16:=by simp at h; omega
  obtain⟨g,rfl⟩ : ∃ g,f=g + 1:=⟨f - 1,by omega⟩
  rw[hsub,GH h16,hidx,hput]
  have hd:fH n=vP u :: ds:=by rw[Ob,Bq h16]; rfl
  refine hJ Y.length _ Y ?_ rfl (by rw[hd]; simp; omega) (Ou _) l3
  rw[hd]; exact aM _
theorem JW {B:Base} {TS TA T8:Nat} {cp ct:ai} (hp:Ij cp) (ht:Qd B ct) : IZ B fun args M Q=>∃ a0 a1 a2 a3 a4,args=[a0,a1,a2,a3,a4]∧eO TS TA cp ct T8 a0 a1 a2 a3 a4 M Q:=by
 intro M n Q hB hn hQ
 refine⟨_,_,_,_,_,rfl, ?_⟩
 unfold eO
 refine jR [] M (fun J hJ=>?_) ?_
 ·rw[iK,show decide ((16:Int)<2)=false from rfl]
  simp only[dK,bI]
  rw[show((16:Int) == 10)=false from rfl]
  simp only[dZ,dK,eD]
  rw[show decide ((16:Int) > 36)=false from rfl]
  simp only[dZ,bg]
  exact hJ
 simp only[aS]
 generalize hz:([(N .u8 0),(N .u8 0),(N .u8 0),(N .u8 0),(N .u8 0),(N .u8 0),(N .u8 0),(N .u8 0),(N .u8 0),(N .u8 0),(N .u8 0),(N .u8 0),(N .u8 0),(N .u8 0),(N .u8 0),(N .u8 0),(N .u8 0),(N .u8 0),(N .u8 0),(N .u8 0),(N .u8 0),(N .u8 0),(N .u8 0),(N .u8 0),(N .u8 0),(N .u8 0),(N .u8 0),(N .u8 0),(N .u8 0),(N .u8 0),(N .u8 0),(N .u8 0),(N .u8 0),(N .u8 0),(N .u8 0),(N .u8 0),(N .u8 0),(N .u8 0),(N .u8 0),(N .u8 0),(N .u8 0),(N .u8 0),(N .u8 0),(N .u8 0),(N .u8 0),(N .u8 0),(N .u8 0),(N .u8 0),(N .u8 0),(N .u8 0),(N .u8 0),(N .u8 0),(N .u8 0),(N .u8 0),(N .u8 0),(N .u8 0),(N .u8 0),(N .u8 0),(N .u8 0),(N .u8 0),(N .u8 0),(N .u8 0),(N .u8 0),(N .u8 0),(N .u8 0)] : List AV)=zs
 have hzl:zs.length=65:=by rw[← hz]; rfl
 have k0:ae [] M (M.push (.row zs false TA 0)):=(ae.refl _ _).push _
 have n0:(M.push (.row zs false TA 0)).heap M.next=some (.row zs false TA 0):=by simp[RM.push]
 have l0:M.next<(M.push (.row zs false TA 0)).next:=by simp[RM.push]
 generalize M.push (.row zs false TA 0)=M0 at *
 refine jR [N .u64 (n:Int)] M0 (fun J hJ=>?_) ?_
 ·rw[bg]; exact hJ
 simp only[bz]
 -- the digits
 refine Kc hp ht hB hn hzl k0 n0 l0 _ ?_
 intro i M3 X hrow hX hil k3 l3
 simp only[bz]
 refine jR [N .i64 (i:Int)] M3 (fun J hJ=>?_) ?_
 ·rw[bg]; exact hJ
 simp only[bz]
 have hpos:0<(fH n).length:=by
  unfold fH
  rw[lY]
  split <;> simp
 have hsub:pG 65 1 (.ptr M.next 0) (some (N .i64 (i:Int))) none=some (.slc M.next i (65 - i) (.ex (65 - i))):=by
  have e1:bnd 0 (some (N .i64 (i:Int)))=some i:=kL _ _ _
  have e2:bnd 65 none=some 65:=rfl
  simp only[pG,e1,e2]
  rw[if_pos ⟨(by omega:i≤65),Nat.le_refl _⟩,if_neg (by omega),Nat.zero_add,Nat.mul_one]
 rw[bg,hsub,dW]
 have hs:Sl BY M3 (.slc M.next i (65 - i) (.ex (65 - i))) (fH n):=by
  have e:65 - i=(fH n).length:=by omega
  unfold Sl
  rw[e]
  refine aK.slc _ _ _ _ _ ?_ ?_
  ·exact l3
  ·rw[RM.gz hrow (by rw[List.length_append,jN,hX]; simp[BY])]
   rw[List.drop_left' hX,List.take_of_length_le (by rw[jN]; simp[BY])]
 rw[hs.str]
 exact hQ M3 k3
end Go.Ab.Hw
namespace Go.Ab.Hw
open Go Go.Ab Go.Ab.Sm
theorem Kh {B:Base} {TA:Nat} {c1 c2 c3 cb:ai} (hb:IZ B cb) : BV B fun args M Q=>∃ a0 a1,args=[a0,a1]∧eY c1 TA c2 c3 cb a0 a1 M Q:=by
 intro M n Q hB hn hQ
 refine⟨_,_,rfl, ?_⟩
 unfold eY
 rw[bI,show((16:Int) == 10)=false from rfl,bg,kQ,Bt (by omega) (by omega),iK,show decide ((n:Int)<0)=false by simp]
 refine hb hB hn fun M1 k1=>?_
 simp only[aX,aY]
 exact hQ M1 k1
theorem LJ {B:Base} {cf:ai} (hf:BV B cf) : BV B fun args M Q=>∃ a0 a1,args=[a0,a1]∧mQ cf a0 a1 M Q:=by
 intro M n Q hB hn hQ
 exact⟨_,_,rfl,hf hB hn hQ⟩
end Go.Ab.Hw
set_option maxRecDepth 100000
namespace Go.Ab.Dk
open Go Go.Ab
end Go.Ab.Dk
namespace Go.Ab.Crw
open Go Go.Ab
end Go.Ab.Crw
namespace Go.Ab
open Go Go.RowKit
section
variable {P:Program} {ρ:Ren} {M:RM} {w w' : World}
theorem Kv {base:Base} {A:AW} (hw0:bE P base ρ A w) (hbl:Below w.heap.size w w') (hbase:base≤w.heap.size) {x:fK} {ob:Obj} {i:dS} (hge:w.heap.size≤i.cb) (hob:w'.heap[i.cb]?=some ob)
  (hrel:fU P (ρ.add A.next i) i x ob) : bE P base (ρ.add A.next i) (A.push x) w'∧Step base A.next ρ w (ρ.add A.next i) w':=by
 have hb:ρ A.next=none:=hw0.fresh (Nat.le_refl _)
 have hw:=rG hw0 x
 have hx:(A.push x).heap.get A.next=some x:=by simp[AW.push,Tree.aQ]
 have hlt:A.next<(A.push x).next:=by simp[AW.push]
 have hle:=Ren.qf (i:=i) hb
 have hadd:∀ c j,ρ.add A.next i c=some j→(c=A.next∧j=i)∨(c≠A.next∧ρ c=some j):=by
  intro c j h
  unfold Ren.add at h
  split at h
  ·cases h; exact .inl ⟨‹_›,rfl⟩
  ·exact .inr ⟨‹_›,h⟩
 have hcb:i.cb<w'.heap.size:=(Array.getElem?_eq_some_iff.1 hob).1
 refine⟨⟨?_, ?_, ?_,hw.top, ?_,base.low w _ (fun c hc=>hbl.block c (by omega)) hw.inv⟩,⟨hbl.os,hbl.tape,hbl.output,hbl.size, ?_, ?_, ?_,fun c hc=>hbl.block c (by omega)⟩⟩
 ·intro c j h
  rcases hadd c j h with⟨rfl,rfl⟩ | ⟨_,h⟩
  ·exact⟨hlt,hcb⟩
  ·have:=hw.dom c j h; have:=hbl.size; omega
 ·intro c j y h hy
  rcases hadd c j h with⟨rfl,rfl⟩ | ⟨_,h⟩
  ·rw[hx] at hy; cases hy
   exact⟨ob,hob,hrel⟩
  ·obtain⟨o,ho,hr⟩:=hw.blk c j y h hy
   exact⟨o,by rw[hbl.block j.cb (hw.dom c j h).2]; exact ho,hr.mono hle⟩
 ·intro b1 b2 i1 i2 x1 x2 h1 h2 g1 g2 he
  rcases hadd _ _ h1 with⟨e1,f1⟩ | ⟨_,k1⟩ <;> rcases hadd _ _ h2 with⟨e2,f2⟩ | ⟨_,k2⟩
  ·rw[e1,e2]
  ·have:=(hw.dom _ _ k2).2; subst f1; omega
  ·have:=(hw.dom _ _ k1).2; subst f2; omega
  ·exact hw.sep _ _ _ _ _ _ k1 k2 g1 g2 he
 ·intro c j y h hy
  rcases hadd c j h with⟨rfl,rfl⟩ | ⟨_,h⟩
  ·omega
  ·exact hw.lo c j y h hy
 ·intro c hc _; exact hbl.block c hc
 ·intro c hc; unfold Ren.add; rw[if_neg (by omega)]
 ·intro c j h
  rcases hadd c j h with⟨rfl,rfl⟩ | ⟨_,h⟩
  ·exact .inr hge
  ·exact .inl ⟨c,j,h,rfl⟩
theorem dD.NT {f:FuncId} {args:List AV} {T n:Nat} {cs:List AV} {Q:ah} (hP:Ci P f) (hsz:aI P T=some 1) (h1:cs.all oneCell=true) (hlen:cs.length=n)
  (h:∀ (ρ:Ren) (w:World) (us:List Value),aC ρ args us→bi P ρ M w→Calls P f ⟨us⟩ w fun e w'=>∃ v xs,e=.returned v∧w'.ownsRow w.heap.size T 1 v n xs∧(∀ ρ',aC ρ' cs xs)∧Below w.heap.size w w')
  (hQ:∀ v M',Own M' M.next T 1 v cs n→ae [] M M'→Q v M') : dD P f args M Q:=by
 refine⟨hP,fun ρ w us hargs hw=>(h ρ w us hargs hw).mono fun e w' hR=>?_⟩
 obtain⟨v,xs,rfl,⟨hxl,hrow⟩,hrel,hbl⟩:=hR
 rcases hrow with⟨rfl,h0⟩ | ⟨g,cap,cur,rfl,hge,hg,r1,r2,r3,r4⟩
 ·have:cs=[]:=List.length_eq_zero_iff.1 (by omega)
  subst this
  have hn:n=0:=h0
  subst hn
  exact⟨_,aH,M,ρ,rfl,After.below hw hbl,.sc _ rfl,hQ _ _ .nil (ae.refl _ _)⟩
 ·obtain⟨A,hA⟩:=hw
  obtain⟨tr,htr⟩:=gV cs .leaf 0 h1
  obtain⟨_,hget⟩:=dC _ _ _ htr
  obtain⟨_,hcell⟩:=rZ htr
  have hblk:fU P (ρ.add A.next ⟨g,0,cap,1⟩) ⟨g,0,cap,1⟩ (.row n tr [] true T 0) (.cells cur T (0,0)):=by
   refine⟨cur,(0,0),rfl,⟨by show 0 + n≤_; omega,fun k x hx=>?_,fun k _ _=>by simp,fun h=>(by cases h),fun _=>⟨Nat.one_pos,by show cur.size=0 + cap * 1; omega,hsz⟩,rfl⟩⟩
   obtain⟨hk1,hk2⟩:=iW hx
   rw[hget,if_pos (by omega),Nat.sub_zero] at hk2
   obtain⟨v,hv,hvr⟩:=(hrel (ρ.add A.next ⟨g,0,cap,1⟩)).get hk2
   refine⟨v, ?_,hvr⟩
   show cur[0 + k]?=some v
   rw[Nat.zero_add,← Array.getElem?_toList]
   rw[← r4,Nat.mul_one,List.getElem?_take_of_lt (by omega)] at hv
   exact hv
  obtain⟨q1,q2⟩:=Kv hA.rel hbl (Nat.le_trans (show M.base.n≤M.lo from Nat.le_refl _) hA.size) (i:=⟨g,0,cap,1⟩) hge hg hblk
  obtain⟨k1,k2,k3⟩:=RM.tC hA (x:=.row cs true T 0) (y:=.row n tr [] true T 0) ⟨hlen,rfl,rfl,rfl,fun k v hk=>by rw[← hlen]; exact hcell k v hk⟩
  have hnx:=hA.next
  refine⟨_,.slc M.next 0 n (.op 1),M.push (.row cs true T 0),_,rfl,fQ hA q2 q1 k1 k2 (by simp[AW.push]) k3, ?_,hQ _ _ (.op M.next n cs (Nat.le_refl _) (by simp[RM.push]) (RM.lF _) (by omega)) ((ae.refl _ _).push _)⟩
  have:=ag.iw (ρ:=ρ.add A.next ⟨g,0,cap,1⟩) M.next 0 n ⟨g,0,cap,1⟩ (by rw[← hnx]; simp[Ren.add]) (by show 0 + n≤cap; omega)
  simpa using this
end
end Go.Ab
set_option maxRecDepth 10000
namespace Go.Ab.Hw
open Go Go.Ab Go.Ab.Sm
theorem F3 {T8:Nat} : uw fun args M Q=>∃ a0,args=[a0]∧rH T8 a0 M Q:=by
 intro M s Q hl hQ
 refine⟨_,rfl, ?_⟩
 unfold rH
 simp only[bW,aS,gD]
 have hk1:ae [] M (M.push (.row (BY.row s) true T8 0)):=(ae.refl _ _).push _
 have hr1:Rw BY (M.push (.row (BY.row s) true T8 0)) M.next true T8 s:=Rw.new M s
 generalize M.push (.row (BY.row s) true T8 0)=M1 at *
 refine dF (fun m ys M3=>∃ i:Nat,m=s.length - i∧ys=[N .i64 i]∧i≤s.length∧Rw BY M3 M.next true T8 (upTo bq i s)∧ae [] M M3) _
  ⟨0,rfl,rfl,Nat.zero_le _,by rw[Dm]; exact hr1,hk1⟩ ?_
 rintro next m ys M3 hnext ⟨i,rfl,rfl,hi,hR,hK⟩
 simp only[go_sem]
 refine⟨fun hlt=>?_,fun hge=>?_⟩
 ·have hlt:i<s.length:=by simpa using hlt
  have hlen:i<(upTo bq i s).length:=by rw[yT]; exact hlt
  have hg:=zG bq hlt
  have hc:=hR.ax hlen
  have w1:=qL (show i<9223372036854775807 by omega)
  have hge:(upTo bq i s)[i]=s[i]:=Option.some.inj ((List.getElem?_eq_getElem hlen).symm.trans hg)
  rw[hge] at hc
  refine⟨by omega,_,hc, ?_⟩
  have same:bq s[i]=s[i]→next [N .i64 ((i + 1:Nat) : Int)] M3:=fun h=>by
   refine hnext _ _ _ (by omega) ⟨i + 1,rfl,rfl,by omega, ?_,hK⟩
   rw[C8 bq hlt h]
   exact hR
  have cb:=xB s[i]
  simp only[w1]
  by_cases h1:65≤s[i].toNat
  ·have e1:((s[i].toNat:Int) ≥ 65):=by omega
   simp only[e1,decide_true,go_sem,if_true]
   refine⟨by omega,_,hc, ?_⟩
   by_cases h2:s[i].toNat≤90
   ·have e2:((s[i].toNat:Int)≤90):=by omega
    have hlow:bq s[i]=s[i] + 32:=by rw[bq,if_pos ⟨h1,h2⟩]
    have hn:(bq s[i]).toNat=s[i].toNat + 32:=by
     rw[hlow,UInt8.toNat_add]
     show(s[i].toNat + 32) % 256=_
     omega
    have wv:N IntKind.u8 (IntKind.u8.wrap ((s[i].toNat:Int) + 32))=By (bq s[i]):=by
     rw[By,hn]
     congr 1
     rw[gW (by omega) (by omega)]; omega
    obtain⟨hs,hR'⟩:=hR.Ez hlen (bq s[i])
    rw[yV bq hlt] at hs hR'
    simp only[e2,decide_true,go_sem]
    refine⟨by omega,_,hc, ?_⟩
    simp only[go_sem]
    refine⟨by omega,_,(congrArg (fun x=>M3.stores M.next i [x]) wv).trans hs, ?_⟩
    exact hnext _ _ _ (by omega) ⟨i + 1,rfl,rfl,by omega,hR',hK.put _ (.inl (Nat.le_refl _))⟩
   ·have e2:¬ ((s[i].toNat:Int)≤90):=by omega
    simp only[e2,decide_false,go_sem]
    exact same (by rw[bq,if_neg (by omega)])
  ·have e1:¬ ((s[i].toNat:Int) ≥ 65):=by omega
   simp only[e1,decide_false,go_sem]
   exact same (by rw[bq,if_neg (by omega)])
 ·have:i=s.length:=by simp at hge; omega
  subst this
  rw[FD] at hR
  have:=hR.sl (cap:=.op 1)
  rw[List.length_map] at this
  rw[Sl.str this]
  exact hQ M3 hK
end Go.Ab.Hw
namespace Go.Ab
open Go Go.RowKit
variable {H:Type} {enc:TypeId × Value→H}
theorem xW {a:Assume} {C:Checked} {os:Os} {f:FuncId} {fn:Func} {s:ChangeSpec} {conds:List PathCond} {apart fresh handsOn again:Bool} {X:World→Array Value→Prop}
  (hX:∀ (w w' : World) (args:Array Value),w.heap=w'.heap→X w args→X w' args)
  (own:ownKnob C.prog.godebug=none) (started:os.Started) (noInit:C.prog.inits.idxOf? f=none) (hfn:C.prog.funcs[f]?=some fn)
  (witness:∃ (w:World) (tape:Tape) (i:Input),w.os=os∧(w.forCall tape i).Shaped C.prog∧i.vars=[]∧Input.okWide C.prog (w.forCall tape i) .any w.heap.size f i ∧
   ((s.pre enc C.prog fn conds apart (w.forCall tape i).memory i.args∧X (w.forCall tape i).memory i.args)∧sizedMet enc C.prog fn (OpenSpec.ofChange s) apart (w.forCall tape i).memory i.args)∧a.holds C.prog (lone (Frame.enter C.prog f i.args .normal) [] (w.forCall tape i)))
  (contract:∀ (W:World) (base:Nat) (args:Array Value) (ds gs:List (DataW H)) (before:List MemPlace),
   (∀ (j:Nat) t v,fn.params[j]?=some t→args[j]?=some v→Value.okWide C.prog W .any base t v) →
   DataW.Whole enc C.prog fn.params.toList s.vars apart W args.toList ds gs before →
   conds.all (PathCond.test C.prog ⟨fn.params.toList,ds,s.plain.varTypes C.prog,gs⟩)=true →
   (DataW.weightsEach C.prog (fn.params.toList++s.plain.varTypes C.prog) (ds++gs)).all (· ≤ reachBytes)=true→X W args →
   W.ShapedOpen C.prog →
   a.holds C.prog (lone (Frame.enter C.prog f args .normal) [] W) →
   Calls C.prog f args W fun e W'=>∃ v,e=.returned v∧s.post enc C.prog fn apart fresh handsOn again W args v W') :
  ReturnsInHanded a C os f .any (fun w args=>(s.pre enc C.prog fn conds apart w args∧X w args)∧sizedMet enc C.prog fn (OpenSpec.ofChange s) apart w args) (s.post enc C.prog fn apart fresh handsOn again):=by
 refine returnsInHanded_of_calls own started noInit witness ?_
 intro w tape i _ hsh _ hok hpre hholds
 obtain⟨_,_,_,fn',hfn',_,_,_,_,hval⟩:=hok
 have e:fn'=fn:=Option.some.inj (hfn'.symm.trans hfn)
 subst e
 obtain⟨⟨⟨ds,gs,before,hw,hc⟩,hx⟩,hz⟩:=hpre
 have hw':=DataW.Whole.of_heap (w':=w.forCall tape i) (by rfl) hw
 refine(contract (w.forCall tape i) w.heap.size i.args ds gs before hval hw' hc (hz.weights hw) (hX _ _ _ (by rfl) hx) hsh hholds).mono fun e W' ⟨v,he,hp⟩=>?_
 subst he
 exact ChangeSpec.post_blind hp
end Go.Ab
