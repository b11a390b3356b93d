/- Part 6 of the ground of the proofs of this seat (texts B3 to NL3). By an AI agent. -/
import Derived.Test.YtoikjkmmdpdkbaaGreatDoorVci5
import Derived.Lib.Fold
import Derived.KernelRfl
import Derived.HandedShaped
set_option maxRecDepth 10000
set_option linter.unusedVariables false
set_option linter.unusedSimpArgs false
namespace Go.Ab.Sha
open Go Go.Ab Go.Ab.Sm
def kW:List Int:=[1116352408,1899447441,3049323471,3921009573,961987163,1508970993,2453635748,2870763221,3624381080,310598401,607225278,1426881987,1925078388,2162078206,2614888103,3248222580,3835390401,4022224774,264347078,604807628,770255983,1249150122,1555081692,1996064986,2554220882,2821834349,2952996808,3210313671,3336571891,3584528711,113926993,338241895,666307205,773529912,1294757372,1396182291,1695183700,1986661051,2177026350,2456956037,2730485921,2820302411,3259730800,3345764771,3516065817,3600352804,4094571909,275423344,430227734,506948616,659060556,883997877,958139571,1322822218,1537002063,1747873779,1955562222,2024104815,2227730452,2361852424,2428436474,2756734187,3204031479,3329325298]
def hW:List Int:=[1779033703,3144134277,1013904242,2773480762,1359893119,2600822924,528734635,1541459225]
theorem E9:kW.length=64:=by decide
theorem Kn:hW.length=8:=by decide
def eF (k:List Int) : Nat→List Int→Str→List Int
 | 0,h,_=>h
 | n + 1,h,m=>eF k n (oJ h k (m.take 64)) (m.drop 64)
theorem qo {k:List Int} : ∀ {n:Nat} {h:List Int} {m:Str},h.length=8→(eF k n h m).length=8
 | 0,h,m,hl=>hl
 | n + 1,h,m,hl=>qo (n:=n) (h:=oJ h k (m.take 64)) (m:=m.drop 64) (Ui k _ hl)
theorem AY {k:List Int} : ∀ {a n:Nat} {h:List Int} {m:Str},eF k (a + n) h m=eF k n (eF k a h m) (m.drop (64 * a))
 | 0,n,h,m=>by rw[Nat.zero_add]; rfl
 | a + 1,n,h,m=>by
   rw[Nat.add_right_comm,eF,eF,AY (a:=a),List.drop_drop,show 64 + 64 * a=64 * (a + 1) by omega]
theorem xY {k:List Int} {n:Nat} {h:List Int} {m:Str} : eF k (n + 1) h m=oJ (eF k n h m) k ((m.drop (64 * n)).take 64):=by rw[AY]; rfl
theorem Hw {k:List Int} : ∀ {n:Nat} {h:List Int} {m p:Str},64 * n≤m.length→eF k n h (m++p)=eF k n h m
 | 0,h,m,p,_=>rfl
 | n + 1,h,m,p,hl=>by
   rw[eF,eF,List.take_append_of_le_length (by omega),List.drop_append_of_le_length (by omega),Hw (by rw[List.length_drop]; omega)]
def He (n:Int) : UInt8:=UInt8.ofNat (n % 256).toNat
theorem acU (n:Int) : IntKind.u8.wrap n=n % 256:=by
 simp only[IntKind.wrap,IntKind.bits,IntKind.signed,IntKind.max,IntKind.min]
 simp
theorem Gw (n:Int) : N .u8 (IntKind.u8.wrap n)=By (He n):=by
 have:((He n).toNat:Int)=n % 256:=by
  unfold He
  rw[UInt8.toNat_ofNat']
  have h1:0≤n % 256:=Int.emod_nonneg _ (by decide)
  have h2:n % 256<256:=Int.emod_lt_of_pos _ (by decide)
  rw[Nat.mod_eq_of_lt (by omega)]
  omega
 rw[By,this,acU]
def zp (L:Nat) : Nat:=(119 - L % 64) % 64
def nZ (L:Nat) : Str:=(List.range 8).map fun i=>He (nT .u64 ((8 * L:Nat) : Int) ((56 - 8 * i:Nat) : Int))
def vD (L:Nat) : Str:=128 :: (List.replicate (zp L) 0++nZ L)
def jM (h:List Int) : Str:=(List.range 32).map fun i=>He (nT .u32 (h.getD (i / 4) 0) ((24 - 8 * (i % 4) : Nat) : Int))
theorem H5 (h:List Int) : (jM h).length=32:=by simp[jM]
def Jd (b:Str) : Str:=jM (eF kW ((b.length + 9 + zp b.length) / 64) hW (b++vD b.length))
theorem IE (b:Str) : (Jd b).length=32:=H5 _
theorem VQ (b:Str) : eF kW ((b.length + 9 + zp b.length) / 64) hW (b++vD b.length) =
  eF kW ((b.length - b.length / 64 * 64 + 9 + zp b.length) / 64) (eF kW (b.length / 64) hW b) (b.drop (b.length / 64 * 64)++vD b.length):=by
 have e:(b.length + 9 + zp b.length) / 64=b.length / 64 + (b.length - b.length / 64 * 64 + 9 + zp b.length) / 64:=by omega
 rw[e,AY,Hw (by omega),List.drop_append_of_le_length (by omega),Nat.mul_comm 64]
def partsOf:Nat→List Int→List (Nat × Nat × AV)
 | _,[]=>[]
 | i,x :: xs=>(i,1,N .u32 x) :: partsOf (i + 1) xs
theorem Ht:∀ (xs pre:List Int),mf (dD.row (pre++List.replicate xs.length 0)) (partsOf pre.length xs)=some (dD.row (pre++xs))
 | [],pre=>by simp[partsOf,mf]
 | x :: xs,pre=>by
   have h:=Ht xs (pre++[x])
   rw[List.length_append,List.length_singleton] at h
   rw[partsOf,lh (by rw[kD]; simp),show pre++x :: xs=pre++[x]++xs by simp,← h]
   congr 1
   rw[nS,nS,show(N .u32 x)=(fun n=>N .u32 n) x from rfl,← List.map_set,set_mid (by simp)]
   simp
theorem Nu {T n:Nat} {xs:List Int} {M:RM} {K:AV→RM→Prop} (hn:xs.length=n) (hK:∀ M',ag [] M M'→K (.agg (dD.row xs)) M') :
  aO (.row (dD.row (List.replicate n 0)) false T 0) (fun b=>.ptr b 0) M fun t0 M1=>dW (dD.row (List.replicate n 0)) (partsOf 0 xs) fun t1=>aC M1 t0 t1 n fun M2=>aL M2 t0 n fun res=>K res M2:=by
 subst hn
 rw[aG,gN]
 refine⟨_,Ht xs [], ?_⟩
 have n1:(M.push (.row (dD.row (List.replicate xs.length 0)) false T 0)).heap M.next=some (.row (dD.row (List.replicate xs.length 0)) false T 0):=by simp[RM.push]
 rw[List.nil_append,qi n1 (by rw[kD]) (by rw[kD,List.length_replicate]) (dD.fT _),aP (aB _) (by rw[kD])]
 exact hK _ (((ag.refl _ _).push _).new _ (Nat.le_refl _))
def Bu (xs:List Int) (c:au) : Prop:=∀ {M:RM} {Q:ak},(∀ M',ag [] M M'→Q (.agg (dD.row xs)) M')→c [] M Q
theorem Lx {T:Nat} : Bu kW fun args M Q=>args=[]∧rH T M Q:=by
 intro M Q hQ
 refine⟨rfl, ?_⟩
 unfold rH
 exact Nu (xs:=kW) (n:=64) E9 hQ
theorem TE {T:Nat} : Bu hW fun args M Q=>args=[]∧AA T M Q:=by
 intro M Q hQ
 refine⟨rfl, ?_⟩
 unfold AA
 exact Nu (xs:=hW) (n:=8) Kn hQ
def Qt (T:Nat) (c:au) : Prop:=∀ {M:RM} {v:AV} {s:Str} {Q:ak},Sl BY M v s→s.length≤1000000000→(∀ v' M',Ow BY M' M.next T v' s→ag [] M M'→Q v' M')→c [v] M Q
theorem TN {T:Nat} : Qt T fun args M Q=>∃ a0,args=[a0]∧Go.Ab.Dot.yA T a0 M Q:=by
 intro M v s Q hv hl hQ
 refine⟨_,rfl, ?_⟩
 unfold Go.Ab.Dot.yA
 rcases dE.BM hv false with⟨rfl,he⟩ | ⟨hne,he⟩
 ·rw[he,show(!false)=true from rfl,bC]
  have:s=[]:=by
   unfold Sl at hv
   cases s with
   | nil=>rfl
   | cons x s=>generalize hcs:BY.row (x :: s)=cs at *; generalize hn:(x :: s).length=n at *; cases hv; cases hcs
  subst this
  exact hQ aJ M .nil (ag.refl _ _)
 ·rw[he,bq,VI]
  simp only[aG]
  have k1:ag [] M (M.push (.row [] false T 0)):=(ag.refl _ _).push _
  refine wO (E:=BY) (Ow.lit BY M) (by simp[RM.push]) (by decide) (dE.keep hv k1 (by simp)) (by simp; omega) (by simp; omega) fun v7 M7 o7 k7 _ _=>?_
  refine hQ v7 M7 (by simpa using o7) ?_
  refine ag.own k1 k7 (fun b hb=>?_)
  simp[aH] at hb; omega
theorem O0 {L i:Nat} (hi:i<8) : (nZ L).take (i + 1)=(nZ L).take i++[He (nT .u64 ((8 * L:Nat) : Int) ((56 - 8 * i:Nat) : Int))]:=by
 have hl:i<(nZ L).length:=by simp[nZ]; exact hi
 rw[List.take_succ_eq_append_getElem hl]
 simp[nZ]
theorem QC {d:Str} {n i:Nat} {x:UInt8} (hi:i<n) (hd:d.length=n) (hx:d[i]?=some x) : (d.take i++List.replicate (n - i) 0).set i x=d.take (i + 1)++List.replicate (n - (i + 1)) 0:=by
 have hl:(d.take i).length=i:=by rw[List.length_take]; omega
 have hx' : d[i]'(by omega)=x:=by rw[List.getElem?_eq_getElem (by omega)] at hx; exact Option.some.inj hx
 obtain⟨m,hm⟩ : ∃ m,n - i=m + 1:=⟨n - i - 1,by omega⟩
 rw[hm,List.replicate_succ,List.set_append_right _ _ (by omega),hl,Nat.sub_self,List.set_cons_zero,List.take_succ_eq_append_getElem (by omega),hx',List.append_assoc,show n - (i + 1)=m by omega]
 rfl
def Ml (c:au) : Prop:=∀ {M:RM} {v:AV} {b:Str} {Q:ak},Bs M v b→b.length≤100000000→(∀ M',ag [] M M'→Q (.agg (BY.row (Jd b))) M')→c [v] M Q
theorem YR {T32 TK TS T8:Nat} {cc cf ct cl:au} (hc:Bu kW cc) (hf:Bu hW cf) (ht:TT TK TS ct) (hcl:Qt T8 cl) : Ml fun args M Q=>∃ a0,args=[a0]∧Fv T32 cc TK cf TS ct cl T8 a0 M Q:=by
 intro M v b Q hv hl hQ
 refine⟨_,rfl, ?_⟩
 unfold Fv
 rw[aG]
 have k1:ag [] M (M.push (.row (BY.row (List.replicate 32 0)) false T32 0)):=(ag.refl _ _).push _
 have n1:(M.push (.row (BY.row (List.replicate 32 0)) false T32 0)).heap M.next=some (.row (BY.row (List.replicate 32 0)) false T32 0):=by simp[RM.push]
 have l1:M.next<(M.push (.row (BY.row (List.replicate 32 0)) false T32 0)).next:=by simp[RM.push]
 show cc _ (M.push (.row (BY.row (List.replicate 32 0)) false T32 0)) _
 generalize M.push (.row (BY.row (List.replicate 32 0)) false T32 0)=M1 at *
 refine hc fun M2 k2=>?_
 have zz:∀ n,(dD.row (List.replicate n 0)).length=n:=fun n=>by rw[kD,List.length_replicate]
 refine Oa (K:=fun t ZK=>_) (z:=dD.row (List.replicate 64 0)) 64 (zz 64) (by rw[kD,E9]) (dD.fT _) fun M3 k3 n3 l3=>?_
 refine hf fun M4 k4=>?_
 refine Oa (K:=fun t ZK=>_) (z:=dD.row (List.replicate 8 0)) 8 (zz 8) (by rw[kD,Kn]) (dD.fT _) fun M5 k5 n5 l5=>?_
 have hk34:=k4.next
 have hk23:=k3.next
 have k35:ag [] M3 M5:=k4.trans k5
 have n35:=k35.ay n3 l3 (by simp)
 have l35:M2.next<M5.next:=Nat.lt_of_lt_of_le l3 k35.next
 have k05:ag [] M M5:=k1.trans (k2.trans (k3.trans k35))
 have k25:ag [] M2 M5:=k3.trans k35
 have n15:=(k2.trans k25).ay n1 l1 (by simp)
 have l15:M.next<M5.next:=Nat.lt_of_lt_of_le l1 (k2.trans k25).next
 have hl1:M.next<M2.next:=Nat.lt_of_lt_of_le l1 k2.next
 have hne:M2.next≠M4.next:=by omega
 have hv5:=hv.keep k05 (by simp)
 have ae8:=hv.lt
 have hvn:∀ x∈aH v,x ∉ [M4.next]:=fun x hx hm=>by have:=ae8 x hx; simp at hm; omega
 rw[hv5.len,Cb]
 refine⟨by decide, ?_⟩
 have e1:IntKind.i64.wrap ((b.length:Int).tdiv 64)=((b.length / 64:Nat) : Int):=by
  rw[show(b.length:Int).tdiv 64=((b.length / 64:Nat) : Int) by rw[Int.natCast_ediv]; exact Int.tdiv_eq_ediv_of_nonneg (by omega)]
  exact bO (by omega) (by omega)
 rw[e1,kN,show IntKind.i64.wrap (((b.length / 64:Nat) : Int) * 64)=((b.length / 64 * 64:Nat) : Int) by rw[bO (by omega) (by omega)]; omega]
 generalize hwe:b.length / 64=q at *
 have hq:q * 64≤b.length∧b.length<q * 64 + 64:=by omega
 refine aI (fun m ys M6=>∃ j:Nat,m=q - j∧ys=[N .i64 ((j * 64:Nat) : Int)]∧j≤q∧ag [M4.next] M5 M6∧M6.heap M4.next=some (.row (dD.row (eF kW j hW b)) false TS 0)) _
  ⟨0,rfl,rfl,by omega,ag.refl _ _,n5⟩ ?_
 rintro next m ys M6 hnext ⟨j,rfl,rfl,hj,k6,n6⟩
 simp only[dC]
 have l6:M4.next<M6.next:=Nat.lt_of_lt_of_le l5 k6.next
 have n36:=k6.ay n35 l35 (by simp; omega)
 have l36:M2.next<M6.next:=Nat.lt_of_lt_of_le l35 k6.next
 have hv6:=hv5.keep k6 hvn
 have YX:(eF kW j hW b).length=8:=qo Kn
 rw[gQ]
 refine aN (fun hc=>?_) fun hc=>?_
 ·have hjq:j<q:=by have:=of_decide_eq_true hc; omega
  rw[kK 64 (by omega) (by omega) (by rfl)]
  refine hv6.sub (IV _ _ _) (IV _ _ _) (by omega) (by omega) fun v7 h7 hs7=>?_
  rw[show j * 64 + 64 - j * 64=64 by omega] at h7
  refine ht n6 l6 YX n36 l36 hne E9 h7 (by rw[List.length_take,List.length_drop]; omega) fun M7 k7 n7=>?_
  rw[kK 64 (by omega) (by omega) (by rfl),show j * 64 + 64=(j + 1) * 64 by omega]
  refine hnext _ _ _ (by omega) ⟨j + 1,rfl,rfl,by omega,k6.trans k7, ?_⟩
  rw[xY,Nat.mul_comm 64]
  exact n7
 have hjq:j=q:=by have:=of_decide_eq_false hc; omega
 subst hjq
 clear hnext
 refine hv6.sub (IV _ _ _) (ae9 _) (by omega) (Nat.le_refl _) fun v7 h7 hs7=>?_
 rw[List.take_of_length_le (by simp)] at h7
 have hdl:(b.drop (j * 64)).length=b.length - j * 64:=List.length_drop
 refine hcl h7.sl (by omega) fun v8 M8 o8 k8=>?_
 rw[gD (by rfl) (by rfl) (by rfl),aG]
 refine iY (E:=BY) (a:=(128:UInt8)) o8 k8.next (by decide) (by omega) (by omega) fun v9 M9 o9 k9 _ _=>?_
 have k69:ag [] M6 M9:=ag.own k8 k9 (fun x hx=>(Own.blk o8 x hx).1)
 have hzp:zp b.length<64:=Nat.mod_lt _ (by decide)
 have hz:(b.length - j * 64 + 1 + zp b.length) % 64=56:=by unfold zp; omega
 refine aI (fun m ys M10=>∃ (i:Nat) (rv:AV),m=zp b.length - i∧ys=[rv]∧i≤zp b.length∧ag [] M6 M10∧Ow BY M10 M6.next T8 rv (b.drop (j * 64)++128 :: List.replicate i 0)) _
  ⟨0,v9,rfl,rfl,by omega,k69,o9⟩ ?_
 rintro next m ys M10 hnext ⟨i,rv,rfl,rfl,hi,k10,o10⟩
 simp only[dC]
 have hrl:(b.drop (j * 64)++128 :: List.replicate i 0).length=b.length - j * 64 + 1 + i:=by simp; omega
 rw[dE.len (Own.jX o10),hrl,tF]
 refine⟨by decide, ?_⟩
 rw[show(((b.length - j * 64 + 1 + i:Nat) : Int)).tmod 64=(((b.length - j * 64 + 1 + i) % 64:Nat) : Int) by rw[Int.natCast_emod]; exact Int.tmod_eq_emod_of_nonneg (by omega),di]
 refine aN (fun hc=>?_) fun hc=>?_
 ·have hne:(b.length - j * 64 + 1 + i) % 64≠56:=fun e=>by rw[e] at hc; cases hc
  have hlt:i<zp b.length:=by
   rcases Nat.lt_or_ge i (zp b.length) with h | h
   ·exact h
   ·have:i=zp b.length:=by omega
    subst this; exact absurd hz hne
  rw[gD (by rfl) (by rfl) (by rfl),aG]
  refine iY (E:=BY) (a:=(0:UInt8)) o10 k10.next (by decide) (by omega) (by omega) fun v11 M11 o11 k11 _ _=>?_
  refine hnext _ _ _ (by omega) ⟨i + 1,v11,rfl,rfl,by omega,ag.own k10 k11 (fun x hx=>(Own.blk o10 x hx).1), ?_⟩
  have e:b.drop (j * 64)++128 :: List.replicate (i + 1) 0=b.drop (j * 64)++128 :: List.replicate i 0++[0]:=by rw[List.replicate_succ']; simp
  rw[e]; exact o11
 have afd:(b.length - j * 64 + 1 + i) % 64=56:=by
  have:((((b.length - j * 64 + 1 + i) % 64:Nat) : Int) != 56)=false:=hc
  have:=bne_eq_false_iff_eq.1 this
  omega
 have hiz:i=zp b.length:=by omega
 subst hiz
 clear hnext
 generalize hpre:b.drop (j * 64)++128 :: List.replicate (zp b.length) 0=P at *
 refine aI (fun m ys M11=>∃ (i:Nat) (rv:AV),m=8 - i∧ys=[rv,N .i64 (i:Int)]∧i≤8∧ag [] M6 M11∧Ow BY M11 M6.next T8 rv (P++(nZ b.length).take i)) _
  ⟨0,rv,rfl,rfl,by omega,k10,by rw[List.take_zero,List.append_nil]; exact o10⟩ ?_
 rintro next m ys M11 hnext ⟨i,rv2,rfl,rfl,hi,k11,o11⟩
 simp only[dC,jC]
 have af7:=hv6.keep k11 (by simp)
 have hll:((nZ b.length).take i).length=i:=by rw[List.length_take]; simp[nZ]; omega
 have hpl:(P++(nZ b.length).take i).length=b.length - j * 64 + 1 + zp b.length + i:=by rw[List.length_append,hrl,hll]
 rw[pV 8 (by rfl)]
 refine aN (fun hc=>?_) fun hc=>?_
 ·have hi8:i<8:=of_decide_eq_true hc
  rw[af7.len,gU,fG (by omega) (by omega),kN,fG (by omega) (by omega),kN,bO (by omega) (by omega),gB,bO (by omega) (by omega),jm]
  refine⟨by omega, ?_⟩
  rw[gU,show((b.length:Int) * 8)=((8 * b.length:Nat) : Int) by omega,show(56 - 8 * (i:Int))=((56 - 8 * i:Nat) : Int) by omega,Gw,gD (by rfl) (by rfl) (by rfl),aG]
  refine iY (E:=BY) (a:=He (nT .u64 ((8 * b.length:Nat) : Int) ((56 - 8 * i:Nat) : Int))) o11 k11.next (by decide) (by omega) (by omega) fun v12 M12 o12 k12 _ _=>?_
  rw[kK 1 (by omega) (by omega) (by rfl)]
  refine hnext _ _ _ (by omega) ⟨i + 1,v12,rfl,rfl,by omega,ag.own k11 k12 (fun x hx=>(Own.blk o11 x hx).1), ?_⟩
  rw[O0 hi8,← List.append_assoc]
  exact o12
 have hi8:i=8:=by have:=of_decide_eq_false hc; omega
 subst hi8
 clear hnext
 rw[List.take_of_length_le (by simp[nZ])] at o11 hpl
 have hfull:P++nZ b.length=b.drop (j * 64)++vD b.length:=by rw[← hpre]; simp[vD]
 rw[hfull] at o11 hpl
 have hrest:(b.drop (j * 64)++vD b.length).length=b.length - j * 64 + 9 + zp b.length:=by rw[hpl]; omega
 generalize hRe:b.drop (j * 64)++vD b.length=R at *
 have hmod:(b.length - j * 64 + 9 + zp b.length) % 64=0:=by omega
 obtain⟨n,hn⟩ : ∃ n,b.length - j * 64 + 9 + zp b.length=64 * n:=⟨(b.length - j * 64 + 9 + zp b.length) / 64,by omega⟩
 rw[hn] at hrest
 have Yg:=Bs.own o11
 have n11:=k11.ay n6 l6 (by simp)
 have n311:=k11.ay n36 l36 (by simp)
 have l11:M4.next<M11.next:=Nat.lt_of_lt_of_le l6 k11.next
 have abD:M2.next<M11.next:=Nat.lt_of_lt_of_le l36 k11.next
 generalize hH:eF kW j hW b=H at *
 have hrn:∀ x∈aH rv2,x ∉ [M4.next]:=fun x hx hm=>by
  have:=(Own.blk o11 x hx).1
  simp at hm; omega
 refine aI (fun m ys M12=>∃ i:Nat,m=n - i∧ys=[N .i64 ((i * 64:Nat) : Int)]∧i≤n∧ag [M4.next] M11 M12∧M12.heap M4.next=some (.row (dD.row (eF kW i H R)) false TS 0)) _
  ⟨0,rfl,rfl,by omega,ag.refl _ _,n11⟩ ?_
 rintro next m ys M12 hnext ⟨i,rfl,rfl,hi,k12,n12⟩
 simp only[dC]
 have l12:M4.next<M12.next:=Nat.lt_of_lt_of_le l11 k12.next
 have n312:=k12.ay n311 abD (by simp; omega)
 have ae7:M2.next<M12.next:=Nat.lt_of_lt_of_le abD k12.next
 have O8:=Yg.keep k12 hrn
 rw[O8.len,gQ]
 refine aN (fun hc=>?_) fun hc=>?_
 ·have hin:i<n:=by have:=of_decide_eq_true hc; omega
  rw[kK 64 (by omega) (by omega) (by rfl)]
  refine O8.sub (IV _ _ _) (IV _ _ _) (by omega) (by omega) fun v13 h13 aeI=>?_
  rw[show i * 64 + 64 - i * 64=64 by omega] at h13
  refine ht n12 l12 (qo YX) n312 ae7 hne E9 h13 (by rw[List.length_take,List.length_drop]; omega) fun M13 k13 n13=>?_
  rw[kK 64 (by omega) (by omega) (by rfl),show i * 64 + 64=(i + 1) * 64 by omega]
  refine hnext _ _ _ (by omega) ⟨i + 1,rfl,rfl,by omega,k12.trans k13, ?_⟩
  rw[xY,Nat.mul_comm 64]
  exact n13
 have hin:i=n:=by have:=of_decide_eq_false hc; omega
 subst hin
 clear hnext
 have UR:Jd b=jM (eF kW i H R):=by
  unfold Jd
  rw[VQ,hwe,hRe,hH,hn,Nat.mul_div_cancel_left _ (by decide)]
 have hF:(eF kW i H R).length=8:=qo YX
 generalize eF kW i H R=F at *
 have hdF:=H5 F
 rw[aG]
 have Yi:ag [M4.next] M5 M12:=k6.trans ((k11.mono (by simp)).trans k12)
 have n112:=Yi.ay n15 l15 (by simp; omega)
 have X9:M.next<M12.next:=Nat.lt_of_lt_of_le l15 Yi.next
 have k14:ag [] M12 (M12.push (.row (BY.row (List.replicate 32 0)) false T32 0)):=(ag.refl _ _).push _
 have n14:(M12.push (.row (BY.row (List.replicate 32 0)) false T32 0)).heap M12.next=some (.row (BY.row ((jM F).take 0++List.replicate (32 - 0) 0)) false T32 0):=by simp[RM.push]
 have l14:M12.next<(M12.push (.row (BY.row (List.replicate 32 0)) false T32 0)).next:=by simp[RM.push]
 show bf _ _ (M12.push (.row (BY.row (List.replicate 32 0)) false T32 0))
 generalize M12.push (.row (BY.row (List.replicate 32 0)) false T32 0)=M14 at *
 refine aI (fun m ys M15=>∃ i:Nat,m=32 - i∧ys=[N .i64 (i:Int)]∧i≤32∧ag [] M12 M15∧M12.next<M15.next∧M15.heap M12.next=some (.row (BY.row ((jM F).take i++List.replicate (32 - i) 0)) false T32 0)) _
  ⟨0,rfl,rfl,by omega,k14,l14,n14⟩ ?_
 rintro next m ys M15 hnext ⟨i',rfl,rfl,hi',k15,X8,n15'⟩
 simp only[dC]
 have ae1:=k15.ay n12 l12 (by simp)
 rw[pV 32 (by rfl)]
 refine aN (fun hc=>?_) fun hc=>?_
 ·have pR:i'<32:=of_decide_eq_true hc
  rw[Cb]
  refine⟨by decide, ?_⟩
  rw[show IntKind.i64.wrap (((i' : Nat) : Int).tdiv 4)=((i' / 4:Nat) : Int) by
   rw[show((i' : Nat) : Int).tdiv 4=((i' / 4:Nat) : Int) by rw[Int.natCast_ediv]; exact Int.tdiv_eq_ediv_of_nonneg (by omega)]
   exact bO (by omega) (by omega)]
  rw[dY rfl (by omega),qB ae1 (by omega),tF]
  refine⟨by decide, ?_⟩
  rw[show(((i' : Nat) : Int)).tmod 4=((i' % 4:Nat) : Int) by rw[Int.natCast_emod]; exact Int.tmod_eq_emod_of_nonneg (by omega),kN,bO (by omega) (by omega),gB,bO (by omega) (by omega),jm]
  refine⟨by omega, ?_⟩
  rw[gU,Gw,dY rfl pR,show(24 - 8 * ((i' % 4:Nat) : Int))=((24 - 8 * (i' % 4) : Nat) : Int) by omega]
  have hget:(jM F)[i']?=some (He (nT .u32 (F.getD (i' / 4) 0) ((24 - 8 * (i' % 4) : Nat) : Int))):=by
   simp[jM,pR]
  have hset:=QC pR hdF hget
  have ac2:((jM F).take i'++List.replicate (32 - i') 0).length=32:=by rw[List.length_append,List.length_take,List.length_replicate]; omega
  rw[bQ (BY.row ((jM F).take (i' + 1)++List.replicate (32 - (i' + 1)) 0)) n15' (by rw[lF]; omega) rfl rfl (by rw[← hset,nO,nO,List.map_set]),kK 1 (by omega) (by omega) (by rfl)]
  exact hnext _ _ _ (by omega) ⟨i' + 1,rfl,rfl,by omega,k15.new _ (Nat.le_refl _),X8,aB _⟩
 ·have pR:i'=32:=by have:=of_decide_eq_false hc; omega
  subst pR
  have e:(jM F).take 32++List.replicate (32 - 32) 0=jM F:=by rw[List.take_of_length_le (by omega)]; simp
  rw[e] at n15'
  have n115:=k15.ay n112 X9 (by simp)
  rw[aP n15' (by rw[lF,hdF]),qi n115 (by rw[lF,hdF]) (by rw[lF,List.length_replicate]) (BY.fT _),aP (aB _) (by rw[lF,hdF]),← UR]
  have YU:ag [M4.next] M M12:=(k05.mono (by simp)).trans Yi
  have adX:ag [] M M12:=⟨YU.base,YU.next,fun x hx _=>YU.heap x hx (by simp; omega)⟩
  exact hQ _ ((adX.trans k15).new _ (Nat.le_refl _))
theorem We {p:UInt8→Bool} (h:(List.range 256).all (fun n=>p (UInt8.ofNat n))=true) (x:UInt8) : p x=true:=by
 have:=List.all_eq_true.1 h x.toNat (List.mem_range.2 x.toNat_lt)
 simpa using this
abbrev Yp:Str:=[48,49,50,51,52,53,54,55,56,57,97,98,99,100,101,102]
def hx (n:Nat) : UInt8:=Yp.getD n 0
def yI (d:Str) : Str:=d.flatMap fun x=>[hx (x.toNat / 16),hx (x.toNat % 16)]
theorem IQ (d:Str) : (yI d).length=2 * d.length:=by
 induction d with
 | nil=>rfl
 | cons x d ih=>unfold yI at ih ⊢; rw[List.flatMap_cons,List.length_append,ih,List.length_cons]; simp; omega
theorem MN (d:Str) {i:Nat} (h:i<d.length) : yI (d.take (i + 1))=yI (d.take i)++[hx (d[i].toNat / 16),hx (d[i].toNat % 16)]:=by
 rw[List.take_succ_eq_append_getElem h]
 unfold yI
 rw[List.flatMap_append]
 simp
def qHi (x:UInt8) : Bool:=nT .u8 (x.toNat:Int) 4 == ((x.toNat / 16:Nat) : Int)
def qLo (x:UInt8) : Bool:=xE .u8 (x.toNat:Int) 15 == ((x.toNat % 16:Nat) : Int)
theorem aaD:∀ x,qHi x=true:=We (by decide +kernel)
theorem aba:∀ x,qLo x=true:=We (by decide +kernel)
theorem aag (x:UInt8) : nT .u8 (x.toNat:Int) 4=((x.toNat / 16:Nat) : Int):=eq_of_beq (aaD x)
theorem aaf (x:UInt8) : xE .u8 (x.toNat:Int) 15=((x.toNat % 16:Nat) : Int):=eq_of_beq (aba x)
theorem OE {n:Nat} (h:n<16) {k:IntKind} {K:AV→Prop} : bA (St Yp) (N k (n:Int)) K=K (By (hx n)):=by
 rw[gM (by show n<16; exact h)]
 have:Yp[n]'(by show n<16; exact h)=hx n:=by
  unfold hx
  rw[List.getD_eq_getElem?_getD,List.getElem?_eq_getElem (by show n<16; exact h)]; rfl
 rw[this]
theorem aab {T:Nat} {a b z:AV} {K:RB→(Nat→AV)→Prop} (ha:a.cells=[a]) (hb:b.cells=[b]) (ha1:oneCell a=true) (hb1:oneCell b=true) :
  bM T 2 [z] [(0,1,a),(1,1,b)] K=K (.row [a,b] false T 0) (fun b=>.slc b 0 2 (.ex 2)):=by
 have:om (nH [z] 2) [(0,1,a),(1,1,b)]=some [a,b]:=by simp[om,nH,ha,hb,ha1,hb1]
 apply propext; unfold bM
 constructor
 ·rintro⟨l,h,hk⟩; rw[this] at h; cases h; exact hk
 ·intro hk; exact⟨_,this,hk⟩
theorem SI {M:RM} {base T:Nat} {v:AV} {xs:Str} {x y:UInt8} {zs:List AV} {K:ak} (ho:Ow BY M base T v xs) (hb:base≤M.next) (hn:xs.length≤1000000000)
  (hK:∀ v' M',Ow BY M' base T v' (xs++[x,y])→ag (aH v) M M'→K v' M') :
  appW T 1 1 zs false v (.slc M.next 0 2 (.ex 2)) (M.push (.row [By x,By y] false T 0)) K:=by
 have hk:ag [] M (M.push (.row (BY.row [x,y]) false T 0)):=(ag.refl _ _).push _
 refine wO (E:=BY) (ys:=[x,y]) (Own.keep ho hk (by simp)) (Nat.le_trans hb hk.next) (by decide) (Sl.new [x,y]) (by simp; omega) (by simp; omega) fun v' M' h1 h2 _ _=>?_
 exact hK v' M' h1 ((hk.mono (by simp)).trans h2)
def Vq (c:au) : Prop:=∀ {M:RM} {d:Str} {Q:ak},d.length=32→(∀ M',ag [] M M'→Q (St (yI d)) M')→c [.agg (BY.row d)] M Q
theorem abF {d:Str} {i:Nat} (h:i<d.length) : (BY.row d)[i]?=some (By d[i]):=by rw[nO,List.getElem?_map,List.getElem?_eq_getElem h]; rfl
theorem Wy {T32 T8:Nat} : Vq fun args M Q=>∃ a0,args=[a0]∧Et T32 T8 a0 M Q:=by
 intro M d Q hd hQ
 refine⟨_,rfl, ?_⟩
 unfold Et
 rw[fU (BY.fT d) (by rw[lF]; omega),aG]
 have k0:ag [] M (M.push (.row (BY.row d) false T32 0)):=(ag.refl _ _).push _
 have n0:(M.push (.row (BY.row d) false T32 0)).heap M.next=some (.row (BY.row d) false T32 0):=by simp[RM.push]
 generalize M.push (.row (BY.row d) false T32 0)=M0 at *
 rw[aP n0 (by rw[lF,hd])]
 refine aI (fun m ys M3=>∃ (i:Nat) (ov:AV),m=32 - i∧ys=[ov,N .i64 (i:Int)]∧i≤32∧ag [] M M3∧Ow BY M3 M.next T8 ov (yI (d.take i))) _ ⟨0,aJ,rfl,rfl,by omega,k0,.nil⟩ ?_
 rintro next m ys M3 hnext ⟨i,ov,rfl,rfl,hi,k3,o3⟩
 simp only[dC,jC]
 rw[pV 32 (by rfl)]
 refine aN (fun hc=>?_) fun hc=>?_
 ·have pR:i<32:=of_decide_eq_true hc
  have hid:i<d.length:=by omega
  have hlt:=ug d[i]
  rw[Nf]
  refine⟨by omega,by omega,By d[i],by rw[Int.toNat_natCast]; exact abF hid, ?_⟩
  rw[By,jm]
  refine⟨by decide, ?_⟩
  rw[aag,OE (by omega),fQ,aaf,OE (by omega),aab rfl rfl rfl rfl,qL]
  have hhl:=IQ (d.take i)
  have htl:(d.take i).length=i:=by rw[List.length_take]; omega
  refine SI o3 k3.next (by omega) fun v4 M4 o4 k4=>?_
  rw[kK 1 (by omega) (by omega) (by rfl)]
  refine hnext _ _ _ (by omega) ⟨i + 1,v4,rfl,rfl,by omega,ag.own k3 k4 (fun x hx=>(Own.blk o3 x hx).1), ?_⟩
  rw[MN d hid]; exact o4
 ·have pR:i=32:=by have:=of_decide_eq_false hc; omega
  subst pR
  rw[List.take_of_length_le (by omega)] at o3
  rw[Sl.str (Own.jX o3)]
  exact hQ M3 k3
def VB (c:au) : Prop:=∀ {M:RM} {v:AV} {d:Str} {Q:ak},Bs M v d→d.length≤1000000→(∀ M',ag [] M M'→Q (St (yI d)) M')→c [v] M Q
theorem V6 {T8:Nat} : VB fun args M Q=>∃ a0,args=[a0]∧Dj T8 a0 M Q:=by
 intro M v d Q hv hl hQ
 refine⟨_,rfl, ?_⟩
 unfold Dj
 refine BR ?_
 show aO _ _ _ _
 rw[aG]
 have k0:ag [] M (M.push (.row [] false T8 0)):=(ag.refl _ _).push _
 refine aI (fun m ys M3=>∃ (i:Nat) (ov:AV),m=d.length - i∧ys=[ov,N .i64 (i:Int)]∧i≤d.length∧ag [] M M3∧Ow BY M3 M.next T8 ov (yI (d.take i))) _ ⟨0,_,rfl,rfl,by omega,k0,Ow.lit BY M⟩ ?_
 rintro next m ys M3 hnext ⟨i,ov,rfl,rfl,hi,k3,o3⟩
 simp only[dC,jC]
 have hv3:=hv.keep k3 (by simp)
 rw[hv3.len,gQ]
 refine aN (fun hc=>?_) fun hc=>?_
 ·have hid:i<d.length:=of_decide_eq_true hc
  have hlt:=ug d[i]
  rw[hv3.read hid,By,jm]
  refine⟨by decide, ?_⟩
  rw[aag,OE (by omega),hv3.read hid,By,fQ,aaf,OE (by omega),aab rfl rfl rfl rfl,qL]
  have hhl:=IQ (d.take i)
  have htl:(d.take i).length=i:=by rw[List.length_take]; omega
  refine SI o3 k3.next (by omega) fun v4 M4 o4 k4=>?_
  rw[kK 1 (by omega) (by omega) (by rfl)]
  refine hnext _ _ _ (by omega) ⟨i + 1,v4,rfl,rfl,by omega,ag.own k3 k4 (fun x hx=>(Own.blk o3 x hx).1), ?_⟩
  rw[MN d hid]; exact o4
 ·have pR:i=d.length:=by have:=of_decide_eq_false hc; omega
  subst pR
  rw[List.take_length] at o3
  rw[Sl.str (Own.jX o3)]
  exact hQ M3 k3
def dR (b:Str) : Str:=yI (Jd b)
theorem EW (b:Str) : (dR b).length=64:=by unfold dR; rw[IQ,IE]
def UC (c:au) : Prop:=∀ {M:RM} {v:AV} {b:Str} {Q:ak},Bs M v b→b.length≤100000000→(∀ M',ag [] M M'→Q (St (dR b)) M')→c [v] M Q
theorem Bs.arr {M:RM} {b T:Nat} {d:Str} (h:M.heap b=some (.row (BY.row d) false T 0)) (hb:b<M.next) : Bs M (.slc b 0 d.length (.ex d.length)) d :=
 ⟨Rw.sl ⟨h,hb⟩,Nat.le_refl _⟩
theorem Zx {n b:Nat} (hn:0<n) : Jj n 1 (.ptr b 0) none none=some (.slc b 0 n (.ex n)):=by
 unfold Jj
 simp only[bnd]
 rw[if_pos ⟨Nat.zero_le _,Nat.le_refl _⟩,if_neg (by omega)]
 simp
theorem Q7 {T32:Nat} {cs ch:au} (hs:Ml cs) (hh:VB ch) : UC fun args M Q=>∃ a0,args=[a0]∧zY cs T32 ch a0 M Q:=by
 intro M v b Q hv hl hQ
 refine⟨_,rfl, ?_⟩
 unfold zY
 refine hs hv hl fun M1 k1=>?_
 have hd:=IE b
 refine Oa (K:=fun t ZK=>_) (z:=BY.row (List.replicate 32 0)) 32 (by rw[lF,List.length_replicate]) (by rw[lF,hd]) (BY.fT _) fun M2 k2 n2 l2=>?_
 rw[Zx (by omega),bK]
 have hB:=Bs.arr n2 l2
 rw[hd] at hB
 refine hh hB (by omega) fun M3 k3=>?_
 exact hQ M3 (k1.trans (k2.trans k3))
theorem kR {T:Nat} {M:RM} (z:List AV) {K:AV→RM→Prop} (hK:∀ M',ag [] M M'→M'.heap M.next=some (.row z false T 0)→M'.next=M.next + 1→K (.ptr M.next 0) M') : aO (.row z false T 0) (fun b=>.ptr b 0) M K:=by
 rw[aG]
 exact hK _ ((ag.refl _ _).push _) (by simp[RM.push]) rfl
end Go.Ab.Sha
namespace Go.Ab.Vc
open Go Go.Ab Go.Ab.Vl Go.Ab.Sm
theorem aam {α:Type} {R:lG α} {M:RM} {v:AV} {xs:List α} {S:Nat→Prop} (h:cB R M v xs S) (hc:OX R.size v) (h0:0<xs.length) {K:AV→Prop}
  (hK:∀ v',cB R M v' (xs.drop 1) S→K v') : bP (jD R.size v (some (N .i64 1)) none none) K:=by
 obtain⟨cs,h1,h2,h3⟩:=h
 have hl:=h3.len
 have h3':=h3.drop 1
 have hlen:(xs.drop 1).length=xs.length - 1:=by simp
 generalize hn:xs.length=n at h1
 cases h1 with
 | nil=>omega
 | emp=>omega
 | slc b o _ cap cs hb hld =>
   have hp:=Ku hld (1 * R.size) ((n - 1) * R.size) (by rw[← Nat.add_mul]; exact Nat.mul_le_mul_right _ (by omega))
   have hcs:(cs.drop (1 * R.size)).take ((n - 1) * R.size)=cs.drop (1 * R.size):=by
    apply List.take_of_length_le
    rw[List.length_drop,hl,hn,Nat.sub_mul]; omega
   rw[hcs] at hp
   have b1:bnd 0 (some (N .i64 (1:Int)))=some 1:=rfl
   have b2:∀ k,bnd k none=some k:=fun _=>rfl
   have mk:∀ cap',cB R M (.slc b (o + 1 * R.size) (n - 1) cap') (xs.drop 1) S:=fun cap'=>⟨_,by rw[hlen,hn]; exact .slc _ _ _ _ _ hb hp,fun x hx=>h2 x hx,h3'⟩
   have zero:n=1→∀ {w:AV},(∀ x∈aH w,S x)→dE M R.size w [] 0→cB R M w (xs.drop 1) S:=by
    intro e w hw hr
    have:xs.drop 1=[]:=List.drop_eq_nil_of_le (by omega)
    rw[this]
    exact⟨[],hr,hw,.nil⟩
   have hSb:S b:=h2 b (by simp[aH])
   cases cap with
   | ex c =>
     have hc:n≤c:=hc
     by_cases e:c=1
     ·subst e
      refine⟨.slc b o 0 (.ex 0),by simp only[jD,b1,b2]; rw[if_pos ⟨by omega,by omega⟩]; simp,hK _ (zero (by omega) (fun x hx=>by simp[aH] at hx; subst hx; exact hSb) (.slc _ _ _ _ _ hb ?_))⟩
      have:=Ku hld 0 0 (by omega)
      simpa using this
     ·exact⟨_,by simp only[jD,b1,b2]; rw[if_pos ⟨by omega,by omega⟩,if_neg e],hK _ (mk _)⟩
   | op esz =>
     have hc:esz=R.size:=hc
     subst hc
     by_cases e:n≤1
     ·exact⟨.emp b,by simp only[jD,b1,b2]; simp[e]; omega,hK _ (zero (by omega) (fun x hx=>by simp[aH] at hx) (.emp _))⟩
     ·exact⟨_,by simp only[jD,b1,b2]; simp only[and_true]; rw[if_pos ⟨by omega,by omega⟩,if_neg e],hK _ (mk _)⟩
def KL (x:Li) : Bool:=decide (x.1.n=CB) && decide (x.1.g=[])
def Ut (B:Base) (c:au) : Prop:=∀ {M:RM} {v:AV} {ls:List Li} {S:Nat→Prop} {all:Str} {Q:ak},cB gq M v ls S→ls.length≤200000→all.length≤100000000→(∀ M',ag [] M M'→Q (St (nI Sha.dR ls all)) M')→c [v,St all] M Q
theorem V8 {B:Base} {TL TU:Nat} {cs ch:au} (hs:Sha.Ml cs) (hh:Sha.Vq ch) : Ut B fun args M Q=>∃ a0 a1,args=[a0,a1]∧rD TL TU cs ch a0 a1 M Q:=by
 intro M v ls S all Q hv hlen hal hQ
 refine⟨_,_,rfl, ?_⟩
 unfold rD
 simp only[dN,bL]
 have hf:nI Sha.dR ls all=match ls.find? KL with
  | some x=>if 1≤x.1.v.length∧x.1.v.length≤64 then x.1.v else[99,45]++(Sha.dR all).take 16
  | none=>[99,45]++(Sha.dR all).take 16:=rfl
 rw[hf] at hQ
 refine aW (fun ys M'=>ag [] M M'∧nI Sha.dR ls all=[99,45]++(Sha.dR all).take 16) ?_ ?_
 ·rintro ys M1 ⟨k1,he⟩
  rw[hf] at he
  rw[he] at hQ
  rw[qV,aG]
  have k2:ag [] M1 (M1.push (.row (BY.row all) true TU 0)):=(ag.refl _ _).push _
  have o2:Ow BY (M1.push (.row (BY.row all) true TU 0)) M1.next TU (.slc M1.next 0 all.length (.op 1)) all:=.op _ _ _ (Nat.le_refl _) (by simp[RM.push]) (RM.aV _) (by simp[BY,Enc.ic])
  generalize M1.push (.row (BY.row all) true TU 0)=M2 at *
  refine hs (Sha.Bs.own o2) hal fun M3 k3=>?_
  refine hh (Sha.IE all) fun M4 k4=>?_
  have h64:(Sha.yI (Sha.Jd all)).length=64:=Sha.EW all
  rw[show(N .i64 (16:Int))=N .i64 ((16:Nat) : Int) from rfl,fO (by omega),bK,bI]
  refine⟨by simp; omega, ?_⟩
  exact hQ M4 (((k1.trans k2).trans k3).trans k4)
 intro J hJ
 rw[hv.len]
 refine aI (fun m ys M1=>∃ i:Nat,m=ls.length - i∧ys=[N .i64 (i:Int)]∧i≤ls.length∧ag [] M M1∧(ls.drop i).find? KL=ls.find? KL) _
  ⟨0,rfl,rfl,Nat.zero_le _,ag.refl _ _,rfl⟩ ?_
 rintro next m ys M1 hnext ⟨i,rfl,rfl,hi,k1,he⟩
 dsimp only[ae]
 have hv1:=hv.keep k1 (bs:=[]) (by simp)
 rw[gQ]
 refine aN (fun h=>?_) (fun h=>?_)
 rotate_left 1
 ·have h:¬ i<ls.length:=of_decide_eq_false h
  rw[List.drop_eq_nil_of_le (by omega)] at he
  refine hJ _ _ ⟨k1, ?_⟩
  rw[hf,← he]; rfl
 have h:i<ls.length:=of_decide_eq_true h
 obtain⟨pw,hpw,hq,_⟩:=qp hv1 h
 rw[hq,aG]
 rw[List.drop_eq_getElem_cons h,List.find?_cons] at he
 generalize ls[i]=x at *
 have hall:([St x.1.g,St x.1.n,pw,St x.1.v,N .i64 x.2] : List AV).all oneCell=true:=by simp[eu,hpw.one]
 refine zv (b:=0) 5 rfl rfl _ rfl hall rfl fun M2 k2 n2 h2=>?_
 rw[aT,aA h2 rfl,jP]
 refine jF (p:=x.1.g != []) (fun hc kk hk=>?_) ?_
 ·rw[aT,aA h2 rfl,jP]; exact hk
 have hu:KL x=!((x.1.n != CB) || (x.1.g != [])):=by
  unfold KL
  by_cases h1:x.1.n=CB <;> by_cases h2:x.1.g=[] <;> simp[h1,h2]
 refine aN (fun hc=>?_) (fun hc=>?_)
 ·rw[hu,hc] at he
  rw[add1 (by omega)]
  exact hnext _ _ _ (by omega) ⟨i + 1,rfl,rfl,by omega,k1.trans k2,he⟩
 ·rw[hu,hc] at he
  simp only[Bool.not_false] at he
  rw[aT,aA h2 rfl,bi,show(N .i64 (1:Int))=N .i64 ((1:Nat) : Int) from rfl,dL]
  have hd:nI Sha.dR ls all=if 1≤x.1.v.length∧x.1.v.length≤64 then x.1.v else[99,45]++(Sha.dR all).take 16:=by rw[hf,← he]
  rw[← hf,hd] at hQ
  refine qw (p:=decide (x.1.v.length≤64)) (fun hc kk hk=>?_) ?_
  ·rw[aT,aA h2 rfl,bi,show(N .i64 (64:Int))=N .i64 ((64:Nat) : Int) from rfl,Lf]; exact hk
  refine aN (fun hc=>?_) (fun hc=>?_)
  ·simp only[Bool.and_eq_true,decide_eq_true_eq] at hc
   rw[if_pos ⟨by omega,hc.2⟩] at hQ
   rw[aT,aA h2 rfl]
   exact hQ _ (k1.trans k2)
  ·refine hJ _ _ ⟨k1.trans k2, ?_⟩
   rw[hd,if_neg]
   rintro⟨a1,a2⟩
   simp only[Bool.and_eq_false_iff,decide_eq_false_iff_not] at hc
   rcases hc with hc | hc <;> omega
theorem Q8 (n:Str) (k:Nat) (hk:k<4611686018427387904) : (iC n k).length≤n.length + 22:=by
 unfold iC
 split
 ·omega
 ·have hw : -9223372036854775808≤IntKind.wrap .i64 ((k:Int) + 1)∧IntKind.wrap .i64 ((k:Int) + 1)≤9223372036854775807:=by
   rw[IntKind.wrap_i64]; omega
  have:=Lib.itoa_length_le _ hw.1 hw.2
  simp; omega
theorem NG (fs:List Fd) (p:Fd) : iG (fs++[p])=iG fs++(p.1++[0]++p.2++[0]):=by simp[iG]
def Uo (B:Base) (c:au) : Prop:=∀ {M:RM} {v:AV} {ls:List Li} {S:Nat→Prop} {Q:ak},M.base=B→cB gq M v ls S→OX 5 v→ls≠[]→ls.length≤110000→(∀ x∈ls,uA 100000 x.1) →
 (∀ M' w c,ag [] M M'→uk Sha.dR ls=.ok c→Ow mQ M' M.next 30 w c.2.1→Q (.tup [.agg [St c.1,w,N .i64 c.2.2],N .i64 0,N .i64 0]) M') →
 (∀ M' k e,ag [] M M'→uk Sha.dR ls=.error (k,e)→e≠0→Q (.tup [.agg [St [],aJ,N .i64 0],N .i64 k,N .i64 e]) M')→c [v] M Q
theorem Fg {B:Base} {TC TL:Nat} {cp cn cc:au} (hp:Jo B cp) (hn:TZ B cn) (hc:Ut B cc) : Uo B fun args M Q=>∃ a0,args=[a0]∧yO TC TL cp 30 cn cc a0 M Q:=by
 intro M v ls S Q hM hv0 hcap hne hlen hsz hO hE
 refine⟨_,rfl, ?_⟩
 unfold yO
 simp only[dN]
 have hv:=hv0.lt
 obtain⟨b,r,rfl⟩ : ∃ b r,ls=b :: r:=by
  cases ls with
  | nil=>exact absurd rfl hne
  | cons b r=>exact⟨b,r,rfl⟩
 have hr:uk Sha.dR (b :: r)=match mY r [] [] with | .error e=>.error e | .ok fs=>.ok (nI Sha.dR r (iG fs),fs,b.2):=rfl
 simp only[List.length_cons] at hlen
 rw[aG]
 have k1:ag [] M (M.push (.row [St [],aJ,N .i64 0] false TC 0)):=(ag.refl _ _).push _
 have h1:(M.push (.row [St [],aJ,N .i64 0] false TC 0)).heap M.next=some (.row [St [],aJ,N .i64 0] false TC 0):=RM.aV _
 have n1:(M.push (.row [St [],aJ,N .i64 0] false TC 0)).next=M.next + 1:=bZ _
 generalize M.push (.row [St [],aJ,N .i64 0] false TC 0)=M1 at *
 have hv1:=hv.keep k1 (by simp)
 obtain⟨_,_,_,_,_,_,hq4⟩:=qp hv1 (i:=0) (by simp)
 rw[show(N .i64 (0:Int))=N .i64 ((0:Nat) : Int) from rfl,hq4,List.getElem_cons_zero,aT,bQ (l':=[St [],aJ,N .i64 b.2]) h1 (by simp) rfl rfl rfl]
 have k2:ag [] M (M1.put M.next (.row [St [],aJ,N .i64 b.2] false TC 0)):=k1.put _ (.inl (Nat.le_refl _))
 have h2:(M1.put M.next (.row [St [],aJ,N .i64 b.2] false TC 0)).heap M.next=some (.row [St [],aJ,N .i64 b.2] false TC 0):=aB _
 have n2:(M1.put M.next (.row [St [],aJ,N .i64 b.2] false TC 0)).next=M1.next:=rfl
 generalize M1.put M.next (.row [St [],aJ,N .i64 b.2] false TC 0)=M2 at *
 rw[aG]
 have k3:ag [] M2 (M2.push (.map [] 0)):=(ag.refl _ _).push _
 have c3:=mF.new M2
 have n3:(M2.push (.map [] 0)).next=M2.next + 1:=bZ _
 generalize M2.push (.map [] 0)=M3 at *
 have h3:=k3.ay h2 (by omega) (by simp)
 have k03:=k2.trans k3
 have hv3:=hv.keep k03 (by simp)
 refine aam (R:=gq) hv3 hcap (by simp) fun v' hv'=>?_
 rw[List.drop_one,List.tail_cons] at hv'
 rw[hv'.len]
 refine aI (fun m ys M4=>∃ (i:Nat) (ns:List Str) (fs:List Fd) (w:AV),m=r.length - i∧ys=[St (iG fs),N .i64 (i:Int)]∧i≤r.length∧ag [M.next,M2.next] M3 M4∧M2.next<M4.next ∧
   M4.heap M.next=some (.row [St [],w,N .i64 b.2] false TC 0)∧Ow mQ M4 (M2.next + 1) 30 w fs∧mF M4 M2.next (fE ns)∧ns.length=i∧fs.length=i∧(iG fs).length≤600 * i∧mY (r.drop i) ns fs=mY r [] []) _
  ⟨0,[],[],aJ,rfl,rfl,Nat.zero_le _,ag.refl _ _,by omega,h3,.nil,c3,rfl,rfl,by simp[iG],rfl⟩ ?_
 rintro next m ys M4 hnext ⟨i,ns,fs,w,rfl,rfl,hi,k34,n4,h4,o4,c4,hns,hfs,hal,he⟩
 have k4:ag [] M M4:=k03.dH k34 fun c hc=>.inl (by simp at hc; rcases hc with rfl | rfl <;> omega)
 dsimp only[ae]
 have hM4:M4.base=B:=k4.base.trans hM
 have hwb:=o4.blk
 rw[gQ]
 refine aN (fun h=>?_) (fun h=>?_)
 rotate_left 1
 ·have h:¬ i<r.length:=of_decide_eq_false h
  rw[List.drop_eq_nil_of_le (by omega),mY] at he
  rw[← he] at hr
  refine aam (R:=gq) (hv.keep k4 (by simp)) hcap (by simp) fun v4 hv4=>?_
  rw[List.drop_one,List.tail_cons] at hv4
  refine hc hv4 (by omega) (by omega) fun M5 k5=>?_
  have h5:=k5.ay h4 (by omega) (by simp)
  have n5:=k5.next
  have o5:=o4.keep k5 (by simp)
  have how:∀ x:Str,([St x,w,N .i64 b.2] : List AV).all oneCell=true:=fun x=>by
   have hw1:oneCell w=true:=dE.one (Own.jX o4)
   simp[eu,hw1]
  rw[aT,bQ (l':=[St (nI Sha.dR r (iG fs)),w,N .i64 b.2]) h5 (by simp) rfl rfl rfl,aP (n:=3) (aB _) rfl,
   bY (n:=3) (x:=.agg [St (nI Sha.dR r (iG fs)),w,N .i64 b.2]) (aB _) rfl rfl (how _),aP (n:=3) (aB _) rfl]
  refine hO _ w _ (((k4.trans k5).put _ (.inl (Nat.le_refl _))).put _ (.inl (Nat.le_refl _))) hr ?_
  have kA:ag [M.next] M5 (M5.put M.next (.row [St (nI Sha.dR r (iG fs)),w,N .i64 b.2] false TC 0)):=(ag.refl _ _).put _ (.inr (by simp))
  generalize M5.put M.next (.row [St (nI Sha.dR r (iG fs)),w,N .i64 b.2] false TC 0)=MA at *
  have kB:ag [M.next] MA (MA.put M.next (.row (AV.agg [St (nI Sha.dR r (iG fs)),w,N .i64 b.2]).cells false TC 0)):=(ag.refl _ _).put _ (.inr (by simp))
  exact((o5.keep kA (fun c hc=>by have:=(hwb c hc).1; simp; omega)).keep kB (fun c hc=>by have:=(hwb c hc).1; simp; omega)).mono (by omega)
 have h:i<r.length:=of_decide_eq_true h
 have hv4:=hv'.keep k34 (fun c hc=>by simp at hc; rcases hc with rfl | rfl <;> omega)
 obtain⟨pw,hpw,hq,_⟩:=qp hv4 h
 have hx:=hsz _ (List.mem_cons_of_mem _ (List.getElem_mem h))
 rw[hq,aG]
 rw[List.drop_eq_getElem_cons h,mY] at he
 generalize r[i]=x at *
 have hall:([St x.1.g,St x.1.n,pw,St x.1.v,N .i64 x.2] : List AV).all oneCell=true:=by simp[eu,hpw.one]
 refine zv (b:=0) 5 rfl rfl _ rfl hall rfl fun M5 k5 n5 h5=>?_
 have hLB:LB 1000000 x.1:=(hx.mono (by omega)).lb
 have afe:=hx.nam
 rw[aP (n:=5) h5 rfl]
 refine hp (k5.base.trans hM4) (jo (k:=x.2) (hpw.keep k5 (by simp))) hLB (by omega) fun M6 k6=>?_
 have hpl:=Ih hLB
 have hcl:=Su ns (bS x.1).1
 have hnl:=Q8 (bS x.1).1 (fE ns (bS x.1).1) (by omega)
 have hcs:∀ y:Str,fE (ns++[(bS x.1).1]) y=if y=(bS x.1).1 then fE ns (bS x.1).1 + 1 else fE ns y:=fun y=>Ni ns _ y
 generalize bS x.1=p at *
 have h6:=k6.ay h5 (by omega) (by simp)
 have n6:=k6.next
 unfold oP
 rw[aG]
 refine zv (b:=0) 2 rfl rfl _ rfl rfl rfl fun M7 k7 n7 h7=>?_
 have k47:ag [] M4 M7:=(k5.trans k6).trans k7
 have h67:=k7.ay h6 (by omega) (by simp)
 rw[aT,aA h7 rfl]
 have c7:mF M7 M2.next (fE ns):=c4.keep k47 (by simp)
 refine c7.look ?_
 refine hn (k47.base.trans hM4) (by omega) fun M8 k8=>?_
 have h8:=k8.ay h7 (by omega) (by simp)
 have h68:=k8.ay h67 (by omega) (by simp)
 have n8:=k8.next
 rw[aT,bQ (l':=[St (iC p.1 (fE ns p.1)),St p.2]) h8 (by simp) rfl rfl rfl]
 have k9:ag [] M4 (M8.put M6.next (.row [St (iC p.1 (fE ns p.1)),St p.2] false 30 0)):=(k47.trans k8).put _ (.inl (by omega))
 have h9:(M8.put M6.next (.row [St (iC p.1 (fE ns p.1)),St p.2] false 30 0)).heap M6.next=some (.row [St (iC p.1 (fE ns p.1)),St p.2] false 30 0):=aB _
 have h69:(M8.put M6.next (.row [St (iC p.1 (fE ns p.1)),St p.2] false 30 0)).heap M4.next=_:=bJ h68 (by omega)
 have n9:(M8.put M6.next (.row [St (iC p.1 (fE ns p.1)),St p.2] false 30 0)).next=M8.next:=rfl
 generalize M8.put M6.next (.row [St (iC p.1 (fE ns p.1)),St p.2] false 30 0)=M9 at *
 have c9:mF M9 M2.next (fE ns):=c4.keep k9 (by simp)
 refine c9.look ?_
 rw[add1 (by omega)]
 refine c9.upd fun Ma ca ka na=>?_
 have ca' : mF Ma M2.next (fE (ns++[p.1])):=by rw[show fE (ns++[p.1])=_ from funext hcs]; exact ca
 have ha:=ka.ay h9 (by omega) (by simp; omega)
 have h6a:=ka.ay h69 (by omega) (by simp; omega)
 have h4a:=ka.ay (k9.ay h4 (by omega) (by simp)) (by omega) (by simp; omega)
 have k3a:ag [M.next,M2.next] M3 Ma:=(k34.trans (k9.mono (by simp))).trans (ka.mono (by simp))
 have oa:Ow mQ Ma (M2.next + 1) 30 w fs:=(o4.keep k9 (by simp)).keep ka fun c hc=>by have:=(hwb c hc).1; simp; omega
 rw[aT,aA ha rfl,bi,show(N .i64 (64:Int))=N .i64 ((64:Nat) : Int) from rfl,xQ]
 refine jF (p:=decide (p.2.length > 512)) (fun hc kk hk=>?_) ?_
 ·rw[aT,aA ha rfl,bi,show(N .i64 (512:Int))=N .i64 ((512:Nat) : Int) from rfl,xQ]; exact hk
 have hMa:ag [] M Ma:=k03.dH k3a fun c hc=>.inl (by simp at hc; rcases hc with rfl | rfl <;> omega)
 refine aN (fun hb=>?_) (fun hb=>?_)
 ·simp only[Bool.or_eq_true,decide_eq_true_eq] at hb
  rw[if_pos hb] at he
  rw[← he] at hr
  rw[gN]
  refine⟨[St [],aJ,N .i64 0],rfl, ?_⟩
  rw[aT,aA h6a rfl,bY (n:=3) (x:=.agg [St [],aJ,N .i64 0]) h4a rfl rfl rfl,aA (bJ h6a (by omega)) rfl]
  refine⟨rfl, ?_⟩
  rw[aP (n:=3) (aB _) rfl]
  exact hE _ _ _ (hMa.put _ (.inl (Nat.le_refl _))) hr (by decide)
 ·simp only[Bool.or_eq_false_iff,decide_eq_false_iff_not] at hb
  rw[if_neg (by omega)] at he
  generalize hnf:iC p.1 (fE ns p.1)=nf at *
  rw[aT,aA h4a rfl,aP (n:=2) ha rfl,gD (x:=.agg [St nf,St p.2]) (size:=2) rfl rfl rfl,aG]
  refine iY (E:=mQ) (a:=(nf,p.2)) oa (by omega) (by decide) (by omega) (by omega) ?_
  intro w' Mb ob kb nb hwv
  have hb4:=kb.ay h4a (by omega) (fun h=>by have:=(hwb _ h).1; omega)
  have hb9:=kb.ay ha (by omega) (fun h=>by have:=(hwb _ h).2; omega)
  have hob:=ob.blk
  have how' : oneCell w'=true:=dE.one (Own.jX ob)
  have Yu:w'.cells=[w']:=dE.cells (Own.jX ob)
  rw[aT,bQ (l':=[St [],w',N .i64 b.2]) hb4 (by simp) Yu how' rfl]
  have kc:ag [M.next] Mb (Mb.put M.next (.row [St [],w',N .i64 b.2] false TC 0)):=(ag.refl _ _).put _ (.inr (by simp))
  have hc4:(Mb.put M.next (.row [St [],w',N .i64 b.2] false TC 0)).heap M.next=some (.row [St [],w',N .i64 b.2] false TC 0):=aB _
  have hc9:(Mb.put M.next (.row [St [],w',N .i64 b.2] false TC 0)).heap M6.next=_:=bJ hb9 (by omega)
  have nc:(Mb.put M.next (.row [St [],w',N .i64 b.2] false TC 0)).next=Mb.next:=rfl
  generalize Mb.put M.next (.row [St [],w',N .i64 b.2] false TC 0)=Mc at *
  have oc:Ow mQ Mc (M2.next + 1) 30 w' (fs++[(nf,p.2)]):=ob.keep kc fun c hc=>by have:=(hob c hc).1; simp; omega
  have cc' : mF Mc M2.next (fE (ns++[p.1])):=(ca'.keep kb (fun h=>by have:=(hwb _ h).1; omega)).keep kc (by simp; omega)
  rw[aT,aA hc9 rfl,bI]
  refine⟨by simp; omega, ?_⟩
  rw[aT,aA hc9 rfl,bI]
  refine⟨by simp; omega, ?_⟩
  rw[bI]
  refine⟨by simp; omega, ?_⟩
  rw[bI]
  refine⟨by simp; omega, ?_⟩
  rw[add1 (by omega)]
  have k3c:ag [M.next,M2.next] M3 Mc:=(k3a.dH kb fun c hc=>.inl (by have:=(hwb c hc).1; omega)).trans (kc.mono (by simp))
  exact hnext _ _ _ (by omega) ⟨i + 1,ns++[p.1],fs++[(nf,p.2)],w',rfl,by rw[NG],by omega,k3c,by omega,hc4,oc,cc',by simp[hns],by simp[hfs],by rw[NG]; simp; omega,he⟩
theorem Yw (s:Str) : (jl s).1.length + (jl s).2.1.length≤s.length:=by
 unfold jl
 cases hh:bn 34 s with
 | true =>
   have:=bu hh
   rw[if_pos rfl]
   cases hb:brk 34 (s.drop 1) with
   | none=>simp
   | some x =>
     have:=Sd (a:=x.1) (b:=x.2) (by rw[hb])
     simp at this ⊢; omega
 | false =>
   rw[if_neg (by simp)]
   split
   ·simp
   ·simp; omega
theorem OL:∀ (k:Nat) (s:Str) (acc vs:List Str) (r:Str),1≤s.length→iN k s acc=some (vs,r)→gG vs + 3 * r.length≤gG acc + 3 * s.length
 | 0,_,_,_,_,_,h=>by cases h
 | k + 1,s,acc,vs,r,h1,h=>by
   rw[iN] at h
   have hl:=Yw (s.drop 1)
   rw[List.length_drop] at hl
   generalize jl (s.drop 1)=x at *
   obtain⟨v,q,ok⟩:=x
   dsimp only at h hl
   split at h
   ·split at h
    ·rename_i hh
     have:=OL k q _ vs r (bu hh) h
     rw[Gt] at this
     omega
    ·cases h
     rw[Gt]; omega
   ·cases h
theorem Tm (f:Str→Str) : ∀ (k:Nat) (s:Str) (acc ps:List jh) (r:Str),nD f k s acc=some (ps,r)→jY ps + 3 * r.length≤jY acc + 3 * s.length
 | 0,_,_,_,_,h=>by cases h
 | k + 1,s,acc,ps,r,h=>by
   rw[nD] at h
   split at h
   ·rename_i h59
    have hp:=bu h59
    have hw:=zD (s.drop 1)
    rw[List.length_drop] at hw
    split at h
    ·rename_i h61
     simp only[Bool.and_eq_true] at h61
     have hq:=bu h61.2
     cases hv:iN ((s.drop 1).drop (wk (s.drop 1))).length ((s.drop 1).drop (wk (s.drop 1))) [] with
     | none=>rw[hv] at h; cases h
     | some x =>
       obtain⟨vs,q⟩:=x
       rw[hv] at h
       dsimp only at h
       have h1:=OL _ _ _ _ _ hq hv
       have h2:=Tm f k q _ ps r h
       rw[SQ] at h2
       simp only[show gG []=0 from rfl,List.length_drop,List.length_map,List.length_take] at h1 h2
       omega
    ·cases h
   ·cases h; omega
theorem ZA {f:Str→Str} {s:Str} {L:Ln} (h:lN f s=some L) : uA (3 * s.length) L:=by
 unfold lN at h
 split at h
 ·have hd:∀ {g n r:Str},tZ f s=some (g,n,r)→g.length≤s.length∧n.length≤s.length∧r.length≤s.length:=by
   intro g n r hh
   have h1:=zD s
   unfold tZ at hh
   split at hh
   ·split at hh
    ·cases hh
     simp[eH]; omega
    ·cases hh
   ·cases hh
    simp[eH]; omega
  split at h
  ·cases h
  ·rename_i g n r hh
   obtain⟨h1,h2,h3⟩:=hd hh
   unfold Dz at h
   split at h
   ·cases h
   ·rename_i ps q hp
    unfold rf at hp
    have:=Tm f _ _ _ _ _ hp
    simp only[show jY []=0 from rfl] at this
    split at h
    ·cases h
     exact⟨by dsimp only; omega,by dsimp only; omega,by dsimp only; simp; omega,by dsimp only; omega⟩
    ·cases h
 ·cases h
theorem CG {f:Str→Str} (P:Li→Prop) : ∀ (l:List (Str × Int)) (acc ls:List Li),(∀ x∈acc,P x)→(∀ s k L,(s,k)∈l→s.length≤912→lN f s=some L→P (L,k))→gI f l acc=.ok ls→∀ x∈ls,P x
 | [],acc,ls,ha,_,h=>by
   cases h; exact ha
 | (s,k) :: r,acc,ls,ha,hl,h=>by
   have hl' : ∀ s k L,(s,k)∈r→s.length≤912→lN f s=some L→P (L,k):=fun s k L h=>hl s k L (List.mem_cons_of_mem _ h)
   rw[gI] at h
   split at h
   ·exact CG P r acc ls ha hl' h
   ·split at h
    ·cases h
    ·rename_i hn
     split at h
     ·cases h
     ·rename_i L hL
      refine CG P r _ ls (fun x hx=>?_) hl' h
      rcases List.mem_append.1 hx with hx | hx
      ·exact ha x hx
      ·simp at hx; subst hx; exact hl s k L (List.mem_cons_self ..) (by omega) hL
theorem PO:∀ (xs acc:List Str) (ns:List Int) (k:Int),(∀ n∈ns,0<n)→0<k→k + xs.length<4611686018427387904→∀ n∈(iD acc ns k xs).2,0<n
 | [],acc,ns,k,h,_,_,n,hn=>h n hn
 | x :: xs,acc,ns,k,h,hk,hb,n,hn=>by
   rw[iD] at hn
   simp only[List.length_cons] at hb
   have hw:IntKind.wrap .i64 (k + 1)=k + 1:=by rw[IntKind.wrap_i64]; omega
   rw[hw] at hn
   refine PO xs _ _ (k + 1) (fun m hm=>?_) (by omega) (by omega) n hn
   split at hm
   ·exact h m hm
   ·rcases List.mem_append.1 hm with hm | hm
    ·exact h m hm
    ·simp at hm; omega
theorem XU {s:Str} {ls:List Li} (hs:s.length≤100000000) (h:Ba eG s=.ok ls) : ∀ x∈ls,uA 2736 x.1∧0<x.2:=by
 refine CG (fun x=>uA 2736 x.1∧0<x.2) _ [] ls (by simp) (fun t k L hm hl hr=>⟨(ZA hr).mono (by omega), ?_⟩) h
 have:=(List.of_mem_zip hm).2
 have hr:=oQ s []
 exact PO _ _ _ _ (by simp) (by decide) (by omega) k this
theorem CZ {f:Str→Str} : ∀ (l:List (Str × Int)) (acc ls:List Li),gI f l acc=.ok ls→ls.length≤acc.length + l.length
 | [],acc,ls,h=>by cases h; simp
 | (s,k) :: r,acc,ls,h=>by
   rw[gI] at h
   split at h
   ·have:=CZ r acc ls h; simp; omega
   ·split at h
    ·cases h
    ·split at h
     ·cases h
     ·have:=CZ r _ ls h; simp at this ⊢; omega
theorem OY {s:Str} {ls:List Li} (h:Ba eG s=.ok ls) : ls.length≤s.length + 1:=by
 have h1:=CZ _ _ _ h
 have h2:=Gj (eY [] s) [] [] 1
 have h3:=oQ s []
 unfold Qs at h1
 rw[List.length_zip] at h1
 simp only[List.length_nil] at h1 h2
 omega
theorem C8 {b:Int} : ∀ (l acc c r:List Li),gT b l acc=.ok (c,r)→(∃ d,c=acc++d∧∀ x∈d,x∈l)∧(∀ x∈r,x∈l)∧c.length + r.length≤acc.length + l.length
 | [],_,_,_,h=>by cases h
 | x :: l,acc,c,r,h=>by
   rw[gT] at h
   split at h
   ·cases h
    exact⟨⟨[],by simp,by simp⟩,fun x hx=>List.mem_cons_of_mem _ hx,by simp⟩
   ·split at h
    ·cases h
    ·obtain⟨⟨d,h1,h2⟩,h3,h4⟩:=C8 l _ c r h
     refine⟨⟨x :: d,by rw[h1]; simp,fun y hy=>?_⟩,fun y hy=>List.mem_cons_of_mem _ (h3 y hy),by simp at h4 ⊢; omega⟩
     rcases List.mem_cons.1 hy with rfl | hy
     ·exact List.mem_cons_self ..
     ·exact List.mem_cons_of_mem _ (h2 y hy)
theorem Qn {b:Int} : ∀ (l acc:List Li) (e:Int),gT b l acc=.error e→e=b∨∃ x∈l,e=x.2
 | [],_,_,h=>by cases h; exact .inl rfl
 | x :: l,acc,e,h=>by
   rw[gT] at h
   split at h
   ·cases h
   ·split at h
    ·cases h; exact .inr ⟨x,List.mem_cons_self ..,rfl⟩
    ·rcases Qn l _ e h with h | ⟨y,hy,h⟩
     ·exact .inl h
     ·exact .inr ⟨y,List.mem_cons_of_mem _ hy,h⟩
theorem IJ:∀ (k:Nat) (l:List Li) (acc css:List (List Li)),ni k l acc=.ok css→∀ c∈css,c∈acc∨(c≠[]∧c.length≤l.length∧∀ x∈c,x∈l)
 | 0,l,acc,css,h,c,hc=>by cases h; exact .inl hc
 | k + 1,[],acc,css,h,c,hc=>by cases h; exact .inl hc
 | k + 1,x :: r,acc,css,h,c,hc=>by
   rw[kg] at h
   split at h
   ·cases h
   ·cases r with
    | nil=>cases h
    | cons y r =>
      dsimp only at h
      split at h
      ·cases h
      ·cases hb:gT x.2 r [x] with
       | error e=>rw[hb] at h; cases h
       | ok p =>
         obtain⟨c1,r'⟩:=p
         rw[hb] at h
         dsimp only at h
         obtain⟨⟨d,h1,h2⟩,h3,h4⟩:=C8 _ _ _ _ hb
         have hl:=sj _ _ _ _ hb
         rcases IJ k r' _ css h c hc with h5 | ⟨h5,h6,h7⟩
         ·rcases List.mem_append.1 h5 with h5 | h5
          ·exact .inl h5
          ·simp at h5; subst h5
           refine .inr ⟨by rw[h1]; simp,by simp at h4 ⊢; omega,fun z hz=>?_⟩
           rw[h1] at hz
           rcases List.mem_append.1 hz with hz | hz
           ·simp at hz; subst hz; exact List.mem_cons_self ..
           ·exact List.mem_cons_of_mem _ (List.mem_cons_of_mem _ (h2 z hz))
         ·exact .inr ⟨h5,by simp; omega,fun z hz=>List.mem_cons_of_mem _ (List.mem_cons_of_mem _ (h3 z (h7 z hz)))⟩
theorem Iq:∀ (k:Nat) (l:List Li) (acc:List (List Li)) (e:Int),ni k l acc=.error e→∃ x∈l,e=x.2
 | 0,l,acc,e,h=>by cases h
 | k + 1,[],acc,e,h=>by cases h
 | k + 1,x :: r,acc,e,h=>by
   rw[kg] at h
   split at h
   ·cases h; exact⟨x,List.mem_cons_self ..,rfl⟩
   ·cases r with
    | nil=>cases h; exact⟨x,List.mem_cons_self ..,rfl⟩
    | cons y r =>
      dsimp only at h
      split at h
      ·cases h; exact⟨y,by simp,rfl⟩
      ·cases hb:gT x.2 r [x] with
       | error e' =>
         rw[hb] at h; cases h
         rcases Qn _ _ _ hb with h | ⟨z,hz,h⟩
         ·exact⟨x,List.mem_cons_self ..,h⟩
         ·exact⟨z,by simp[hz],h⟩
       | ok p =>
         obtain⟨c1,r'⟩:=p
         rw[hb] at h
         obtain⟨_,h3,_⟩:=C8 _ _ _ _ hb
         obtain⟨z,hz,h⟩:=Iq k r' _ e h
         exact⟨z,by simp[h3 z hz],h⟩
def uI:lG Cd where
 size:=3
 rel M cs c S:=∃ v,cs=[St c.1,v,N .i64 c.2.2]∧cB mQ.kG M v c.2.1 S
 len h:=by obtain⟨v,rfl,h⟩:=h; rfl
 one h:=by obtain⟨v,rfl,h⟩:=h; simp[h.one,eu]
 mono h hs:=by obtain⟨v,rfl,h⟩:=h; exact⟨v,rfl,h.mono hs⟩
 lt h:=by obtain⟨v,rfl,h⟩:=h; exact⟨v,rfl,h.lt⟩
 keep h hk hb:=by obtain⟨v,rfl,h⟩:=h; exact⟨v,rfl,h.keep hk hb⟩
def LY (B:Base) (c:au) : Prop:=∀ {M:RM} {s:Str} {Q:ak},M.base=B→s.length≤100000000→(∀ ls,Ba eG s=.ok ls→ls.length≤100000) →
 (∀ M' w cs,ag [] M M'→sG Sha.dR s=.ok cs→cB uI M' w cs (fun b=>M.next≤b)→cs.length≤s.length + 1→Q (.tup [w,N .i64 0,N .i64 0]) M') →
 (∀ M' k e,ag [] M M'→sG Sha.dR s=.error (k,e)→e≠0→Q (.tup [aJ,N .i64 k,N .i64 e]) M')→c [St s] M Q
theorem zO {f:Str→Str} : ∀ (l:List (Str × Int)) (acc:List Li) {k e:Int},gI f l acc=.bad k e→e≠0
 | [],acc,k,e,h=>by cases h
 | (s,n) :: r,acc,k,e,h=>by
   rw[gI] at h
   split at h
   ·exact zO r acc h
   ·split at h
    ·cases h; decide
    ·split at h
     ·cases h; decide
     ·exact zO r _ h
theorem Yo {B:Base} {TC:Nat} {cr cc cd:au} (hr:xP B eG cr) (hc:A9 B cc) (hd:Uo B cd) : LY B fun args M Q=>∃ a0,args=[a0]∧sS cr cc cd TC a0 M Q:=by
 intro M s Q hM hlen hcnt hO hE
 refine⟨_,rfl, ?_⟩
 unfold sS
 unfold sG at hO hE
 refine hr hM hlen ?_ ?_
 rotate_left 1
 ·intro M1 k e k1 hrd
  rw[hrd] at hE
  have h0:=zO _ _ hrd
  rw[cO,df,iO,di,show(e != 0)=true by simpa using h0,bC]
  exact hE M1 k e k1 rfl h0
 intro v M1 ls k1 hrd hv hll
 have hall:=XU hlen hrd
 have hll':=hcnt ls hrd
 rw[hrd] at hO hE
 dsimp only at hO hE
 rw[cO,df,iO,di,show((0:Int) != 0)=false from rfl,bq]
 have n1:=k1.next
 refine hc (k1.base.trans hM) hv (by omega) (fun x hx=>((hall x hx).1.mono (by omega)).lb) ?_ ?_
 rotate_left 1
 ·intro M2 k k2 hcut
  obtain⟨x,hx,rfl⟩:=Iq _ _ _ _ hcut
  unfold qm at hcut
  rw[hcut] at hE
  rw[cO,df,gV,show decide (x.2 > 0)=true from decide_eq_true (hall x hx).2,bC]
  exact hE M2 x.2 3 (k1.trans k2) rfl (by decide)
 intro M2 w css k2 hcut hw hcl
 have hcs:=IJ _ _ _ _ hcut
 unfold qm at hcut
 rw[hcut] at hO hE
 dsimp only at hO hE
 rw[cO,df,gV,show decide ((0:Int) > 0)=false from rfl,bq,hw.len]
 have k02:=k1.trans k2
 have hw2:=(hw.mono (S':=fun b=>M.next≤b) fun b h=>by rcases h with h | h <;> omega).lt
 refine aI (fun m ys M3=>∃ (i:Nat) (o:AV) (acc:List Cd),m=css.length - i∧ys=[o,N .i64 (i:Int)]∧i≤css.length∧acc.length=i∧ag [] M2 M3 ∧
   eX uI M3 M2.next TC o acc (fun b=>M2.next≤b∧b<M3.next∧b ∉ aH o)∧lq Sha.dR (css.drop i) acc=lq Sha.dR css []) _
  ⟨0,aJ,[],rfl,rfl,Nat.zero_le _,rfl,ag.refl _ _,.nil,rfl⟩ ?_
 rintro next m ys M3 hnext ⟨i,o,acc,rfl,rfl,hi,hal,k3,ho,he⟩
 dsimp only[ae]
 have hob:=ho.blk
 have n2:=k2.next
 have n3:=k3.next
 rw[gQ]
 refine aN (fun h=>?_) (fun h=>?_)
 rotate_left 1
 ·have h:¬ i<css.length:=of_decide_eq_false h
  rw[List.drop_eq_nil_of_le (by omega),lq] at he
  refine hO M3 o acc (k02.trans k3) he.symm ?_ (by omega)
  exact(ho.mono (S':=fun b=>M.next≤b) fun b h=>by omega).zL fun b h _=>by omega
 have h:i<css.length:=of_decide_eq_true h
 have hw3:=hw2.keep k3 (by simp)
 obtain⟨bb,oo,ds,_,_,hidx,hld,cv,rfl,hcv,hcap⟩:=cB.at hw3 1 (i:Int) h
 have c0:M3.cell bb oo=some cv:=tu hld rfl
 rw[hidx,bT,c0]
 refine⟨_,rfl, ?_⟩
 rw[List.drop_eq_getElem_cons h,lq] at he
 rcases hcs _ (List.getElem_mem h) with hbad | ⟨hne,ab9,hsub⟩
 ·simp at hbad
 generalize css[i]=c at *
 refine hd ((k02.trans k3).base.trans hM) hcv hcap hne (by omega) (fun x hx=>(hall x (hsub x hx)).1.mono (by omega)) ?_ ?_
 rotate_left 1
 ·intro M4 k e k4 hcd h0
  rw[hcd] at he
  dsimp only at he
  rw[← he] at hE
  rw[cO,df,iO,aG]
  refine zv (b:=0) 3 rfl rfl _ rfl rfl rfl fun M5 k5 n5 h5=>?_
  rw[di,show(e != 0)=true by simpa using h0,bC]
  exact hE M5 k e (((k02.trans k3).trans k4).trans k5) rfl h0
 intro M4 fv cd k4 hcd hfv
 rw[hcd] at he
 dsimp only at he
 have hf1:oneCell fv=true:=dE.one (Own.jX hfv)
 have Z7:([St cd.1,fv,N .i64 cd.2.2] : List AV).all oneCell=true:=by simp[eu,hf1]
 have n4:=k4.next
 have hfb:=Own.blk hfv
 rw[cO,df,iO,aG]
 refine zv (b:=0) 3 rfl rfl _ rfl Z7 rfl fun M5 k5 n5 h5=>?_
 rw[di,show((0:Int) != 0)=false from rfl,bq,aP (n:=3) h5 rfl,gD (x:=.agg [St cd.1,fv,N .i64 cd.2.2]) (size:=3) rfl Z7 rfl,aG]
 have k45:=k4.trans k5
 let S' : Nat→Prop:=fun b=>M2.next≤b∧b<M5.next∧b ∉ aH o
 have ho5:eX uI M5 M2.next TC o acc S':=(ho.keep k45 (by simp) (by simp)).mono fun b h=>⟨h.1,by omega,h.2.2⟩
 have hel:uI.rel M5 [St cd.1,fv,N .i64 cd.2.2] cd S':=⟨fv,rfl,cB.TH (dE.keep (Own.jX hfv) k5 (by simp)) fun b hb=>⟨by have:=(hfb b hb).1; omega,by have:=(hfb b hb).2; omega,fun hbo=>by have:=(hfb b hb).1; have:=(hob b hbo).2; omega⟩⟩
 refine eX.app (R:=uI) ho5 hel (by omega) (by decide) (fun b hb h=>h.2.2 hb) (fun b h=>h.2.1) (by omega) (by omega) ?_
 intro o' M6 o6 k6 n6 _ hd6
 rw[add1 (by omega)]
 refine hnext _ _ _ (by omega) ⟨i + 1,o',acc++[cd],rfl,rfl,by omega,by simp[hal],(k3.trans k45).dH k6 fun c hc=>.inl (hob c hc).1, ?_,he⟩
 exact o6.mono fun b h=>⟨h.1,by have:=h.2.1; omega,fun hb=>hd6 b hb h⟩
theorem Kt {cs:List UInt8} {ci cv cq:au} (hcs:Asc cs) (hl:cs.length≤1000) (hi:sP ci) (hv:Di cv) : BZ cs fun args M Q=>∃ a0 a1,args=[a0,a1]∧lc ci cv cq a0 a1 M Q:=by
 intro M r Q hr hQ
 refine⟨_,_,rfl, ?_⟩
 unfold lc
 simp only[dN,bL,il]
 by_cases h1:r<128
 ·have e1:decide ((r:Int)<128)=true:=by simp; omega
  simp only[go_sem,decide_true,e1]
  have:N .u8 (IntKind.wrap .u8 (r:Int))=By (UInt8.ofNat r):=by
   have h2:IntKind.wrap .u8 (r:Int)=(r:Int):=by unfold IntKind.wrap; simp[IntKind.bits,IntKind.signed]; omega
   rw[h2]; simp[By]; omega
  rw[this]
  refine hi ?_
  have:=hQ M (ag.refl _ _)
  rw[GI,if_pos h1] at this
  exact this
 have hm:GI cs r=-1:=by rw[GI,if_neg h1]
 rw[hm] at hQ
 have e1:decide ((r:Int)<128)=false:=by simp; omega
 simp only[go_sem,decide_true,e1]
 refine⟨fun h2=>?_,fun h2=>?_⟩
 ·refine⟨cs,rfl, ?_⟩
  simp only[go_sem]
  refine aI (fun m ys M3=>∃ pos:Nat,m=cs.length - pos∧ys=[]∧M3.heap M.next=some (.iU cs pos)∧ag [] M M3∧M.next<M3.next) _
   ⟨0,rfl,rfl,RM.aV _,(ag.refl _ _).push _,by simp[RM.push]⟩ ?_
  rintro next m ys M3 hnext ⟨pos,rfl,rfl,hh,hk,hlt⟩
  refine⟨_,_,_,rfl,hh, ?_⟩
  split
  ·rename_i hp
   rcases xW hp with⟨d1,d2⟩ | ⟨d1,_⟩
   ·rw[d2]
    simp only[go_sem]
    have e3:((bt cs pos:Int) == 65533)=false:=by simp; omega
    simp only[e3]
    refine⟨fun h=>by simp at h,fun _=>hnext _ _ _ (by omega) ⟨pos + 1,rfl,rfl,RM.lU _ _,hk.put _ (.inl (Nat.le_refl _)),by simpa [RM.ql] using hlt⟩⟩
   ·have:=hcs.bt hp; omega
  ·simp only[go_sem]
   exact hQ M3 hk
 ·refine hv fun b=>?_
  cases b with
  | false=>simp only[go_sem]; exact hQ M (ag.refl _ _)
  | true =>
    simp only[go_sem]
    obtain⟨a,x,hax,hx,ha1,ha2⟩:=Ra (r:=r) (by omega)
    rw[hax]
    have w1:IntKind.wrap .i64 (((a++[x]).length:Int) - 1)=((a.length:Nat) : Int):=by simp; rw[mV (by omega) (by omega)]
    have hxn:x ∉ cs:=fun h=>by have:=hcs x h; omega
    rw[w1]
    refine aI (fun m ys M3=>M3=M∧∃ y,ys=[N .i64 (a.length:Int),y]) 0 ⟨rfl,_,rfl⟩ ?_
    rintro next m ys M3 hnext ⟨rfl,y,rfl⟩
    simp only[go_sem]
    refine⟨fun h3=>?_,fun h3=>hQ M3 (ag.refl _ _)⟩
    have h3:a.length<cs.length:=by simpa using h3
    have hbt:=hcs.bt h3
    refine Cu ?_
    have hla:(a++[x])[a.length]?=some x:=by simp
    refine⟨_,List.getElem?_eq_getElem h3,x,hla,fun _=>?_,fun hne=>?_⟩
    ·rw[show IntKind.wrap .i64 ((a.length:Int) + 1)=((a.length + 1:Nat) : Int) by rw[mV (by omega) (by omega)]; omega]
     rw[bB (by omega)]
     simp only[go_sem]
     refine⟨x,hla,hi ?_⟩
     rw[NN (fun h=>hxn (List.mem_of_mem_drop h))]
     simp only[go_sem,show decide ((-1:Int)<0)=true from rfl]
     exact hQ M3 (ag.refl _ _)
    ·rw[GL h3] at hne
     have:((bt cs a.length:Int) != (x.toNat:Int))=true:=by simp; omega
     rw[this] at hne; cases hne
theorem QG {x:UInt8} {g:Nat} {ci xx c1 c2:au} (hi:sP ci) : K4 x fun args M Q=>∃ a0 a1,args=[a0,a1]∧gX ci g xx c1 c2 a0 a1 M Q:=by
 intro M s Q hQ
 refine⟨_,_,rfl, ?_⟩
 unfold gX
 rw[bi,bH,show((([x] : List UInt8).length:Int) == 0)=false from rfl]
 simp only[dN]
 by_cases h:[x]=s
 ·subst h
  have:Lib.indexByte [x] x=0:=by simp[Lib.indexByte]
  rw[this] at hQ
  simp only[go_sem,beq_self_eq_true]
  exact hQ
 ·have h' : (([x] : List UInt8) == s)=false:=by simp[h]
  simp only[go_sem,h']
  exact⟨fun _=>⟨by omega,x,rfl,hi hQ⟩,fun h=>absurd h (by decide)⟩
def ZZ (B:Base) (c:au) : Prop:=∀ {M:RM} {s:Str} {Q:ak},M.base=B→s≠[]→s.length≤1000000→Q (.tup [N .i32 ((dec s).1:Int),N .i64 (rs s:Int)]) M→c [St s] M Q
def Xj (B:Base) (c:au) : Prop:=(∀ {M:RM} {y:UInt8} {Q:ak},M.base=B→y∈dS→Q (N .i32 ((y.toNat:Int) - 32)) M→c [N .i32 (y.toNat:Int)] M Q) ∧
 ∀ {M:RM} {y:UInt8} {Q:ak},M.base=B→y∈dS→Q (N .i32 (y.toNat:Int)) M→c [N .i32 ((y.toNat:Int) - 32)] M Q
theorem letter {y:UInt8} (h:y∈dS) : 97≤y.toNat∧y.toNat≤122:=by
 have:dS.all (fun y=>decide (97≤y.toNat) && decide (y.toNat≤122))=true:=by decide
 have:=List.all_eq_true.1 this y h
 simpa using this
theorem aaS:∀ x:Fin 256,∀ y∈dS,decide (FU .u8 (x.val:Int) (y.toNat:Int) ≥ 128)=decide (128≤x.val):=by decide +kernel
theorem XG {c y:UInt8} (hy:y∈dS) (h:128≤c.toNat) : dz c≠y:=by
 have:=letter hy
 unfold dz
 rw[if_neg (by omega)]
 intro e; rw[e] at h; omega
theorem add32 {c:UInt8} (h:c.toNat≤90) : (c + 32).toNat=c.toNat + 32:=by
 rw[UInt8.toNat_add,show(32:UInt8).toNat=32 from rfl,Nat.mod_eq_of_lt (by omega)]
theorem KP {c y:UInt8} (hy:y∈dS) : dz c=y↔c=y∨(65≤c.toNat∧c.toNat≤90∧y.toNat=c.toNat + 32):=by
 have hl:=letter hy
 unfold dz
 split
 ·rename_i h
  constructor
  ·intro e
   right
   refine⟨h.1,h.2, ?_⟩
   rw[← e]; first | exact add32 h.2 | (rw[UInt8.toNat_ofNat',Nat.mod_eq_of_lt (by omega)])
  ·rintro(rfl | ⟨_,_,e⟩)
   ·omega
   ·apply UInt8.toNat_inj.1
    first | (rw[add32 h.2,e]) | (rw[UInt8.toNat_ofNat',Nat.mod_eq_of_lt (by omega),e])
 ·rename_i h
  constructor
  ·exact fun e=>.inl e
  ·rintro(rfl | ⟨h1,h2,_⟩)
   ·rfl
   ·exact absurd ⟨h1,h2⟩ h
theorem Ns {c:UInt8} {r:Str} (h:c.toNat<128) : dec (c :: r)=(c.toNat,1):=by
 unfold dec
 have hb:bt (c :: r) 0=c.toNat:=rfl
 rw[hb]
 simp[Lib.decodeN,h]
theorem aeE {a b:Nat} {K:AV→Prop} : L9 false (N .i64 (a:Int)) (N .i64 (b:Int)) K=K (N .i64 ((min a b:Nat) : Int)):=by
 rw[acd]
 have:(if false=true then(if (b:Int) > a then(b:Int) else a) else(if (b:Int)<a then(b:Int) else a))=((min a b:Nat) : Int):=by
  rw[if_neg (by simp)]; split <;> omega
 rw[this]
theorem Ro {B:Base} {cd cs:au} (hd:ZZ B cd) (hs:Xj B cs) : Lr B fun args M Q=>∃ a0 a1,args=[a0,a1]∧nW cd cs a0 a1 M Q:=by
 intro M s Q hM hl hQ
 refine⟨_,_,rfl, ?_⟩
 unfold nW
 simp only[dN,bL]
 rw[bi,bi,aeE,show dS.length=5 from rfl]
 have hno:(∃ i,i<s.length∧∃ h:i<5,dz (s.getD i 0)≠dS.getD i 0)→∀ M',ag [] M M'→Q (Bo false) M':=by
  rintro⟨i,h1,h2,h3⟩ M' k'
  refine hQ M' false k' ?_
  rw[Bool.false_and]
  refine(decide_eq_false fun e=>h3 ?_).symm
  have:=congrArg (fun l:Str=>l.getD i 0) e
  simp only[List.getD_eq_getElem?_getD,List.getElem?_map,List.getElem?_eq_getElem h1,Option.map_some,Option.getD_some] at this ⊢
  exact this
 refine aI (fun m ys M1=>∃ i:Nat,m=5 - i∧ys=[N .i64 (i:Int)]∧i≤min s.length 5∧M1=M∧(s.take i).map dz=dS.take i) _
  ⟨0,rfl,rfl,Nat.zero_le _,rfl,rfl⟩ ?_
 rintro next m ys M1 hnext ⟨i,rfl,rfl,hi,rfl,he⟩
 dsimp only[ae]
 rw[gQ]
 refine aN (fun h=>?_) (fun h=>?_)
 rotate_left 1
 ·have h:¬ i<min s.length 5:=of_decide_eq_false h
  rw[bi,bi,show dS.length=5 from rfl,bH]
  have hi:i=min s.length 5:=by omega
  refine hQ _ _ (ag.refl _ _) ?_
  by_cases h5:s.length=5
  ·have:i=5:=by omega
   subst this
   have e1:((s.length:Int) == (5:Nat))=true:=by simp[h5]
   rw[e1,decide_eq_true h5]
   rw[List.take_of_length_le (by omega),show dS.take 5=dS from rfl] at he
   rw[decide_eq_true he]; rfl
  ·rw[decide_eq_false h5,Bool.and_false]
   refine(decide_eq_false fun e=>h5 ?_).symm
   have:=congrArg List.length e
   simpa using this
 have h:i<min s.length 5:=of_decide_eq_true h
 have h1:i<s.length:=by omega
 have h2:i<dS.length:=by show i<5; omega
 have hy:dS[i]∈dS:=List.getElem_mem h2
 have hgs:s.getD i 0=s[i]:=by rw[List.getD_eq_getElem?_getD,List.getElem?_eq_getElem h1]; rfl
 have hgt:dS.getD i 0=dS[i]:=by rw[List.getD_eq_getElem?_getD,List.getElem?_eq_getElem h2]; rfl
 have hne:dz s[i]≠dS[i]→∀ M',ag [] M1 M'→Q (Bo false) M':=fun hn=>hno ⟨i,h1,h2,by rw[hgs,hgt]; exact hn⟩
 have hst:dz s[i]=dS[i]→(s.take (i + 1)).map dz=dS.take (i + 1):=by
  intro e
  rw[List.take_succ_eq_append_getElem h1,List.take_succ_eq_append_getElem h2,List.map_append,he,List.map_singleton,e]
 have hdt:dS.drop i=dS[i] :: dS.drop (i + 1):=List.drop_eq_getElem_cons h2
 have hds:s.drop i=s[i] :: s.drop (i + 1):=List.drop_eq_getElem_cons h1
 refine aW (fun ys M'=>M'=M1∧dz s[i]=dS[i]) ?_ ?_
 ·rintro ys M' ⟨rfl,e⟩
  rw[add1 (by omega)]
  exact hnext _ _ _ (by omega) ⟨i + 1,rfl,rfl,by omega,rfl,hst e⟩
 intro J hJ
 rw[gM h1,gM h2,By,By,fJ,dL]
 generalize s[i]=x at *
 generalize dS[i]=y at *
 have hor:=aaS ⟨x.toNat,x.toNat_lt⟩ y hy
 dsimp only at hor
 rw[hor]
 have hly:=letter hy
 refine aN (fun hc=>?_) (fun hc=>?_)
 ·have hc:128≤x.toNat:=of_decide_eq_true hc
  have hn:=hne (XG hy hc)
  rw[bB (by omega),bK,bB (by omega),bK,hds,hdt]
  refine⟨_,rfl, ?_⟩
  dsimp only
  rw[aG]
  refine aI (fun m ys M2=>ys=[St (y :: dS.drop (i + 1))]∧M2=M1.push (.iU (x :: s.drop (i + 1)) 0)) 0 ⟨rfl,rfl⟩ ?_
  rintro pJ m ys M2 gm ⟨rfl,rfl⟩
  dsimp only[ae]
  refine⟨_,_,_,rfl,RM.aV _, ?_⟩
  rw[if_pos (by simp)]
  rcases xW (s:=x :: s.drop (i + 1)) (i:=0) (by simp) with⟨d1,_⟩ | ⟨_,d2,d3,_,_⟩
  ·have:bt (x :: s.drop (i + 1)) 0=x.toNat:=rfl
   omega
  generalize Utf8.decode ⟨⟨x :: s.drop (i + 1)⟩⟩ 0=rr at *
  obtain⟨r,n⟩:=rr
  dsimp only at d2 d3 ⊢
  have k2:ag [] M1 ((M1.push (.iU (x :: s.drop (i + 1)) 0)).put M1.next (.iU (x :: s.drop (i + 1)) (0 + n))):=((ag.refl _ _).push _).put _ (.inl (Nat.le_refl _))
  generalize (M1.push (.iU (x :: s.drop (i + 1)) 0)).put M1.next (.iU (x :: s.drop (i + 1)) (0 + n))=M2 at *
  rw[cO,bC,iO,bi,bH,show(((y :: dS.drop (i + 1)).length:Int) == 0)=false by simp; omega,bq]
  have hB2:M2.base=B:=k2.base.trans hM
  refine hd hB2 (by simp) (by simp; omega) ?_
  have hrs:rs (y :: dS.drop (i + 1))=1:=by rw[rs,if_neg (by simp),Ns (by omega)]
  rw[Ns (by omega),hrs,cO,df,bB (by simp),bK,bH]
  have e1:((y.toNat:Int) == (r:Int))=false:=by simp; omega
  rw[e1,bq]
  refine aW (fun ys M'=>M'=M2∧ys=[N .i32 (y.toNat:Int),N .i32 (r:Int)]) ?_ ?_
  rotate_left 1
  ·intro J2 hJ2
   rw[dO,show decide ((y.toNat:Int)<(r:Int))=true from decide_eq_true (by omega),bC]
   exact hJ2 _ _ ⟨rfl,rfl⟩
  rintro _ M3 ⟨rfl,rfl⟩
  dsimp only[ae]
  rw[dO,show decide ((r:Int)<128)=false from decide_eq_false (by omega),bq]
  refine hs.1 hB2 hy ?_
  refine aI (fun m ys M4=>M4=M3∧((m=1∧ys=[N .i32 ((y.toNat:Int) - 32)])∨(m=0∧ys=[N .i32 (y.toNat:Int)]))) 1 ⟨rfl,.inl ⟨rfl,rfl⟩⟩ ?_
  rintro next3 m ys M4 ac1 ⟨rfl,hys⟩
  rcases hys with⟨rfl,rfl⟩ | ⟨rfl,rfl⟩
  ·dsimp only[ae]
   rw[di,show(((y.toNat:Int) - 32) != (y.toNat:Int))=true by simp; omega]
   simp only[bV]
   rw[dO,show decide (((y.toNat:Int) - 32)<(r:Int))=true from decide_eq_true (by omega),dh,bC]
   exact hs.2 hB2 hy (ac1 _ _ _ (by omega) ⟨rfl,.inr ⟨rfl,rfl⟩⟩)
  ·dsimp only[ae]
   rw[di,show((y.toNat:Int) != (y.toNat:Int))=false by simp]
   simp only[dF,dJ,bq]
   rw[bH,e1,bq]
   exact hn _ k2
 ·have hc:x.toNat<128:=by have:=of_decide_eq_false hc; omega
  rw[bH]
  refine aN (fun hq=>?_) (fun hq=>?_)
  ·have hq:y=x:=by
    have:(y.toNat:Int)=(x.toNat:Int):=by simpa using hq
    exact UInt8.toNat_inj.1 (by omega)
   exact hJ _ _ ⟨rfl,(KP hy).2 (.inl hq.symm)⟩
  have hxy:x≠y:=fun e=>by rw[e] at hq; simp at hq
  refine aW (fun ys M'=>M'=M1∧ys=[N .u8 (min (x.toNat:Int) y.toNat),N .u8 (max (x.toNat:Int) y.toNat)]) ?_ ?_
  rotate_left 1
  ·intro J2 hJ2
   rw[dO]
   refine aN (fun h=>?_) (fun h=>?_)
   ·have h:=of_decide_eq_true h
    exact hJ2 _ _ ⟨rfl,by congr 2 <;> first | omega | (congr 1; omega) | (congr 2; omega)⟩
   ·have h:=of_decide_eq_false h
    exact hJ2 _ _ ⟨rfl,by congr 2 <;> first | omega | (congr 1; omega) | (congr 2; omega)⟩
  rintro _ M2 ⟨rfl,rfl⟩
  dsimp only[ae]
  have hxn:x.toNat≠y.toNat:=fun e=>hxy (UInt8.toNat_inj.1 e)
  have afu:¬ (65≤x.toNat∧x.toNat≤90∧y.toNat=x.toNat + 32)→∀ M',ag [] M2 M'→Q (Bo false) M':=fun hh=>hne (fun e=>by
   rcases(KP hy).1 e with e | e
   ·exact hxy e
   ·exact hh e)
  rw[il]
  refine qw (p:=decide (min (x.toNat:Int) y.toNat≤90)) (fun hc kk hk=>?_) ?_
  ·rw[il]; exact hk
  refine qw (p:=decide ((max (x.toNat:Int) y.toNat)=IntKind.wrap .u8 (IntKind.wrap .u8 (min (x.toNat:Int) y.toNat + 97) - 65))) (fun hc kk hk=>?_) ?_
  ·rw[bE,gB,bH]
   have:((max (x.toNat:Int) y.toNat) == IntKind.wrap .u8 (IntKind.wrap .u8 (min (x.toNat:Int) y.toNat + 97) - 65))=decide ((max (x.toNat:Int) y.toNat)=IntKind.wrap .u8 (IntKind.wrap .u8 (min (x.toNat:Int) y.toNat + 97) - 65)):=by
    by_cases h:(max (x.toNat:Int) y.toNat)=IntKind.wrap .u8 (IntKind.wrap .u8 (min (x.toNat:Int) y.toNat + 97) - 65) <;> simp[h]
   rw[this] at *
   exact hk
  refine aN (fun h=>?_) (fun h=>?_)
  ·simp only[Bool.and_eq_true,decide_eq_true_eq] at h
   obtain⟨⟨a1,a2⟩,a3⟩:=h
   have hw:IntKind.wrap .u8 (IntKind.wrap .u8 (min (x.toNat:Int) y.toNat + 97) - 65)=min (x.toNat:Int) y.toNat + 32:=by
    rw[IntKind.wrap_u8,IntKind.wrap_u8]; omega
   rw[hw] at a3
   exact hJ _ _ ⟨rfl,(KP hy).2 (.inr (by omega))⟩
  ·refine afu (fun⟨b1,b2,b3⟩=>?_) _ (ag.refl _ _)
   have hw:IntKind.wrap .u8 (IntKind.wrap .u8 (min (x.toNat:Int) y.toNat + 97) - 65)=min (x.toNat:Int) y.toNat + 32:=by
    rw[IntKind.wrap_u8,IntKind.wrap_u8]; omega
   rw[hw] at h
   simp only[Bool.and_eq_false_iff,decide_eq_false_iff_not] at h
   omega
end Go.Ab.Vc
set_option maxRecDepth 100000
namespace Go.Ab.Vc
open Go Go.Ab Go.Ab.Vl
abbrev kT1:Str:=[66,69,71,73,78,58,86,67,65,82,68,10,86,69,82,83,73,79,78,58,52,46,48,10,70,78,58,65,110,110,92,44,32,66,10,84,69,76,59,84,89,80,69,61,104,111,109,101,58,49,10,84,69,76,59,84,89,80,69,61,104,111,109,101,58,50,10,69,78,68,58,86,67,65,82,68,10]
abbrev kT2:Str:=[66,69,71,73,78,58,86,67,65,82,68,13,10,86,69,82,83,73,79,78,58,52,46,48,13,10,70,78,58,65,110,110,92,44,32,66,13,10,84,69,76,59,84,89,80,69,61,104,111,109,101,58,49,13,10,84,69,76,59,84,89,80,69,61,104,111,109,101,58,50,13,10,69,78,68,58,86,67,65,82,68,13,10]
abbrev kF:List Fd:=[([102,110],[65,110,110,44,32,66]),([116,101,108,59,116,121,112,101,61,104,111,109,101],[49]),([116,101,108,59,116,121,112,101,61,104,111,109,101,35,50],[50])]
abbrev Zy:Str:=[102,110,0,65,110,110,44,32,66,0,116,101,108,59,116,121,112,101,61,104,111,109,101,0,49,0,116,101,108,59,116,121,112,101,61,104,111,109,101,35,50,0,50,0]
abbrev kP:Fd:=([116,101,108,59,116,121,112,101,61,104,111,109,101,35,50],[50])
abbrev kL:Ln:=⟨[],[116,101,108],[([116,121,112,101],[[104,111,109,101]])],[50]⟩
theorem ab7 (h:Str→Str) : sG h kT1=.ok [([99,45]++(h Zy).take 16,kF,1)]:=by kernel_rfl
theorem adV:U4 kF=some kT2:=by kernel_rfl
theorem acO (h:Str→Str) : sG h kT2=.ok [([99,45]++(h Zy).take 16,kF,1)]:=by kernel_rfl
theorem acE:fV kP=(kL,1,true):=by kernel_rfl
theorem aaM:kJ kL 1=(kP,true):=by kernel_rfl
theorem acv:Gn kP=true:=by kernel_rfl
end Go.Ab.Vc
set_option maxRecDepth 10000
namespace Go.Ab.Vc
open Go Go.Ab Go.Ab.Vl Go.Ab.Sm
theorem oZ {M:RM} {c p:Bool} {f:KR→Prop} {G:AV→RM→Prop} (hf:c=true→∀ k:KR,k (Bo p) M none→f k) (hG:G (Bo (c && p)) M) :
  aK (Bo c) true f (fun k=>k .undef M none) (fun t M' b=>aD (Bo c) t (Bo false) fun u=>G u M'):=by
 cases c with
 | false=>rw[qM]; dsimp only; rw[Go.Ab.dJ]; exact hG
 | true=>rw[oW]; exact hf rfl _ (by rw[Go.Ab.dh]; exact hG)
theorem VL {M:RM} {v:AV} {cs:List Cd} {S:Nat→Prop} (h:cB uI M v cs S) {i:Nat} (hi:i<cs.length) :
  ∃ w,cB mQ.kG M w cs[i].2.1 S∧(∀ K:AV→Prop,(aM v (N .i64 (i:Int)) 3 fun p=>aL M p 3 K)=K (.agg [St cs[i].1,w,N .i64 cs[i].2.2])) ∧
    (∀ K:AV→Prop,(aM v (N .i64 (i:Int)) 3 fun p=>aF p 0 fun q=>ah M q K)=K (St cs[i].1)) ∧
    (∀ K:AV→Prop,(aM v (N .i64 (i:Int)) 3 fun p=>aF p 1 fun q=>ah M q K)=K w) ∧
    (∀ K:AV→Prop,(aM v (N .i64 (i:Int)) 3 fun p=>aF p 2 fun q=>ah M q K)=K (N .i64 cs[i].2.2)):=by
 obtain⟨b,o,ds,hb,hbm,hidx,hld,w,rfl,hw⟩:=cB.at h 3 (i:Int) hi
 have c0:M.cell b (o + 0)=some (St cs[i].1):=dU hld (j:=0) rfl
 have c1:M.cell b (o + 1)=some w:=dU hld (j:=1) rfl
 have c2:M.cell b (o + 2)=some (N .i64 cs[i].2.2):=dU hld (j:=2) rfl
 refine⟨w,hw,fun K=>?_,fun K=>?_,fun K=>?_,fun K=>?_⟩
 ·rw[hidx,uF,hld]; simp
 ·rw[hidx,dM,bT,c0]; simp
 ·rw[hidx,dM,bT,c1]; simp
 ·rw[hidx,dM,bT,c2]; simp
theorem JC {M:RM} {v:AV} {c:Cd} {S:Nat→Prop} (h:cB uI M v [c] S) :
  ∃ w,cB mQ.kG M w c.2.1 S∧(∀ K:AV→Prop,(aM v (N .i64 (0:Int)) 3 fun p=>aL M p 3 K)=K (.agg [St c.1,w,N .i64 c.2.2])) ∧
    (∀ K:AV→Prop,(aM v (N .i64 (0:Int)) 3 fun p=>aF p 0 fun q=>ah M q K)=K (St c.1)) ∧
    (∀ K:AV→Prop,(aM v (N .i64 (0:Int)) 3 fun p=>aF p 1 fun q=>ah M q K)=K w):=by
 obtain⟨w,h1,h2,h3,h4,_⟩:=VL h (i:=0) (by simp)
 exact⟨w,h1,h2,h3,h4⟩
theorem F7 {M:RM} {v:AV} {xs:List Fd} (h:Sl mQ M v xs) {i:Nat} (hi:i<xs.length) :
  (∀ K:AV→Prop,(aM v (N .i64 (i:Int)) 2 fun p=>aF p 0 fun q=>ah M q K)=K (St xs[i].1))∧(∀ K:AV→Prop,(aM v (N .i64 (i:Int)) 2 fun p=>aF p 1 fun q=>ah M q K)=K (St xs[i].2)):=by
 obtain⟨b,o,hb,_,hidx,hld⟩:=Sl.elem h hi
 have c0:M.cell b (o + 0)=some (St xs[i].1):=dU hld (j:=0) rfl
 have c1:M.cell b (o + 1)=some (St xs[i].2):=dU hld (j:=1) rfl
 refine⟨fun K=>?_,fun K=>?_⟩
 ·rw[show(2:Nat)=mQ.size from rfl,hidx,dM,bT,c0]; simp
 ·rw[show(2:Nat)=mQ.size from rfl,hidx,dM,bT,c1]; simp
theorem ZR {B:Base} {c:au} (h:LY B c) {M:RM} {s:Str} {Q:ak} {cs:List Cd} (hM:M.base=B) (hs:s.length≤90000) (he:sG Sha.dR s=.ok cs)
  (hQ:∀ M' w,ag [] M M'→cB uI M' w cs (fun b=>M.next≤b)→Q (.tup [w,N .i64 0,N .i64 0]) M') : c [St s] M Q:=by
 refine h hM (by omega) (fun ls hl=>by have:=OY hl; omega) (fun M' w cs' k h1 h2 _=>?_) (fun M' k e _ h1 _=>?_)
 ·rw[he] at h1; cases h1; exact hQ M' w k h2
 ·rw[he] at h1; cases h1
theorem b2 (x y:Str) {K:AV→Prop} (h:K (.agg [St x,St y])) : dW [(St []),(St [])] [(0,1,(St x)),(1,1,(St y))] K:=by
 rw[gN]; exact⟨_,by simp[mf,known,AV.cells,oneCell],h⟩
def AwC (B:Base) (c:au) : Prop:=∀ {M:RM} {Q:ak},M.base=B→(∀ M',ag [] M M'→Q (Bo true) M')→c [] M Q
theorem n18 (h:Str) (hh:h.length=64) : ([99,45]++h.take 16).length=18:=by simp; omega
set_option maxHeartbeats 1000000 in
theorem UZ {B:Base} {TL TP:Nat} {ci ce cl cf cg:au} (hi:LY B ci) (he:YE B ce) (hl:Ko B cl) (hf:J7 B cf) (hg:Oh B cg) : AwC B fun args M Q=>args=[]∧vG ci ce cl TL cf TP cg M Q:=by
 intro M Q hM hQ
 refine⟨rfl, ?_⟩
 unfold vG
 simp only[dN,CV]
 generalize hct:([99,45]++(Sha.dR Zy).take 16:Str)=ct
 have af4:ct.length=18:=by rw[← hct]; exact n18 _ (Sha.EW _)
 have i1:=ab7 Sha.dR
 have i2:=acO Sha.dR
 rw[hct] at i1 i2
 refine ZR hi (s:=kT1) hM (by decide) i1 fun M1 v k1 hv=>?_
 rw[cO,df,iO,di]
 refine jF (p:=false) (fun _ kk hk=>by rw[di]; exact hk) ?_
 refine jF (p:=false) (fun _ kk hk=>by rw[hv.len,di]; exact hk) ?_
 obtain⟨w,hw,q3,q0,q1⟩:=JC hv
 have hw:cB mQ.kG M1 w kF _:=hw
 refine jF (p:=false) (fun _ kk hk=>by rw[q1,hw.len,di]; exact hk) ?_
 rw[show(((((0:Int) != 0) || false) || false) || false)=false from rfl,bq]
 rw[q3]
 have kFs:∀ p∈kF,p.1.length≤10000000∧p.2.length≤10000000:=by decide
 refine he (ct:=ct) (k1.base.trans hM) hw.sl (by decide) kFs fun M2 k2=>?_
 rw[show U4 kF=some kT2 from adV]
 dsimp only
 rw[cO,df]
 have k02:=k1.trans k2
 refine ZR hi (s:=kT2) (k02.base.trans hM) (by decide) i2 fun M3 v2 k3 hv2=>?_
 have k03:=k02.trans k3
 have k13:=k2.trans k3
 have hv3:=hv.keep k13 (by simp)
 obtain⟨w3,hw3,_,_,r1⟩:=JC hv3
 have hw3:cB mQ.kG M3 w3 kF _:=hw3
 rw[cO,df,iO,r1]
 rw[show(N .i64 (2:Int))=N .i64 ((2:Nat) : Int) from rfl,Oz hw3.sl (i:=2) (by decide)]
 rw[show(kF)[2]=kP from rfl]
 refine hl (p:=kP) (k03.base.trans hM) (by decide) (by decide) fun M4 cs k4 hrel=>?_
 rw[acE] at hrel ⊢
 dsimp only at hrel ⊢
 rw[if_pos rfl] at hrel ⊢
 obtain⟨pw,rfl,hpw,hall,_⟩:=vZ hrel
 rw[cO,df,aG]
 refine zv (b:=0) 5 rfl rfl _ rfl hall rfl fun M5 k5 n5 h5=>?_
 rw[aP (n:=5) h5 rfl]
 have k05:=(k03.trans k4).trans k5
 have hkL:uA 1000 kL:=⟨by decide,by decide,by decide,by decide⟩
 refine hf (j:=1) (k05.base.trans hM) (jo (hpw.keep k5 (by simp))) (hkL.mono (by omega)).lb (by have:=hkL.laid; omega) fun M6 k6=>?_
 rw[aaM]
 dsimp only[oP]
 rw[cO,df,aG]
 refine zv (b:=0) 2 rfl rfl _ rfl rfl rfl fun M7 k7 n7 h7=>?_
 have k07:=(k05.trans k6).trans k7
 have k37:ag [] M3 M7:=((k4.trans k5).trans k6).trans k7
 have h57:=(k6.trans k7).ay h5 (by omega) (by simp)
 have hv7:=hv3.keep k37 (by simp)
 have hv27:=hv2.keep k37 (by simp)
 obtain⟨w7,hw7,_,s0,s1⟩:=JC hv7
 have hw7:cB mQ.kG M7 w7 kF _:=hw7
 obtain⟨x7,hx7,_,t0,t1⟩:=JC hv27
 have hx7:cB mQ.kG M7 x7 kF _:=hx7
 have l0:∀ K:AV→Prop,(aM w7 (N .i64 (0:Int)) 2 fun p=>aL M7 p 2 K)=K (oP ([102,110],[65,110,110,44,32,66])):=fun K=>Oz hw7.sl (i:=0) (by decide)
 have l2:∀ K:AV→Prop,(aM w7 (N .i64 ((2:Nat) : Int)) 2 fun p=>aL M7 p 2 K)=K (oP kP):=fun K=>Oz hw7.sl (i:=2) (by decide)
 rw[s1,l0]
 refine b2 _ _ ?_
 rw[oP,zG (r:=true) rfl rfl (Og ([102,110],[65,110,110,44,32,66]) ([102,110],[65,110,110,44,32,66]) |>.trans (by simp)),show(true != false)=true from rfl]
 have e0:(N .i64 (0:Int))=N .i64 ((0:Nat) : Int):=rfl
 refine oZ (p:=true) (fun _ kk hk=>?_) ?_
 ·rw[s1,l2]
  refine b2 _ _ ?_
  rw[oP,zG (r:=true) rfl rfl ((Og kP kP).trans (by simp))]; exact hk
 refine oZ (p:=true) (fun _ kk hk=>by rw[bH]; exact hk) ?_
 refine oZ (p:=true) (fun _ kk hk=>by rw[bH]; exact hk) ?_
 refine oZ (p:=true) (fun _ kk hk=>by rw[hv27.len,bH]; exact hk) ?_
 refine oZ (p:=true) (fun _ kk hk=>by rw[t1,hx7.len,bH]; exact hk) ?_
 refine oZ (p:=true) (fun _ kk hk=>by rw[t0,s0,dm,beq_self_eq_true]; exact hk) ?_
 refine oZ (p:=true) (fun _ kk hk=>by rw[s0,bi,bH,show((ct.length:Int) == 18)=true by simp[af4]]; exact hk) ?_
 refine oZ (p:=true) (fun _ kk hk=>by rw[bH]; exact hk) ?_
 refine oZ (p:=true) (fun _ kk hk=>by rw[aT,aA h57 rfl,dm]; exact hk) ?_
 refine oZ (p:=true) (fun _ kk hk=>hk) ?_
 refine oZ (p:=true) (fun _ kk hk=>?_) ?_
 ·rw[aP (n:=2) h7 rfl,s1,l2]
  rw[oP,zG (r:=true) rfl rfl ((Og kP kP).trans (by simp))]; exact hk
 simp only[Bool.and_self,oW,bV]
 rw[aP (n:=2) h7 rfl]
 refine hg (p:=kP) (k07.base.trans hM) (by decide) (by decide) fun M8 k8=>?_
 rw[dh,acv]
 exact hQ _ (k07.trans k8)
end Go.Ab.Vc
namespace Go.Ab
open Go Go.RowKit
variable {H:Type} {enc:TypeId × Value→H}
end Go.Ab
namespace Go.Ab.Sha
open Go Go.Ab Go.Ab.Sm
structure VS (M:RM) (base T:Nat) (v:AV) (l:List Int) : Prop where
 ex:∃ vb p cap,v=.slc vb 0 l.length cap∧M.heap vb=some (.row (dD.row l) p T 0)∧base≤vb∧vb<M.next
theorem VS.keep {M M' : RM} {base T:Nat} {v:AV} {l:List Int} (h:VS M base T v l) (k:ag [] M M') : VS M' base T v l:=by
 obtain⟨vb,p,cap,e,h1,h2,h3⟩:=h.ex
 exact⟨vb,p,cap,e,k.ay h1 h3 (by simp),h2,Nat.lt_of_lt_of_le h3 k.next⟩
theorem VS.mono {M:RM} {base base' T:Nat} {v:AV} {l:List Int} (h:VS M base T v l) (hb:base'≤base) : VS M base' T v l:=by
 obtain⟨vb,p,cap,e,h1,h2,h3⟩:=h.ex
 exact⟨vb,p,cap,e,h1,by omega,h3⟩
theorem VS.sl {M:RM} {base T:Nat} {v:AV} {l:List Int} (h:VS M base T v l) : Sl dD M v l:=by
 obtain⟨vb,p,cap,rfl,h1,h2,h3⟩:=h.ex
 exact Rw.sl ⟨h1,h3⟩
theorem LJ {M:RM} {base T:Nat} {v:AV} {s:List Int} (h:Ow dD M base T v s) (hs:s≠[]) : VS M base T v s:=by
 unfold Ow at h
 generalize hc:dD.row s=cs at h
 generalize hn:s.length=n at h
 cases h with
 | nil=>exact absurd (List.length_eq_zero_iff.1 hn) hs
 | ex0 b o _ _ _=>exact absurd (List.length_eq_zero_iff.1 hn) hs
 | op b n cs h1 h2 h3 h4=>subst hc; subst hn; exact⟨b,_,_,rfl,h3,h1,h2⟩
theorem AZ {vb n i:Nat} {c:Cap} {j:Int} {k:IntKind} {K:AV→Prop} (hj:j=(i:Int)) (h:i<n) : aM (.slc vb 0 n c) (N k j) 1 K=K (.ptr vb i):=by
 subst hj
 rw[qK,Nat.zero_add,Nat.mul_one,Int.toNat_natCast]
 exact propext ⟨fun h=>h.2.2,fun k=>⟨by omega,by omega,k⟩⟩
theorem YH {M:RM} {vb T:Nat} {p:Bool} {l:List Int} (h:M.heap vb=some (.row (dD.row l) p T 0)) {i:Nat} (hi:i<l.length) (x:Int) {K:RM→Prop} : aC M (.ptr vb i) (N .u32 x) 1 K=K (M.put vb (.row (dD.row (l.set i x)) p T 0)):=by
 refine bQ _ h (by rw[kD]; exact hi) rfl rfl ?_
 rw[nS,nS,List.map_set]
theorem aaF {M:RM} {vb T:Nat} {p:Bool} {l:List Int} (h:M.heap vb=some (.row (dD.row l) p T 0)) {i:Nat} (hi:i<l.length) {K:AV→Prop} : ah M (.ptr vb i) K=K (N .u32 (l.getD i 0)):=by
 refine aA h ?_
 rw[nS,List.getElem?_map,List.getElem?_eq_getElem hi]
 simp[List.getD,hi]
theorem JF {M:RM} {v:AV} {l:List Int} (h:Sl dD M v l) {i:Nat} (hi:i<l.length) {K:AV→Prop} : (aM v (N .i64 (i:Int)) 1 fun t=>ah M t K)=K (N .u32 (l.getD i 0)):=by
 obtain⟨c,o,_,_,hix,hld⟩:=h.Hl (i:Int) hi
 rw[hix,bT,hld _ rfl]
 have e:l[i]=l.getD i 0:=by simp[List.getD,hi]
 rw[← e]
 exact propext ⟨fun⟨v,e,k⟩=>by cases e; exact k,fun k=>⟨_,rfl,k⟩⟩
theorem Wi {M:RM} {v:AV} {l:List Int} (h:Sl dD M v l) {i:Nat} (hi:i<l.length) : ∃ c o,c<M.next∧(∀ {K:AV→Prop},aM v (N .i64 (i:Int)) 1 K=K (.ptr c o))∧M.cell c o=some (N .u32 (l.getD i 0)):=by
 obtain⟨c,o,hc,_,hix,hld⟩:=h.Hl (i:Int) hi
 have e:l[i]=l.getD i 0:=by simp[List.getD,hi]
 exact⟨c,o,hc,fun {K} => hix _ K,by rw[← e]; exact hld _ rfl⟩
theorem UL {M:RM} {c o:Nat} {x:AV} (h:M.cell c o=some x) {K:AV→Prop} : ah M (.ptr c o) K=K x:=by
 rw[bT,h]
 exact propext ⟨fun⟨v,e,k⟩=>by cases e; exact k,fun k=>⟨_,rfl,k⟩⟩
theorem qP {cs:List AV} {rest:List (Nat × Nat × AV)} {off:Nat} {k:IntKind} {n:Int} (h:off<cs.length) : om cs ((off,1,N k n) :: rest)=om (cs.set off (N k n)) rest:=by
 rw[om,if_pos ⟨rfl,rfl,by omega⟩,List.set_eq_take_append_cons_drop,if_pos h,List.append_assoc]
 rfl
theorem aed {T:Nat} {a b c d e f g h:Int} {K:RB→(Nat→AV)→Prop} :
  bM T 8 [N .u32 0] [(0,1,N .u32 a),(1,1,N .u32 b),(2,1,N .u32 c),(3,1,N .u32 d),(4,1,N .u32 e),(5,1,N .u32 f),(6,1,N .u32 g),(7,1,N .u32 h)] K=K (.row (dD.row [a,b,c,d,e,f,g,h]) false T 0) (fun b=>.slc b 0 8 (.ex 8)):=by
 have:om (nH [N .u32 0] 8) [(0,1,N .u32 a),(1,1,N .u32 b),(2,1,N .u32 c),(3,1,N .u32 d),(4,1,N .u32 e),(5,1,N .u32 f),(6,1,N .u32 g),(7,1,N .u32 h)]=some (dD.row [a,b,c,d,e,f,g,h]):=by
  have e0:nH [N .u32 0] 8=[N .u32 0,N .u32 0,N .u32 0,N .u32 0,N .u32 0,N .u32 0,N .u32 0,N .u32 0]:=rfl
  rw[e0]
  rw[qP (by simp)]
  simp only[List.set]
  rw[qP (by simp)]
  simp only[List.set]
  rw[qP (by simp)]
  simp only[List.set]
  rw[qP (by simp)]
  simp only[List.set]
  rw[qP (by simp)]
  simp only[List.set]
  rw[qP (by simp)]
  simp only[List.set]
  rw[qP (by simp)]
  simp only[List.set]
  rw[qP (by simp)]
  simp only[List.set]
  rfl
 apply propext; unfold bM
 constructor
 ·rintro⟨l,h,hk⟩; rw[this] at h; cases h; exact hk
 ·intro hk; exact⟨_,this,hk⟩
def O7 (TU:Nat) (c:au) : Prop:=∀ {M:RM} {hv kv bv:AV} {h k:List Int} {b:Str} {Q:ak},Sl dD M hv h→h.length=8→Sl dD M kv k→k.length=64→Bs M bv b→b.length=64 →
 (∀ v' M',ag [] M M'→VS M' M.next TU v' (oJ h k b)→Q v' M')→c [hv,kv,bv] M Q
theorem Vx {TK TU:Nat} {ct:au} (ht:Gs .u64 ct) : O7 TU fun args M Q=>∃ a0 a1 a2,args=[a0,a1,a2]∧wT TK ct TU a0 a1 a2 M Q:=by
 intro M hv kv bv h k b Q hs hhl hk hkl hb hbl hQ
 refine⟨_,_,_,rfl, ?_⟩
 unfold wT
 refine kR (dD.row (List.replicate 64 0)) fun M0 k0 n0' e0=>?_
 have n0:M0.heap M.next=some (.row (dD.row (sched b 0++List.replicate (64 - 0) 0)) false TK 0):=n0'
 refine aI (fun m ys M4=>∃ i:Nat,m=64 - i∧ys=[N .i64 (i:Int)]∧i≤64∧ag [] M M4∧M.next<M4.next∧M4.heap M.next=some (.row (dD.row (sched b i++List.replicate (64 - i) 0)) false TK 0)) _
  ⟨0,rfl,rfl,by omega,k0,by omega,n0⟩ ?_
 rintro next m ys M4 hnext ⟨i,rfl,rfl,hi,k4,l4,n4⟩
 simp only[dC]
 rw[pV 64 (by rfl)]
 have hb4:=hb.keep k4 (by simp)
 refine aN (fun hc=>?_) fun hc=>?_
 ·have nX:i<64:=of_decide_eq_true hc
  have hlen:(sched b i++List.replicate (64 - i) 0).length=64:=by rw[List.length_append,lK,List.length_replicate]; omega
  have e:=Fs b (i:=i) (by omega)
  rw[bL]
  refine aW (fun xs M5=>xs=[]∧ag [] M M5∧M.next<M5.next∧M5.heap M.next=some (.row (dD.row (sched b (i + 1)++List.replicate (64 - (i + 1)) 0)) false TK 0)) ?_ ?_
  ·rintro xs M5 ⟨rfl,k5,l5,n5⟩
   rw[kK 1 (by omega) (by omega) (by rfl)]
   exact hnext _ _ _ (by omega) ⟨i + 1,rfl,rfl,by omega,k5,l5,n5⟩
  intro J hJ
  rw[pV 16 (by rfl)]
  refine aN (fun hc=>?_) fun hc=>?_
  ·have Ii:i<16:=of_decide_eq_true hc
   rw[EG (by omega),hb4.zF (by omega),By,gU,pE]
   refine⟨by decide, ?_⟩
   rw[EG (by omega),kK 1 (by omega) (by omega) (by rfl),hb4.zF (by omega),By,gU,pE]
   refine⟨by decide, ?_⟩
   rw[fJ,EG (by omega),kK 2 (by omega) (by omega) (by rfl),hb4.zF (by omega),By,gU,pE]
   refine⟨by decide, ?_⟩
   rw[fJ,EG (by omega),kK 3 (by omega) (by omega) (by rfl),hb4.zF (by omega),By,gU,fJ,dY rfl (by omega)]
   rw[if_pos Ii] at e
   rw[uu n4 (by omega)]
   refine hJ _ _ ⟨rfl,k4.new _ (Nat.le_refl _),l4, ?_⟩
   rw[aB,← e]
   rfl
  ·have Ii:¬ i<16:=of_decide_eq_false hc
   rw[if_neg Ii] at e
   have ld:∀ (j:Nat),j<i→∀ {K:AV→Prop},ah M4 (.ptr M.next j) K=K (N .u32 ((sched b i).getD j 0)):=fun j hj K=>by
    rw[qB n4 (by omega),MB (by rw[lK]; exact hj)]
   have L15:∀ {K:AV→Prop},ah M4 (.ptr M.next (i - 15)) K=K (N .u32 ((sched b i).getD (i - 15) 0)):=ld _ (by omega)
   have L2:∀ {K:AV→Prop},ah M4 (.ptr M.next (i - 2)) K=K (N .u32 ((sched b i).getD (i - 2) 0)):=ld _ (by omega)
   have L16:∀ {K:AV→Prop},ah M4 (.ptr M.next (i - 16)) K=K (N .u32 ((sched b i).getD (i - 16) 0)):=ld _ (by omega)
   have L7:∀ {K:AV→Prop},ah M4 (.ptr M.next (i - 7)) K=K (N .u32 ((sched b i).getD (i - 7) 0)):=ld _ (by omega)
   rw[FX 15 (by omega) (by omega) (by rfl),dY rfl (by omega),L15,FX 2 (by omega) (by omega) (by rfl),dY rfl (by omega),L2,FX 16 (by omega) (by omega) (by rfl),dY rfl (by omega),L16,FX 7 (by omega) (by omega) (by rfl),dY rfl (by omega),L7,bE,jm]
   refine⟨by decide, ?_⟩
   rw[jm]
   refine⟨by decide, ?_⟩
   refine ht (by decide) ?_
   rw[L16]; refine⟨rfl, ?_⟩
   rw[L7]; refine⟨rfl, ?_⟩
   refine ht (by decide) ?_
   rw[L16]; refine⟨rfl, ?_⟩
   rw[L7]; refine⟨rfl, ?_⟩
   rw[fB,fB,bE]
   refine ht (by decide) ?_
   rw[L16]; refine⟨rfl, ?_⟩
   rw[L7]; refine⟨rfl, ?_⟩
   refine ht (by decide) ?_
   rw[L16]; refine⟨rfl, ?_⟩
   rw[L7]; refine⟨rfl, ?_⟩
   rw[fB,fB,bE,dY rfl (by omega),uu n4 (by omega)]
   refine hJ _ _ ⟨rfl,k4.new _ (Nat.le_refl _),l4, ?_⟩
   rw[aB,← e]
   have ew:JX (sched b i) i=fF (fF (fF ((sched b i).getD (i - 16) 0) ((sched b i).getD (i - 7) 0)) (abT ((sched b i).getD (i - 15) 0))) (acw ((sched b i).getD (i - 2) 0)):=by
    unfold JX
    rw[XM ((sched b i).getD (i - 16) 0)]
   rw[ew]
   rfl
 have nX:i=64:=by have:=of_decide_eq_false hc; omega
 subst nX
 clear hnext
 rw[Nat.sub_self,List.replicate_zero,List.append_nil] at n4
 have hwl:=lK b 64
 generalize hwe:sched b 64=w at *
 have hs4:Sl dD M4 hv h:=dE.keep hs k4 (by simp)
 have hk4:Sl dD M4 kv k:=dE.keep hk k4 (by simp)
 rw[VI,aG]
 have k5' : ag [] M4 (M4.push (.row [] false TU 0)):=(ag.refl _ _).push _
 refine wO (E:=dD) (Ow.lit dD M4) (by simp[RM.push]) (by decide) (dE.keep hs4 k5' (by simp)) (by simp; omega) (by simp; omega) fun v5 M5 o5 k5 _ _=>?_
 have k45:ag [] M4 M5:=ag.own k5' k5 (fun x hx=>by simp[aH] at hx; omega)
 rw[List.nil_append] at o5
 have aff:h≠[]:=fun e=>by rw[e] at hhl; cases hhl
 refine aI (fun m ys M6=>∃ (i:Nat) (v:AV),m=64 - i∧ys=[v,N .i64 (i:Int)]∧i≤64∧ag [] M4 M6∧VS M6 M4.next TU v (rJ k w h i)) _
  ⟨0,v5,rfl,rfl,by omega,k45,LJ o5 aff⟩ ?_
 rintro next m ys M6 hnext ⟨i,v,rfl,rfl,hi,k6,hV⟩
 simp only[dC,jC]
 rw[pV 64 (by rfl)]
 have hk6:Sl dD M6 kv k:=dE.keep hk4 k6 (by simp)
 have n46:=k6.ay n4 l4 (by simp)
 have hrl:=Dw k w hhl i
 obtain⟨vb,pp,cap,rfl,nv,hvb,lvb⟩:=hV.ex
 rw[hrl]
 refine aN (fun hc=>?_) fun hc=>?_
 ·have nX:i<64:=of_decide_eq_true hc
  have hstep:rJ k w h (i + 1)=SX (rJ k w h i) (k.getD i 0) (w.getD i 0):=rfl
  obtain⟨va,vb',vc,vd,ve,vf,vg,vh,hv'⟩:=eight hrl
  rw[hv'] at nv hstep
  have hrow:dD.row [va,vb',vc,vd,ve,vf,vg,vh]=[N .u32 va,N .u32 vb',N .u32 vc,N .u32 vd,N .u32 ve,N .u32 vf,N .u32 vg,N .u32 vh]:=rfl
  rw[hrow] at nv
  have I0:∀ {K:AV→Prop},aM (.slc vb 0 8 cap) (N .i64 0) 1 K=K (.ptr vb 0):=AZ rfl (by omega)
  have I1:∀ {K:AV→Prop},aM (.slc vb 0 8 cap) (N .i64 1) 1 K=K (.ptr vb 1):=AZ rfl (by omega)
  have I2:∀ {K:AV→Prop},aM (.slc vb 0 8 cap) (N .i64 2) 1 K=K (.ptr vb 2):=AZ rfl (by omega)
  have I3:∀ {K:AV→Prop},aM (.slc vb 0 8 cap) (N .i64 3) 1 K=K (.ptr vb 3):=AZ rfl (by omega)
  have I4:∀ {K:AV→Prop},aM (.slc vb 0 8 cap) (N .i64 4) 1 K=K (.ptr vb 4):=AZ rfl (by omega)
  have I5:∀ {K:AV→Prop},aM (.slc vb 0 8 cap) (N .i64 5) 1 K=K (.ptr vb 5):=AZ rfl (by omega)
  have I6:∀ {K:AV→Prop},aM (.slc vb 0 8 cap) (N .i64 6) 1 K=K (.ptr vb 6):=AZ rfl (by omega)
  have I7:∀ {K:AV→Prop},aM (.slc vb 0 8 cap) (N .i64 7) 1 K=K (.ptr vb 7):=AZ rfl (by omega)
  have L0:∀ {K:AV→Prop},ah M6 (.ptr vb 0) K=K (N .u32 va):=aA nv rfl
  have L1:∀ {K:AV→Prop},ah M6 (.ptr vb 1) K=K (N .u32 vb'):=aA nv rfl
  have L2:∀ {K:AV→Prop},ah M6 (.ptr vb 2) K=K (N .u32 vc):=aA nv rfl
  have L3:∀ {K:AV→Prop},ah M6 (.ptr vb 3) K=K (N .u32 vd):=aA nv rfl
  have L4:∀ {K:AV→Prop},ah M6 (.ptr vb 4) K=K (N .u32 ve):=aA nv rfl
  have L5:∀ {K:AV→Prop},ah M6 (.ptr vb 5) K=K (N .u32 vf):=aA nv rfl
  have L6:∀ {K:AV→Prop},ah M6 (.ptr vb 6) K=K (N .u32 vg):=aA nv rfl
  have L7:∀ {K:AV→Prop},ah M6 (.ptr vb 7) K=K (N .u32 vh):=aA nv rfl
  obtain⟨kc,ko,_,Ik,hkc⟩:=Wi hk6 (i:=i) (by omega)
  have Iw:∀ {K:AV→Prop},dK (.ptr M.next 0) (N .i64 (i:Int)) 64 1 K=K (.ptr M.next i):=dY rfl nX
  have Lk:∀ {K:AV→Prop},ah M6 (.ptr kc ko) K=K (N .u32 (k.getD i 0)):=UL hkc
  have Lw:∀ {K:AV→Prop},ah M6 (.ptr M.next i) K=K (N .u32 (w.getD i 0)):=qB n46 (by omega)
  simp only[I0,I1,I2,I3,I4,I5,I6,I7,L0,L1,L2,L3,L4,L5,L6,L7,Ik,Iw,Lk,Lw,fQ,fJ,fB,bE,iV,true_and]
  refine ht (by decide) ?_
  simp only[I0,I1,I2,I3,I4,I5,I6,I7,L0,L1,L2,L3,L4,L5,L6,L7,Ik,Iw,Lk,Lw,fQ,fJ,fB,bE,iV,true_and]
  refine ht (by decide) ?_
  simp only[I0,I1,I2,I3,I4,I5,I6,I7,L0,L1,L2,L3,L4,L5,L6,L7,Ik,Iw,Lk,Lw,fQ,fJ,fB,bE,iV,true_and]
  refine ht (by decide) ?_
  simp only[I0,I1,I2,I3,I4,I5,I6,I7,L0,L1,L2,L3,L4,L5,L6,L7,Ik,Iw,Lk,Lw,fQ,fJ,fB,bE,iV,true_and]
  refine ht (by decide) ?_
  simp only[I0,I1,I2,I3,I4,I5,I6,I7,L0,L1,L2,L3,L4,L5,L6,L7,Ik,Iw,Lk,Lw,fQ,fJ,fB,bE,iV,true_and]
  refine ht (by decide) ?_
  simp only[I0,I1,I2,I3,I4,I5,I6,I7,L0,L1,L2,L3,L4,L5,L6,L7,Ik,Iw,Lk,Lw,fQ,fJ,fB,bE,iV,true_and]
  refine ht (by decide) ?_
  simp only[I0,I1,I2,I3,I4,I5,I6,I7,L0,L1,L2,L3,L4,L5,L6,L7,Ik,Iw,Lk,Lw,fQ,fJ,fB,bE,iV,true_and]
  rw[aed,qL,show(IntKind.i64.wrap ((i:Int) + 1))=((i + 1:Nat) : Int) from eO (by omega)]
  have k7:ag [] M6 (M6.push (.row (dD.row (SX [va,vb',vc,vd,ve,vf,vg,vh] (k.getD i 0) (w.getD i 0))) false TU 0)):=(ag.refl _ _).push _
  refine hnext _ _ (M6.push (.row (dD.row (SX [va,vb',vc,vd,ve,vf,vg,vh] (k.getD i 0) (w.getD i 0))) false TU 0)) (by omega) ⟨i + 1,.slc M6.next 0 8 (.ex 8),rfl,rfl,by omega,k6.trans k7, ?_⟩
  rw[hstep]
  refine⟨M6.next,false,.ex 8,by rw[Ta rfl],by simp[RM.push],k6.next,by simp[RM.push]⟩
 have nX:i=64:=by have:=of_decide_eq_false hc; omega
 subst nX
 clear hnext
 have hbf:oJ h k b=List.zipWith fF h (rJ k w h 64):=by
  unfold oJ
  rw[hwe]
 rw[hbf] at hQ
 generalize rJ k w h 64=v at *
 have k46:=k4.trans k6
 have n4x:=k4.next
 have hs6:Sl dD M6 hv h:=dE.keep hs k46 (by simp)
 have hnv:∀ x∈aH hv,x ∉ [vb]:=fun x hx hm=>by
  have:=dE.lt hs x hx
  simp at hm; omega
 refine aI (fun m ys M7=>∃ j:Nat,m=8 - j∧ys=[N .i64 (j:Int)]∧j≤8∧ag [vb] M6 M7∧M7.heap vb=some (.row (dD.row ((List.zipWith fF h v).take j++v.drop j)) pp TU 0)) _
  ⟨0,rfl,rfl,by omega,ag.refl _ _,by rw[List.take_zero,List.drop_zero]; exact nv⟩ ?_
 rintro next m ys M7 hnext ⟨j,rfl,rfl,hj,k7,s7⟩
 simp only[dC]
 rw[pV 8 (by rfl)]
 have hs7:Sl dD M7 hv h:=dE.keep hs6 k7 hnv
 have zc:List.zipWith fF h v=List.zipWith fF v h:=List.zipWith_comm_of_comm V9
 rw[zc] at s7
 refine aN (fun hc=>?_) fun hc=>?_
 ·have hj8:j<8:=of_decide_eq_true hc
  have hl7:=Sz (v:=h) (h:=v) (Nat.le_of_lt hj8) hrl hhl
  rw[AZ rfl (by omega),aaF s7 (by omega),JF hs7 (by omega),bE,AZ rfl (by omega),YH s7 (by omega),kK 1 (by omega) (by omega) (by rfl)]
  refine hnext _ _ _ (by omega) ⟨j + 1,rfl,rfl,by omega,k7.put _ (.inr (by simp)), ?_⟩
  rw[aB,SB hj8 hrl hhl,zc,← PI hj8 hrl hhl]
  rfl
 ·have hj8:j=8:=by have:=of_decide_eq_false hc; omega
  subst hj8
  have hzl:(List.zipWith fF v h).length=8:=by rw[List.length_zipWith,hrl,hhl]; rfl
  rw[List.drop_of_length_le (by omega),List.append_nil,List.take_of_length_le (by omega),← zc] at s7
  have ae3:(List.zipWith fF h v).length=8:=by rw[zc]; exact hzl
  exact hQ _ M7 (Pp k46 k7 (by omega)) ⟨vb,pp,cap,by rw[ae3],s7,by omega,Nat.lt_of_lt_of_le lvb k7.next⟩
def Me (TU:Nat) (c:au) : Prop:=∀ {M:RM} {Q:ak},(∀ hv kv M',ag [] M M'→VS M' M.next TU hv hW→VS M' M.next TU kv kW→Q (.tup [hv,kv]) M')→c [] M Q
theorem Rc {T32 TU T8:Nat} {cc cb:au} (hc:Me TU cc) (hB:O7 TU cb) : Ml fun args M Q=>∃ a0,args=[a0]∧CF T32 cc T8 cb a0 M Q:=by
 intro M v b Q hv hl hQ
 refine⟨_,rfl, ?_⟩
 unfold CF
 refine kR (BY.row (List.replicate 32 0)) fun M1 k1 n1 e1=>?_
 refine hc fun hv2 kv M2 k2 hH hK=>?_
 simp only[cO,df]
 have k02:=k1.trans k2
 rw[VI,aG]
 have k3' : ag [] M2 (M2.push (.row [] false T8 0)):=(ag.refl _ _).push _
 have adi:=hv.keep k02 (by simp)
 refine wO (E:=BY) (Ow.lit BY M2) (by simp[RM.push]) (by decide) (adi.keep k3' (by simp)).sl (by simp; omega) (by simp; omega) fun v3 M3 o3 k3 _ _=>?_
 have k23:ag [] M2 M3:=ag.own k3' k3 (fun x hx=>by simp[aH] at hx; omega)
 rw[List.nil_append] at o3
 rw[gD (by rfl) (by rfl) (by rfl),aG]
 refine iY (E:=BY) (a:=(128:UInt8)) o3 k23.next (by decide) (by omega) (by omega) fun v4 M4 o4 k4 _ _=>?_
 have k24:ag [] M2 M4:=ag.own k23 k4 (fun x hx=>(Own.blk o3 x hx).1)
 have hzp:zp b.length<64:=Nat.mod_lt _ (by decide)
 have hz:(b.length + 1 + zp b.length) % 64=56:=by unfold zp; omega
 refine aI (fun m ys M10=>∃ (i:Nat) (rv:AV),m=zp b.length - i∧ys=[rv]∧i≤zp b.length∧ag [] M2 M10∧Ow BY M10 M2.next T8 rv (b++128 :: List.replicate i 0)) _
  ⟨0,v4,rfl,rfl,by omega,k24,o4⟩ ?_
 rintro next m ys M10 hnext ⟨i,rv,rfl,rfl,hi,k10,o10⟩
 simp only[dC]
 have hrl:(b++128 :: List.replicate i 0).length=b.length + 1 + i:=by simp; omega
 rw[dE.len (Own.jX o10),hrl,tF]
 refine⟨by decide, ?_⟩
 rw[show(((b.length + 1 + i:Nat) : Int)).tmod 64=(((b.length + 1 + i) % 64:Nat) : Int) by rw[Int.natCast_emod]; exact Int.tmod_eq_emod_of_nonneg (by omega),di]
 refine aN (fun hc=>?_) fun hc=>?_
 ·have hne:(b.length + 1 + i) % 64≠56:=fun e=>by rw[e] at hc; cases hc
  have hlt:i<zp b.length:=by
   rcases Nat.lt_or_ge i (zp b.length) with h | h
   ·exact h
   ·have:i=zp b.length:=by omega
    subst this; exact absurd hz hne
  rw[gD (by rfl) (by rfl) (by rfl),aG]
  refine iY (E:=BY) (a:=(0:UInt8)) o10 k10.next (by decide) (by omega) (by omega) fun v11 M11 o11 k11 _ _=>?_
  refine hnext _ _ _ (by omega) ⟨i + 1,v11,rfl,rfl,by omega,ag.own k10 k11 (fun x hx=>(Own.blk o10 x hx).1), ?_⟩
  have e:b++128 :: List.replicate (i + 1) 0=b++128 :: List.replicate i 0++[0]:=by rw[List.replicate_succ']; simp
  rw[e]; exact o11
 have afd:(b.length + 1 + i) % 64=56:=by
  have:((((b.length + 1 + i) % 64:Nat) : Int) != 56)=false:=hc
  have:=bne_eq_false_iff_eq.1 this
  omega
 have hiz:i=zp b.length:=by omega
 subst hiz
 clear hnext
 have aeT:=adi.keep k10 (by simp)
 rw[aeT.len,gU,fG (by omega) (by omega),kN,fG (by omega) (by omega),show((b.length:Int) * 8)=((8 * b.length:Nat) : Int) by omega]
 generalize hpre:b++128 :: List.replicate (zp b.length) 0=P at *
 refine aI (fun m ys M11=>∃ (i:Nat) (rv:AV),m=8 - i∧ys=[rv,N .i64 (7 - (i:Int))]∧i≤8∧ag [] M2 M11∧Ow BY M11 M2.next T8 rv (P++(nZ b.length).take i)) _
  ⟨0,rv,rfl,rfl,by omega,k10,by rw[List.take_zero,List.append_nil]; exact o10⟩ ?_
 rintro next m ys M11 hnext ⟨i,rv2,rfl,rfl,hi,k11,o11⟩
 simp only[dC,jC]
 have hll:((nZ b.length).take i).length=i:=by rw[List.length_take]; simp[nZ]; omega
 have hpl:(P++(nZ b.length).take i).length=b.length + 1 + zp b.length + i:=by rw[List.length_append,hrl,hll]
 rw[dL]
 refine aN (fun hc=>?_) fun hc=>?_
 ·have hi8:i<8:=by have:=of_decide_eq_true hc; omega
  rw[kN,bO (by omega) (by omega),gU,fG (by omega) (by omega),jm]
  refine⟨by omega, ?_⟩
  rw[gU,show(8 * (7 - (i:Int)))=((56 - 8 * i:Nat) : Int) by omega,Gw,gD (by rfl) (by rfl) (by rfl),aG]
  refine iY (E:=BY) (a:=He (nT .u64 ((8 * b.length:Nat) : Int) ((56 - 8 * i:Nat) : Int))) o11 k11.next (by decide) (by omega) (by omega) fun v12 M12 o12 k12 _ _=>?_
  rw[gB,bO (by omega) (by omega)]
  refine hnext _ _ _ (by omega) ⟨i + 1,v12,rfl,by congr 2; congr 1; omega,by omega,ag.own k11 k12 (fun x hx=>(Own.blk o11 x hx).1), ?_⟩
  rw[O0 hi8,← List.append_assoc]
  exact o12
 have hi8:i=8:=by have:=of_decide_eq_false hc; omega
 subst hi8
 clear hnext
 rw[List.take_of_length_le (by simp[nZ])] at o11 hpl
 have hfull:P++nZ b.length=b++vD b.length:=by rw[← hpre]; simp[vD]
 rw[hfull] at o11 hpl
 have hrest:(b++vD b.length).length=b.length + 9 + zp b.length:=by rw[hpl]; omega
 have UR:Jd b=jM (eF kW ((b.length + 9 + zp b.length) / 64) hW (b++vD b.length)):=rfl
 generalize hRe:b++vD b.length=R at *
 obtain⟨n,hn⟩ : ∃ n,b.length + 9 + zp b.length=64 * n:=⟨(b.length + 9 + zp b.length) / 64,by omega⟩
 rw[hn] at hrest
 rw[hn,Nat.mul_div_cancel_left _ (by decide)] at UR
 have Yg:=Bs.own o11
 refine aI (fun m ys M12=>∃ (i:Nat) (w:AV),m=n - i∧ys=[w,N .i64 ((i * 64:Nat) : Int)]∧i≤n∧ag [] M11 M12∧VS M12 M1.next TU w (eF kW i hW R)) _
  ⟨0,hv2,rfl,rfl,by omega,ag.refl _ _,hH.keep k11⟩ ?_
 rintro next m ys M12 hnext ⟨i,w,rfl,rfl,hi,k12,hw⟩
 simp only[dC,jC]
 have O8:=Yg.keep k12 (by simp)
 have aeD:=(hK.keep k11).keep k12
 have hFl:(eF kW i hW R).length=8:=qo Kn
 rw[O8.len,gQ]
 refine aN (fun hc=>?_) fun hc=>?_
 ·have hin:i<n:=by have:=of_decide_eq_true hc; omega
  rw[kK 64 (by omega) (by omega) (by rfl)]
  refine O8.sub (IV _ _ _) (IV _ _ _) (by omega) (by omega) fun v13 h13 aeI=>?_
  rw[show i * 64 + 64 - i * 64=64 by omega] at h13
  refine hB hw.sl hFl aeD.sl E9 h13 (by rw[List.length_take,List.length_drop]; omega) fun v14 M13 k13 h14=>?_
  rw[kK 64 (by omega) (by omega) (by rfl),show i * 64 + 64=(i + 1) * 64 by omega]
  refine hnext _ _ _ (by omega) ⟨i + 1,v14,rfl,rfl,by omega,k12.trans k13, ?_⟩
  rw[xY,Nat.mul_comm 64]
  exact h14.mono (Nat.le_trans k2.next (Nat.le_trans k11.next k12.next))
 have hin:i=n:=by have:=of_decide_eq_false hc; omega
 subst hin
 clear hnext
 generalize eF kW i hW R=F at *
 have hdF:=H5 F
 have YS:=k11.trans k12
 have n112:=(k2.trans YS).ay n1 (by omega) (by simp)
 have X9:M.next<M12.next:=Nat.lt_of_lt_of_le (by omega:M.next<M1.next) (k2.trans YS).next
 refine kR (BY.row (List.replicate 32 0)) fun M14 k14 n14' e14=>?_
 have n14:M14.heap M12.next=some (.row (BY.row ((jM F).take 0++List.replicate (32 - 0) 0)) false T32 0):=n14'
 refine aI (fun m ys M15=>∃ i:Nat,m=32 - i∧ys=[N .i64 (i:Int)]∧i≤32∧ag [] M12 M15∧M12.next<M15.next∧M15.heap M12.next=some (.row (BY.row ((jM F).take i++List.replicate (32 - i) 0)) false T32 0)) _
  ⟨0,rfl,rfl,by omega,k14,by omega,n14⟩ ?_
 rintro next m ys M15 hnext ⟨i',rfl,rfl,hi',k15,X8,n15'⟩
 simp only[dC]
 have afH:=hw.keep k15
 rw[pV 32 (by rfl)]
 refine aN (fun hc=>?_) fun hc=>?_
 ·have pR:i'<32:=of_decide_eq_true hc
  rw[Cb]
  refine⟨by decide, ?_⟩
  rw[show IntKind.i64.wrap (((i' : Nat) : Int).tdiv 4)=((i' / 4:Nat) : Int) by
   rw[show((i' : Nat) : Int).tdiv 4=((i' / 4:Nat) : Int) by rw[Int.natCast_ediv]; exact Int.tdiv_eq_ediv_of_nonneg (by omega)]
   exact bO (by omega) (by omega)]
  rw[JF afH.sl (by omega),tF]
  refine⟨by decide, ?_⟩
  rw[show(((i' : Nat) : Int)).tmod 4=((i' % 4:Nat) : Int) by rw[Int.natCast_emod]; exact Int.tmod_eq_emod_of_nonneg (by omega),kN,bO (by omega) (by omega),gB,bO (by omega) (by omega),gU,fG (by omega) (by omega),jm]
  refine⟨by omega, ?_⟩
  rw[gU,Gw,dY rfl pR,show(24 - 8 * ((i' % 4:Nat) : Int))=((24 - 8 * (i' % 4) : Nat) : Int) by omega]
  have hget:(jM F)[i']?=some (He (nT .u32 (F.getD (i' / 4) 0) ((24 - 8 * (i' % 4) : Nat) : Int))):=by
   simp[jM,pR]
  have hset:=QC pR hdF hget
  have ac2:((jM F).take i'++List.replicate (32 - i') 0).length=32:=by rw[List.length_append,List.length_take,List.length_replicate]; omega
  rw[bQ (BY.row ((jM F).take (i' + 1)++List.replicate (32 - (i' + 1)) 0)) n15' (by rw[lF]; omega) rfl rfl (by rw[← hset,nO,nO,List.map_set]),kK 1 (by omega) (by omega) (by rfl)]
  exact hnext _ _ _ (by omega) ⟨i' + 1,rfl,rfl,by omega,k15.new _ (Nat.le_refl _),X8,aB _⟩
 ·have pR:i'=32:=by have:=of_decide_eq_false hc; omega
  subst pR
  have e:(jM F).take 32++List.replicate (32 - 32) 0=jM F:=by rw[List.take_of_length_le (by omega)]; simp
  rw[e] at n15'
  have n115:=k15.ay n112 X9 (by simp)
  rw[aP n15' (by rw[lF,hdF]),qi n115 (by rw[lF,hdF]) (by rw[lF,List.length_replicate]) (BY.fT _),aP (aB _) (by rw[lF,hdF]),← UR]
  exact hQ _ ((k02.trans (YS.trans k15)).new _ (Nat.le_refl _))
def ML (n:Nat) : Bool:=(List.range n).all fun d=>!(decide (2≤d) && decide (d * d≤n) && decide (n % d=0))
def Pb (c:au) : Prop:=∀ {M:RM} {n:Nat} {Q:ak},2≤n→n<100000→Q (Bo (ML n)) M→c [N .i64 (n:Int)] M Q
theorem Vm:Pb fun args M Q=>∃ a0,args=[a0]∧yU a0 M Q:=by
 intro M n Q h2 hn hQ
 refine⟨_,rfl, ?_⟩
 unfold yU
 refine aI (fun m ys M3=>∃ d:Nat,m=1000 - d∧ys=[N .i64 (d:Int)]∧2≤d∧d<1000∧(∀ e,2≤e→e<d→n % e≠0)∧M3=M) _ ⟨2,rfl,rfl,by omega,by omega,fun e h1 h2=>by omega,rfl⟩ ?_
 rintro next m ys M3 hnext ⟨d,rfl,rfl,hd2,hdl,hne,rfl⟩
 simp only[dC]
 have hdd:d * d≤999 * 999:=Nat.mul_le_mul (by omega) (by omega)
 rw[kN,show((d:Int) * (d:Int))=((d * d:Nat) : Int) by rw[Int.natCast_mul],bO (by omega) (by omega),Lf]
 refine aN (fun hc=>?_) fun hc=>?_
 ·have hc:=of_decide_eq_true hc
  rw[tF]
  refine⟨by omega, ?_⟩
  rw[show((n:Int)).tmod (d:Int)=((n % d:Nat) : Int) by rw[Int.natCast_emod]; exact Int.tmod_eq_emod_of_nonneg (by omega),show(N .i64 0)=N .i64 ((0:Nat) : Int) from rfl,acJ]
  have hdn:d<n:=by
   have:d * 2≤d * d:=Nat.mul_le_mul_left d hd2
   omega
  refine aN (fun h=>?_) fun h=>?_
  ·have h:=of_decide_eq_true h
   have:ML n=false:=by
    unfold ML
    rw[List.all_eq_false]
    refine⟨d,List.mem_range.2 hdn, ?_⟩
    simp[hd2,hc,h]
   rw[← this]; exact hQ
  ·have h:=of_decide_eq_false h
   have hd316:d<400:=by
    rcases Nat.lt_or_ge d 400 with h | h
    ·exact h
    ·have:=Nat.mul_le_mul h h; omega
   rw[add1 (by omega)]
   refine hnext _ _ _ (by omega) ⟨d + 1,rfl,rfl,by omega,by omega,fun e h1 h3=>?_,rfl⟩
   rcases Nat.lt_or_ge e d with h4 | h4
   ·exact hne e h1 h4
   ·have:e=d:=by omega
    rw[this]; exact h
 ·have hc:=of_decide_eq_false hc
  rw[gV,show decide ((n:Int) > 1)=true from decide_eq_true (by omega)]
  have:ML n=true:=by
   unfold ML
   rw[List.all_eq_true]
   intro e he
   by_cases h1:2≤e
   ·by_cases h3:e * e≤n
    ·have hed:e<d:=by
      rcases Nat.lt_or_ge e d with h | h
      ·exact h
      ·have:=Nat.mul_le_mul h h; omega
     have:=hne e h1 hed
     simp[this]
    ·simp[h3]
   ·simp[h1]
  rw[← this]; exact hQ
def pl (i:Nat) : List Nat:=(List.range i).filter fun n=>decide (2≤n) && ML n
def mK:List Nat:=[2,3,5,7,11,13,17,19,23,29,31,37,41,43,47,53,59,61,67,71,73,79,83,89,97,101,103,107,109,113,127,131,137,139,149,151,157,163,167,173,179,181,191,193,197,199,211,223,227,229,233,239,241,251,257,263,269,271,277,281,283,293,307,311]
theorem WC:pl 312=mK:=by decide +kernel
theorem Bc:mK.length=64:=by decide
theorem Tq {i:Nat} (h:2≤i) : pl (i + 1)=pl i++(if ML i=true then[i] else[]):=by
 unfold pl
 rw[List.range_succ,List.filter_append]
 congr 1
 cases hp:ML i <;> simp[hp,h]
theorem ach {i:Nat} (h:i≤312) : pl i <+: mK:=by
 rw[← WC]
 unfold pl
 have:List.range i <+: List.range 312:=by
  rw[show 312=i + (312 - i) by omega,List.range_add]
  exact List.prefix_append _ _
 exact this.filter _
def MP:Enc Nat:=⟨1,fun n=>[N .i64 (n:Int)],fun _=>rfl,fun _=>rfl⟩
def LP (TI:Nat) (c:au) : Prop:=∀ {M:RM} {Q:ak},(∀ v' M',ag [] M M'→Sl MP M' v' mK→Q v' M')→c [N .i64 64] M Q
theorem Re {TI:Nat} {cp:au} (hp:Pb cp) : LP TI fun args M Q=>∃ a0,args=[a0]∧vC TI cp a0 M Q:=by
 intro M Q hQ
 refine⟨_,rfl, ?_⟩
 unfold vC
 refine BR ?_
 show aO _ _ _ _
 rw[aG]
 have k0:ag [] M (M.push (.row [] false TI 0)):=(ag.refl _ _).push _
 refine aI (fun m ys M3=>∃ (i:Nat) (v:AV),m=312 - i∧ys=[v,N .i64 (i:Int)]∧2≤i∧i≤312∧ag [] M M3∧Ow MP M3 M.next TI v (pl i)) _ ⟨2,_,rfl,rfl,by omega,by omega,k0,Ow.lit MP M⟩ ?_
 rintro next m ys M3 hnext ⟨i,v,rfl,rfl,hi2,hi,k3,o3⟩
 simp only[dC,jC]
 have hpre:=ach hi
 have hle:=hpre.length_le
 rw[Bc] at hle
 rw[dE.len (Own.jX o3),show(N .i64 64)=N .i64 ((64:Nat) : Int) from rfl,gQ]
 refine aN (fun hc=>?_) fun hc=>?_
 ·have hc:=of_decide_eq_true hc
  have hi312:i<312:=by
   rcases Nat.lt_or_ge i 312 with h | h
   ·exact h
   ·have:i=312:=by omega
    subst this
    rw[WC,Bc] at hc
    omega
  rw[bL]
  refine aW (fun xs M4=>∃ v',xs=[v']∧ag [] M M4∧Ow MP M4 M.next TI v' (pl (i + 1))) ?_ ?_
  ·rintro xs M4 ⟨v',rfl,k4,o4⟩
   simp only[dC]
   rw[add1 (by omega)]
   exact hnext _ _ _ (by omega) ⟨i + 1,v',rfl,rfl,by omega,by omega,k4,o4⟩
  ·intro J hJ
   refine hp hi2 (by omega) ?_
   refine aN (fun h=>?_) fun h=>?_
   ·rw[gD (by rfl) (by rfl) (by rfl),aG]
    refine iY (E:=MP) (a:=i) o3 k3.next (by decide) (by omega) (by omega) fun v4 M4 o4 k4 _ _=>?_
    refine hJ _ _ ⟨v4,rfl,ag.own k3 k4 (fun x hx=>(Own.blk o3 x hx).1), ?_⟩
    rw[Tq hi2,if_pos h]; exact o4
   ·refine hJ _ _ ⟨v,rfl,k3, ?_⟩
    rw[Tq hi2,if_neg (by rw[h]; decide),List.append_nil]; exact o3
 ·have hc:=of_decide_eq_false hc
  have:pl i=mK:=hpre.eq_of_length (by rw[Bc]; omega)
  rw[this] at o3
  exact hQ v M3 k3 (Own.jX o3)
def val:List Nat→Nat
 | []=>0
 | x :: xs=>x + 65536 * val xs
theorem LH:∀ (l r:List Nat),val (l++r)=val l + 65536 ^ l.length * val r
 | [],r=>by simp[val]
 | x :: l,r=>by
   rw[List.cons_append,val,LH l r,val,List.length_cons,Nat.pow_succ,Nat.mul_add,Nat.mul_comm (65536 ^ l.length) 65536,Nat.mul_assoc]
   omega
theorem Cg {l:List Nat} {i:Nat} (h:i<l.length) : val (l.take (i + 1))=val (l.take i) + 65536 ^ i * l.getD i 0:=by
 have hl:(l.take i).length=i:=by rw[List.length_take]; omega
 rw[List.take_succ_eq_append_getElem h,LH,hl]
 simp[val,List.getD,h]
theorem FV {l:List Nat} (i:Nat) (h:i≤l.length) : val l=val (l.take i) + 65536 ^ i * val (l.drop i):=by
 have hl:(l.take i).length=i:=by rw[List.length_take]; omega
 conv=>lhs; rw[← List.take_append_drop i l,LH,hl]
theorem Lg:∀ {l:List Nat} {i:Nat} (x:Nat),i<l.length→val (l.set i x) + 65536 ^ i * l.getD i 0=val l + 65536 ^ i * x
 | [],i,x,h=>by simp at h
 | y :: l,0,x,h=>by simp[val]; omega
 | y :: l,i + 1,x,h=>by
   have ih:=Lg (l:=l) (i:=i) x (by simpa using h)
   rw[List.set_cons_succ,val,val,Nat.pow_succ,show(y :: l).getD (i + 1) 0=l.getD i 0 from rfl]
   have e1:65536 ^ i * 65536 * l.getD i 0=65536 * (65536 ^ i * l.getD i 0):=by rw[Nat.mul_comm (65536 ^ i) 65536,Nat.mul_assoc]
   have e2:65536 ^ i * 65536 * x=65536 * (65536 ^ i * x):=by rw[Nat.mul_comm (65536 ^ i) 65536,Nat.mul_assoc]
   rw[e1,e2]
   generalize 65536 ^ i * l.getD i 0=p at *
   generalize 65536 ^ i * x=q at *
   omega
def vJ (l:List Nat) : Prop:=l.length=8∧∀ x∈l,x<65536
theorem Qq:∀ {l:List Nat},(∀ x∈l,x<65536)→val l<65536 ^ l.length
 | [],_=>by simp[val]
 | x :: l,h=>by
   have h1:=Qq (l:=l) fun y hy=>h y (List.mem_cons_of_mem _ hy)
   have h2:=h x List.mem_cons_self
   rw[val,List.length_cons,Nat.pow_succ,Nat.mul_comm (65536 ^ l.length) 65536]
   have:65536 * (val l + 1)≤65536 * 65536 ^ l.length:=Nat.mul_le_mul_left _ h1
   rw[Nat.mul_add] at this
   omega
theorem getD_lt {l:List Nat} (h:∀ x∈l,x<65536) (i:Nat) : l.getD i 0<65536:=by
 rw[List.getD_eq_getElem?_getD]
 rcases hi:l[i]? with _ | x
 ·show 0<65536; decide
 ·exact h x (List.mem_of_getElem? hi)
def iW:Enc Nat:=⟨1,fun n=>[N .u64 (n:Int)],fun _=>rfl,fun _=>rfl⟩
theorem Bi (xs:List Nat) : iW.row xs=xs.map (fun n:Nat=>N .u64 (n:Int)):=by
 induction xs with
 | nil=>rfl
 | cons x xs ih=>rw[Enc.jN,ih]; rfl
theorem gu (xs:List Nat) : (iW.row xs).length=xs.length:=by rw[Bi,List.length_map]
section
variable {M:RM} {b T:Nat} {ws:List Nat}
theorem xD (h:M.heap b=some (.row (iW.row ws) false T 0)) {i:Nat} (hi:i<ws.length) {K:AV→Prop} : ah M (.ptr b i) K=K (N .u64 (ws.getD i 0:Nat)):=by
 refine aA h ?_
 rw[Bi,List.getElem?_map,List.getElem?_eq_getElem hi]
 simp[List.getD,hi]
theorem Ev (h:M.heap b=some (.row (iW.row ws) false T 0)) {i:Nat} (hi:i<ws.length) (x:Nat) {K:RM→Prop} : aC M (.ptr b i) (N .u64 (x:Int)) 1 K=K (M.put b (.row (iW.row (ws.set i x)) false T 0)):=by
 refine bQ _ h (by rw[gu]; exact hi) rfl rfl ?_
 rw[Bi,Bi,List.map_set]
end
theorem Vj {n:Nat} (h:n<18446744073709551616) : xE .u64 (n:Int) 65535=((n % 65536:Nat) : Int):=by
 unfold xE
 have e:(BitVec.ofInt IntKind.u64.bits (n:Int) &&& BitVec.ofInt IntKind.u64.bits 65535).toNat=n % 65536:=by
  show(BitVec.ofInt 64 (n:Int) &&& BitVec.ofInt 64 65535).toNat=_
  rw[BitVec.toNat_and,BitVec.ofInt_natCast,BitVec.toNat_ofNat,Nat.mod_eq_of_lt (show n<2 ^ 64 by omega)]
  have:(BitVec.ofInt 64 65535).toNat=2 ^ 16 - 1:=by decide
  rw[this,Nat.and_two_pow_sub_one_eq_mod]
 rw[e,fG (by omega) (by omega)]
theorem UF {n k:Nat} (hk:k<64) : nT .u64 (n:Int) (k:Int)=((n / 2 ^ k:Nat) : Int):=by
 unfold nT
 have:min (Int.toNat (k:Int)) IntKind.u64.bits=k:=by
  rw[Int.toNat_natCast]; exact Nat.min_eq_left (Nat.le_of_lt hk)
 rw[this]
 rw[show((2:Int) ^ k)=((2 ^ k:Nat) : Int) by rw[Int.natCast_pow]; rfl,Int.fdiv_eq_ediv_of_nonneg _ (Int.natCast_nonneg _)]
 rfl
def Qa (c:au) : Prop:=∀ {M:RM} {a b:List Nat} {Q:ak},vJ a→vJ b→(∀ M',ag [] M M'→Q (Bo (decide (val a > val b))) M')→c [.agg (iW.row a),.agg (iW.row b)] M Q
theorem Wm {a b:List Nat} (ha:vJ a) (hb:vJ b) {i:Nat} (hi:i<8) (he:a.drop (i + 1)=b.drop (i + 1)) (hne:a.getD i 0≠b.getD i 0) : decide (val a > val b)=decide (a.getD i 0 > b.getD i 0):=by
 have ea:=FV (l:=a) (i + 1) (by rw[ha.1]; omega)
 have eb:=FV (l:=b) (i + 1) (by rw[hb.1]; omega)
 rw[Cg (by rw[ha.1]; exact hi)] at ea
 rw[Cg (by rw[hb.1]; exact hi),← he] at eb
 have la:=Qq (l:=a.take i) fun x hx=>ha.2 x (List.mem_of_mem_take hx)
 have lb:=Qq (l:=b.take i) fun x hx=>hb.2 x (List.mem_of_mem_take hx)
 rw[List.length_take,ha.1,Nat.min_eq_left (by omega)] at la
 rw[List.length_take,hb.1,Nat.min_eq_left (by omega)] at lb
 generalize 65536 ^ (i + 1) * val (a.drop (i + 1))=R at *
 generalize a.getD i 0=x at *
 generalize b.getD i 0=y at *
 rw[decide_eq_decide]
 have m1:x<y→65536 ^ i * (x + 1)≤65536 ^ i * y:=fun h=>Nat.mul_le_mul_left _ h
 have m2:y<x→65536 ^ i * (y + 1)≤65536 ^ i * x:=fun h=>Nat.mul_le_mul_left _ h
 rw[Nat.mul_add,Nat.mul_one] at m1 m2
 generalize 65536 ^ i * x=X at *
 generalize 65536 ^ i * y=Y at *
 omega
theorem Vi {T:Nat} : Qa fun args M Q=>∃ a0 a1,args=[a0,a1]∧wZ T a0 a1 M Q:=by
 intro M a b Q ha hb hQ
 refine⟨_,_,rfl, ?_⟩
 unfold wZ
 rw[fU (iW.fT a) (by rw[gu,ha.1]; omega)]
 refine kR _ fun M1 k1 n1 e1=>?_
 rw[fU (iW.fT b) (by rw[gu,hb.1]; omega)]
 refine kR _ fun M2 k2 n2 e2=>?_
 have n12:=k2.ay n1 (by omega) (by simp)
 have k02:=k1.trans k2
 refine aI (fun m ys M3=>∃ c:Nat,m=9 - c∧ys=[N .i64 (7 - (c:Int))]∧c≤8∧a.drop (8 - c)=b.drop (8 - c)∧M3=M2) _ ⟨0,rfl,rfl,by omega,by rw[List.drop_of_length_le (by rw[ha.1]; omega),List.drop_of_length_le (by rw[hb.1]; omega)],rfl⟩ ?_
 rintro next m ys M3 hnext ⟨c,rfl,rfl,hc,he,rfl⟩
 simp only[dC]
 rw[dL]
 refine aN (fun h=>?_) fun h=>?_
 ·have hc8:c<8:=by have:=of_decide_eq_true h; omega
  have hi:(7 - (c:Int))=((7 - c:Nat) : Int):=by omega
  rw[hi]
  have Ia:∀ {K:AV→Prop},dK (.ptr M.next 0) (N .i64 ((7 - c:Nat) : Int)) 8 1 K=K (.ptr M.next (7 - c)):=dY rfl (by omega)
  have Ib:∀ {K:AV→Prop},dK (.ptr M1.next 0) (N .i64 ((7 - c:Nat) : Int)) 8 1 K=K (.ptr M1.next (7 - c)):=dY rfl (by omega)
  have La:∀ {K:AV→Prop},ah M3 (.ptr M.next (7 - c)) K=K (N .u64 (a.getD (7 - c) 0:Nat)):=xD n12 (by rw[ha.1]; omega)
  have Lb:∀ {K:AV→Prop},ah M3 (.ptr M1.next (7 - c)) K=K (N .u64 (b.getD (7 - c) 0:Nat)):=xD n2 (by rw[hb.1]; omega)
  rw[Ia,La,Ib,Lb,di]
  refine aN (fun hn=>?_) fun hn=>?_
  ·rw[Ia,La,Ib,Lb,gV]
   have hne:a.getD (7 - c) 0≠b.getD (7 - c) 0:=fun e=>by rw[e] at hn; simp at hn
   have hd:=Wm ha hb (i:=7 - c) (by omega) (by rw[show 7 - c + 1=8 - c by omega]; exact he) hne
   have e2:decide ((a.getD (7 - c) 0:Int) > (b.getD (7 - c) 0:Int))=decide (val a > val b):=by rw[hd,decide_eq_decide]; omega
   rw[e2]
   exact hQ M3 k02
  ·have heq:a.getD (7 - c) 0=b.getD (7 - c) 0:=by
    have:=bne_eq_false_iff_eq.1 hn
    omega
   rw[gB,bO (by omega) (by omega)]
   refine hnext _ _ _ (by omega) ⟨c + 1,rfl,by congr 2; omega,by omega, ?_,rfl⟩
   have da:a.drop (8 - (c + 1))=a.getD (7 - c) 0 :: a.drop (8 - c):=by
    rw[show 8 - (c + 1)=7 - c by omega,List.drop_eq_getElem_cons (by rw[ha.1]; omega),show 7 - c + 1=8 - c by omega]
    simp[List.getD,show 7 - c<a.length by rw[ha.1]; omega]
   have db:b.drop (8 - (c + 1))=b.getD (7 - c) 0 :: b.drop (8 - c):=by
    rw[show 8 - (c + 1)=7 - c by omega,List.drop_eq_getElem_cons (by rw[hb.1]; omega),show 7 - c + 1=8 - c by omega]
    simp[List.getD,show 7 - c<b.length by rw[hb.1]; omega]
   rw[da,db,heq,he]
 ·have hc8:c=8:=by have:=of_decide_eq_false h; omega
  subst hc8
  rw[Nat.sub_self,List.drop_zero,List.drop_zero] at he
  have:decide (val a > val b)=false:=by rw[he]; simp
  rw[← this]
  exact hQ M3 k02
def Wh (c:au) : Prop:=∀ {M:RM} {v:Nat} {Q:ak},v<2 ^ 40→(∀ M' l,ag [] M M'→vJ l→val l=v→Q (.agg (iW.row l)) M')→c [N .u64 (v:Int)] M Q
theorem Tn {T:Nat} : Wh fun args M Q=>∃ a0,args=[a0]∧Er T a0 M Q:=by
 intro M v Q hv hQ
 refine⟨_,rfl, ?_⟩
 unfold Er
 refine kR (iW.row (List.replicate 8 0)) fun M1 k1 n1 e1=>?_
 rw[fQ,Vj (by omega),jm]
 refine⟨by decide, ?_⟩
 rw[show nT .u64 (v:Int) 16=((v / 2 ^ 16:Nat) : Int) from UF (k:=16) (by decide),fQ,Vj (by omega),jm]
 refine⟨by decide, ?_⟩
 rw[show nT .u64 (v:Int) 32=((v / 2 ^ 32:Nat) : Int) from UF (k:=32) (by decide),gN]
 have fl:mf [N .u64 0,N .u64 0,N .u64 0,N .u64 0,N .u64 0,N .u64 0,N .u64 0,N .u64 0] [(0,1,N .u64 ((v % 65536:Nat) : Int)),(1,1,N .u64 ((v / 2 ^ 16 % 65536:Nat) : Int)),(2,1,N .u64 ((v / 2 ^ 32:Nat) : Int))]=some (iW.row [v % 65536,v / 2 ^ 16 % 65536,v / 2 ^ 32,0,0,0,0,0]):=by
  rw[lh (by simp)]
  simp only[List.set]
  rw[lh (by simp)]
  simp only[List.set]
  rw[lh (by simp)]
  simp only[List.set]
  rfl
 refine⟨_,fl, ?_⟩
 rw[qi n1 (by rw[gu]; rfl) (by rw[gu]; rfl) (iW.fT _),aP (aB _) (by rw[gu]; rfl)]
 refine hQ _ _ (k1.new _ (Nat.le_refl _)) ⟨rfl,fun x hx=>?_⟩ ?_
 ·simp only[List.mem_cons,List.not_mem_nil,or_false] at hx
  show x<65536
  omega
 ·simp only[val]
  omega
def Qu (c:au) : Prop:=∀ {M:RM} {a b:List Nat} {Q:ak},vJ a→vJ b→val a * val b<65536 ^ 8→(∀ M' l,ag [] M M'→vJ l→val l=val a * val b→Q (.agg (iW.row l)) M')→c [.agg (iW.row a),.agg (iW.row b)] M Q
theorem TJ {va k q A B ai bj C C' cij t P:Nat} (h:C + k * P + q * 65536 ^ 8=A + ai * B) (hs:C' + P * cij=C + P * (t % 65536)) (ht:t=k + cij + ai * bj) :
  C' + (t / 65536) * (P * 65536) + q * 65536 ^ 8=A + ai * B + P * (ai * bj):=by
 have e:P * (t % 65536) + (t / 65536) * (P * 65536)=P * t:=by
  have:t=t % 65536 + 65536 * (t / 65536):=(Nat.mod_add_div t 65536).symm
  conv=>rhs; rw[this,Nat.mul_add]
  rw[Nat.mul_comm (t / 65536) (P * 65536),Nat.mul_assoc]
 have e2:P * t=k * P + P * cij + P * (ai * bj):=by rw[ht,Nat.mul_add,Nat.mul_add,Nat.mul_comm P k]
 generalize (t / 65536) * (P * 65536)=X at *
 generalize P * (t % 65536)=Y at *
 generalize P * cij=Z at *
 generalize P * (ai * bj)=W at *
 generalize k * P=U at *
 generalize q * 65536 ^ 8=V at *
 generalize ai * B=S at *
 omega
theorem VN {c k q X Y Z P:Nat} (h:c + k * P + q * P=Z + Y) : c + (q * P + k * P + X)=Z + Y + X:=by
 generalize k * P=U at *
 generalize q * P=V at *
 omega
theorem Tt {l:List Nat} {i x:Nat} (h:vJ l) (hx:x<65536) : vJ (l.set i x):=by
 refine⟨by rw[List.length_set]; exact h.1,fun y hy=>?_⟩
 rcases List.mem_or_eq_of_mem_set hy with hy | rfl
 ·exact h.2 y hy
 ·exact hx
theorem Vs {T:Nat} : Qu fun args M Q=>∃ a0 a1,args=[a0,a1]∧xB T a0 a1 M Q:=by
 intro M a b Q ha hb hlt hQ
 refine⟨_,_,rfl, ?_⟩
 unfold xB
 rw[fU (iW.fT a) (by rw[gu,ha.1]; omega)]
 refine kR _ fun M1 k1 n1 e1=>?_
 rw[fU (iW.fT b) (by rw[gu,hb.1]; omega)]
 refine kR _ fun M2 k2 n2 e2=>?_
 refine kR (iW.row (List.replicate 8 0)) fun M3 k3 n3 e3=>?_
 refine kR (iW.row (List.replicate 8 0)) fun M4 k4 n4 e4=>?_
 have k04:=k1.trans (k2.trans (k3.trans k4))
 have n14:=(k2.trans (k3.trans k4)).ay n1 (by omega) (by simp)
 have n24:=(k3.trans k4).ay n2 (by omega) (by simp)
 have n34:=k4.ay n3 (by omega) (by simp)
 have d0:vJ (List.replicate 8 0):=⟨rfl,fun x hx=>by rw[List.eq_of_mem_replicate hx]; decide⟩
 refine aI (fun m ys M5=>∃ (i:Nat) (c:List Nat) (q:Nat),m=8 - i∧ys=[N .i64 (i:Int)]∧i≤8∧ag [M3.next] M4 M5∧M5.heap M3.next=some (.row (iW.row c) false T 0)∧vJ c∧val c + q * 65536 ^ 8=val (a.take i) * val b) _
  ⟨0,_,0,rfl,rfl,by omega,ag.refl _ _,n4,d0,by simp[val]⟩ ?_
 rintro next m ys M5 hnext ⟨i,c,q,rfl,rfl,hi,k5,n5,dc,hval⟩
 simp only[dC]
 rw[pV 8 (by rfl)]
 refine aN (fun hc=>?_) fun hc=>?_
 ·have hi8:i<8:=of_decide_eq_true hc
  have hai:=getD_lt ha.2 i
  generalize hae:a.getD i 0=ai at *
  refine aI (fun m ys M6=>∃ (j k:Nat) (c:List Nat),m=8 - j∧ys=[N .u64 (k:Int),N .i64 (j:Int)]∧i + j≤8∧k<65536∧ag [M3.next] M4 M6∧M6.heap M3.next=some (.row (iW.row c) false T 0)∧vJ c∧val c + k * 65536 ^ (i + j) + q * 65536 ^ 8=val (a.take i) * val b + ai * (65536 ^ i * val (b.take j))) _
   ⟨0,0,c,rfl,rfl,by omega,by omega,k5,n5,dc,by simp[val]; exact hval⟩ ?_
  rintro pJ m ys M6 gm ⟨j,k,c,rfl,rfl,hj,hk,k6,n6,dc6,hv6⟩
  simp only[dC,jC]
  have n16:=k6.ay n14 (by omega) (by simp; omega)
  have n26:=k6.ay n24 (by omega) (by simp; omega)
  rw[addN (by omega),pV 8 (by rfl)]
  refine aN (fun hc=>?_) fun hc=>?_
  ·have hij:i + j<8:=of_decide_eq_true hc
   have hbj:=getD_lt hb.2 j
   have hcij:=getD_lt dc6.2 (i + j)
   rw[addN (by omega),dY rfl hij,xD n6 (by rw[dc6.1]; exact hij),bE,dY rfl hi8,xD n16 (by rw[ha.1]; exact hi8),dY rfl (by omega),xD n26 (by rw[hb.1]; omega),hae]
   have hset:=Lg (l:=c) (i:=i + j) ((k + c.getD (i + j) 0 + ai * b.getD j 0) % 65536) (by rw[dc6.1]; exact hij)
   have hbt:=Cg (l:=b) (i:=j) (by rw[hb.1]; omega)
   generalize b.getD j 0=bj at *
   generalize hce:c.getD (i + j) 0=cij at *
   have hprod:ai * bj≤65535 * 65535:=Nat.mul_le_mul (by omega) (by omega)
   rw[show((k:Int) + (cij:Int))=((k + cij:Nat) : Int) by omega,fG (by omega) (by omega),kN,show((ai:Int) * (bj:Int))=((ai * bj:Nat) : Int) by rw[Int.natCast_mul],fG (by omega) (by omega),bE,show(((k + cij:Nat) : Int) + ((ai * bj:Nat) : Int))=((k + cij + ai * bj:Nat) : Int) by omega,fG (by omega) (by omega)]
   generalize hte:k + cij + ai * bj=t at *
   rw[addN (by omega),fQ,Vj (by omega),dY rfl hij,Ev n6 (by rw[dc6.1]; exact hij),jm]
   refine⟨by decide, ?_⟩
   rw[show nT .u64 (t:Int) 16=((t / 2 ^ 16:Nat) : Int) from UF (k:=16) (by decide),add1 (by omega)]
   refine gm _ _ _ (by omega) ⟨j + 1,t / 2 ^ 16,_,rfl,rfl,by omega,by omega,k6.put _ (.inr (by simp)),aB _,Tt dc6 (by omega), ?_⟩
   have hstep:=TJ (va:=0) (A:=val (a.take i) * val b) (B:=65536 ^ i * val (b.take j)) (ai:=ai) (bj:=bj) hv6 hset hte.symm
   have e1:65536 ^ (i + (j + 1))=65536 ^ (i + j) * 65536:=by rw[← Nat.add_assoc,Nat.pow_succ]
   have e2:ai * (65536 ^ i * val (b.take (j + 1)))=ai * (65536 ^ i * val (b.take j)) + 65536 ^ (i + j) * (ai * bj):=by
    rw[hbt,Nat.mul_add,Nat.mul_add,Nat.pow_add]
    congr 1
    rw[Nat.mul_left_comm (65536 ^ i * 65536 ^ j),Nat.mul_assoc]
   rw[e1,e2,← Nat.add_assoc]
   exact hstep
  ·have hij:i + j=8:=by have:=of_decide_eq_false hc; omega
   rw[add1 (by omega)]
   refine hnext _ _ _ (by omega) ⟨i + 1,c,q + k + ai * val (b.drop j),rfl,rfl,by omega,k6,n6,dc6, ?_⟩
   have hat:=Cg (l:=a) (i:=i) (by rw[ha.1]; exact hi8)
   have hbs:=FV (l:=b) j (by rw[hb.1]; omega)
   rw[hae] at hat
   rw[hij] at hv6
   have e3:65536 ^ 8=65536 ^ i * 65536 ^ j:=by rw[← Nat.pow_add,hij]
   have e4:ai * val (b.drop j) * 65536 ^ 8=ai * (65536 ^ i * (65536 ^ j * val (b.drop j))):=by
    rw[e3,Nat.mul_assoc,Nat.mul_comm (val (b.drop j)),Nat.mul_assoc]
   have e5:val (a.take (i + 1)) * val b=val (a.take i) * val b + ai * (65536 ^ i * val (b.take j)) + ai * (65536 ^ i * (65536 ^ j * val (b.drop j))):=by
    rw[hat,Nat.add_mul,Nat.add_assoc,← Nat.mul_add,← Nat.mul_add,← hbs]
    congr 1
    rw[Nat.mul_comm (65536 ^ i) ai,Nat.mul_assoc]
   rw[e5,Nat.add_mul,Nat.add_mul,e4]
   exact VN hv6
 ·have hi8:i=8:=by have:=of_decide_eq_false hc; omega
  subst hi8
  rw[List.take_of_length_le (by rw[ha.1]; omega)] at hval
  have hq:q=0:=by
   rcases Nat.eq_zero_or_pos q with h | h
   ·exact h
   ·have:1 * 65536 ^ 8≤q * 65536 ^ 8:=Nat.mul_le_mul_right _ h
    omega
  rw[hq,Nat.zero_mul,Nat.add_zero] at hval
  have n35:=k5.ay n34 (by omega) (by simp; omega)
  rw[aP n5 (by rw[gu,dc.1]),qi n35 (by rw[gu,dc.1]) (by rw[gu,List.length_replicate]) (iW.fT _),aP (aB _) (by rw[gu,dc.1])]
  exact hQ _ c ((Pp k04 k5 (by omega)).new _ (by omega)) dc hval
def big (p:Nat) (jB:Bool) (t:Nat) : Bool:=match jB with
 | true=>decide (t * t * t > p * 65536 ^ 6)
 | false=>decide (t * t > p * 65536 ^ 4)
def jT (p:Nat) (jB:Bool) : Nat→Nat
 | 0=>0
 | c + 1=>match big p jB (jT p jB c ||| 2 ^ (36 - c)) with
   | true=>jT p jB c
   | false=>jT p jB c ||| 2 ^ (36 - c)
theorem Q6 (p:Nat) (jB:Bool) : ∀ c,c≤37→jT p jB c<2 ^ 37
 | 0,_=>by simp[jT]
 | c + 1,h=>by
   have:=Q6 p jB c (by omega)
   rw[jT]
   split
   ·exact this
   ·exact Nat.or_lt_two_pow this (Nat.pow_lt_pow_right (by decide) (by omega))
def UK (c:au) : Prop:=∀ {M:RM} {p:Nat} {jB:Bool} {Q:ak},p<1000→(∀ M',ag [] M M'→Q (N .u32 ((jT p jB 37 % 4294967296:Nat) : Int)) M')→c [N .i64 (p:Int),Bo jB] M Q
theorem orN {a b:Nat} (ha:a<18446744073709551616) (hb:b<18446744073709551616) (hab:a ||| b<18446744073709551616) : FU .u64 (a:Int) (b:Int)=((a ||| b:Nat) : Int):=by
 unfold FU
 have:=ac8 IntKind.u64.bits a b
 rw[this]
 have e:(a ||| b) % 2 ^ IntKind.u64.bits=a ||| b:=Nat.mod_eq_of_lt (show a ||| b<2 ^ 64 by omega)
 rw[e,fG (by omega) (by omega)]
theorem Sw {p i:Nat} (hp:p<1000) (hi:i<8) : vJ ((List.replicate 8 0).set i p)∧val ((List.replicate 8 0).set i p)=65536 ^ i * p:=by
 refine⟨Tt ⟨rfl,fun x hx=>by rw[List.eq_of_mem_replicate hx]; decide⟩ (by omega), ?_⟩
 have h:=Lg (l:=List.replicate 8 0) (i:=i) p (by simpa using hi)
 have h0:(List.replicate 8 0).getD i 0=0:=by
  have:i=0∨i=1∨i=2∨i=3∨i=4∨i=5∨i=6∨i=7:=by omega
  rcases this with rfl | rfl | rfl | rfl | rfl | rfl | rfl | rfl <;> rfl
 have h1:val (List.replicate 8 0)=0:=by decide
 rw[h0,h1] at h
 omega
theorem VR {T:Nat} {co ct ca:au} (ho:Wh co) (ht:Qu ct) (hab:Qa ca) : UK fun args M Q=>∃ a0 a1,args=[a0,a1]∧Av co ct T ca a0 a1 M Q:=by
 intro M p jB Q hp hQ
 refine⟨_,_,rfl, ?_⟩
 unfold Av
 refine aI (fun m ys M3=>∃ c:Nat,m=38 - c∧ys=[N .u64 (jT p jB c:Nat),N .i64 (36 - (c:Int))]∧c≤37∧ag [] M M3) _ ⟨0,rfl,rfl,by omega,ag.refl _ _⟩ ?_
 rintro next m ys M3 hnext ⟨c,rfl,rfl,hc,k3⟩
 simp only[dC,jC]
 have hr:=Q6 p jB c hc
 rw[dL]
 refine aN (fun h=>?_) fun h=>?_
 ·have acL:c<37:=by have:=of_decide_eq_true h; omega
  rw[bL]
  refine aW (fun xs M4=>xs=[N .u64 (jT p jB (c + 1) : Nat)]∧ag [] M M4) ?_ ?_
  ·rintro xs M4 ⟨rfl,k4⟩
   simp only[dC]
   rw[gB,bO (by omega) (by omega)]
   exact hnext _ _ _ (by omega) ⟨c + 1,rfl,by congr 2; congr 1; omega,by omega,k4⟩
  intro J hJ
  rw[show(36 - (c:Int))=((36 - c:Nat) : Int) by omega,gU,fG (by omega) (by omega),pE]
  refine⟨by omega, ?_⟩
  have acS:2 ^ (36 - c)<2 ^ 37:=Nat.pow_lt_pow_right (by decide) (by omega)
  have hsh:IX .u64 1 ((36 - c:Nat) : Int)=((2 ^ (36 - c) : Nat) : Int):=by
   unfold IX
   rw[Int.toNat_natCast,Nat.min_eq_left (show 36 - c≤IntKind.u64.bits from by show 36 - c≤64; omega),Int.one_mul,show((2:Int) ^ (36 - c))=((2 ^ (36 - c) : Nat) : Int) by rw[Int.natCast_pow]; rfl]
   have hwr:∀ q:Nat,q<2 ^ 37→IntKind.u64.wrap (q:Int)=(q:Int):=fun q h=>fG (by omega) (by omega)
   exact hwr _ acS
  have htl:jT p jB c ||| 2 ^ (36 - c)<2 ^ 37:=Nat.or_lt_two_pow hr acS
  rw[hsh,fJ,orN (by omega) (by omega) (by omega)]
  have hstep:jT p jB (c + 1)=match big p jB (jT p jB c ||| 2 ^ (36 - c)) with
   | true=>jT p jB c
   | false=>jT p jB c ||| 2 ^ (36 - c):=rfl
  generalize jT p jB c ||| 2 ^ (36 - c)=t at *
  have ht2:t * t<2 ^ 74:=by
   have:t * t≤(2 ^ 37 - 1) * (2 ^ 37 - 1):=Nat.mul_le_mul (by omega) (by omega)
   omega
  have ht3:t * t * t<2 ^ 111:=by
   have:t * t * t≤(2 ^ 74 - 1) * (2 ^ 37 - 1):=Nat.mul_le_mul (by omega) (by omega)
   omega
  refine ho (by omega) fun M4 l4 k4 d4 v4=>?_
  refine ho (by omega) fun M5 l5 k5 d5 v5=>?_
  refine ht d4 d5 (by rw[v4,v5]; omega) fun M6 l6 k6 d6 v6=>?_
  rw[v4,v5] at v6
  have zl:(iW.row (List.replicate 8 0)).length=8:=by rw[gu,List.length_replicate]
  refine Oa (K:=fun t ZK=>_) (z:=iW.row (List.replicate 8 0)) 8 zl (by rw[gu,d6.1]) (iW.fT _) fun M7 k7 n7 l7=>?_
  refine kR (iW.row (List.replicate 8 0)) fun M8 k8 n8 e8=>?_
  have n78:=k8.ay n7 l7 (by simp)
  rw[gU,fG (by omega) (by omega),dY (i:=4) (by rfl) (by decide),Ev n8 (by decide)]
  have k07:ag [] M M7:=k3.trans (k4.trans (k5.trans (k6.trans k7)))
  have k37:ag [] M3 M7:=k4.trans (k5.trans (k6.trans k7))
  have n9:(M8.put M7.next (.row (iW.row ((List.replicate 8 0).set 4 p)) false T 0)).heap M7.next=some (.row (iW.row ((List.replicate 8 0).set 4 p)) false T 0):=aB _
  have k9:ag [] M7 (M8.put M7.next (.row (iW.row ((List.replicate 8 0).set 4 p)) false T 0)):=k8.new _ (Nat.le_refl _)
  have n79:=k9.ay n7 l7 (by simp)
  have e9:(M8.put M7.next (.row (iW.row ((List.replicate 8 0).set 4 p)) false T 0)).next=M7.next + 1:=e8
  generalize M8.put M7.next (.row (iW.row ((List.replicate 8 0).set 4 p)) false T 0)=M9 at *
  rw[bL]
  refine aW (fun xs M10=>xs=[]∧ag [] M M10∧∃ la lb:List Nat,M10.heap M6.next=some (.row (iW.row la) false T 0)∧M10.heap M7.next=some (.row (iW.row lb) false T 0)∧vJ la∧vJ lb∧decide (val la > val lb)=big p jB t) ?_ ?_
  ·rintro xs M10 ⟨rfl,k10,la,lb,na,nb,da,db,hbig⟩
   rw[aP na (by rw[gu,da.1]),aP nb (by rw[gu,db.1])]
   refine hab da db fun M11 k11=>?_
   rw[bX,hbig]
   refine aN (fun h=>?_) fun h=>?_
   ·have:big p jB t=false:=by simpa using h
    rw[this] at hstep
    exact hJ _ _ ⟨by rw[hstep],k10.trans k11⟩
   ·have:big p jB t=true:=by simpa using h
    rw[this] at hstep
    exact hJ _ _ ⟨by rw[hstep],k10.trans k11⟩
  ·intro J2 hJ2
   refine aN (fun hcu=>?_) fun hcu=>?_
   ·subst hcu
    rw[aP n79 (by rw[gu,d6.1])]
    refine ho (by omega) fun M10 l10 k10 d10 v10=>?_
    have adk:=k10.ay n79 (by omega) (by simp)
    have afG:=k10.ay n9 (by omega) (by simp)
    rw[aP adk (by rw[gu,d6.1])]
    refine⟨rfl, ?_⟩
    refine ht d6 d10 (by rw[v6,v10]; omega) fun M11 l11 k11 d11 v11=>?_
    rw[v6,v10] at v11
    have afV:=k11.ay adk (Nat.lt_of_lt_of_le (by omega:M6.next<M9.next) k10.next) (by simp)
    have afX:=k11.ay afG (Nat.lt_of_lt_of_le (by omega:M7.next<M9.next) k10.next) (by simp)
    rw[qi afV (by rw[gu,d11.1]) (by rw[gu,d6.1]) (iW.fT _),gN]
    refine⟨iW.row (List.replicate 8 0),rfl, ?_⟩
    rw[qi (bJ afX (by omega)) (by rw[gu,List.length_replicate]) (by rw[gu,List.length_set,List.length_replicate]) (iW.fT _),gU,fG (by omega) (by omega),dY (i:=6) (by rfl) (by decide),Ev (aB _) (by decide)]
    obtain⟨dw,vw⟩:=Sw (p:=p) (i:=6) hp (by decide)
    refine hJ2 _ _ ⟨rfl, ?_,l11,(List.replicate 8 0).set 6 p, ?_,aB _,d11,dw, ?_⟩
    ·have n3x:=k37.next
     have n6x:M.next≤M6.next:=Nat.le_trans k3.next (Nat.le_trans k4.next (Nat.le_trans k5.next k6.next))
     have n7x:=k7.next
     exact(((k07.trans (k9.trans (k10.trans k11))).new _ n6x).new _ (by omega)).new _ (by omega)
    ·exact bJ (bJ (aB _) (by omega)) (by omega)
    ·unfold big
     rw[v11,vw,Nat.mul_comm (65536 ^ 6)]
   ·subst hcu
    obtain⟨dw,vw⟩:=Sw (p:=p) (i:=4) hp (by decide)
    refine hJ2 _ _ ⟨rfl,k07.trans k9,l6,_,n79,n9,d6,dw, ?_⟩
    unfold big
    rw[v6,vw,Nat.mul_comm (65536 ^ 4)]
 ·have acL:c=37:=by have:=of_decide_eq_false h; omega
  subst acL
  rw[gU,wrap_u32]
  exact hQ M3 k3
theorem Zk:(mK.take 8).map (fun p=>((jT p false 37 % 4294967296:Nat) : Int))=hW:=by decide +kernel
theorem ZP:mK.map (fun p=>((jT p true 37 % 4294967296:Nat) : Int))=kW:=by decide +kernel
theorem acb:∀ p∈mK,p<1000:=by decide
theorem JP {M:RM} {v:AV} {l:List Nat} (h:Sl MP M v l) {i:Nat} (hi:i<l.length) {K:AV→Prop} : (aM v (N .i64 (i:Int)) 1 fun t=>ah M t K)=K (N .i64 (l[i] : Nat)):=by
 obtain⟨c,o,_,_,hix,hld⟩:=h.Hl (i:Int) hi
 rw[hix,bT,hld _ rfl]
 exact propext ⟨fun⟨v,e,k⟩=>by cases e; exact k,fun k=>⟨_,rfl,k⟩⟩
theorem RX {TI TU:Nat} {cp cr:au} (hp:LP TI cp) (hr:UK cr) : Me TU fun args M Q=>args=[]∧uM cp TU cr M Q:=by
 intro M Q hQ
 refine⟨rfl, ?_⟩
 unfold uM
 refine hp fun pv M1 k1 hpv=>?_
 refine BR ?_
 show aO _ _ _ _
 rw[aG]
 have k2' : ag [] M1 (M1.push (.row [] false TU 0)):=(ag.refl _ _).push _
 have o2:Ow dD (M1.push (.row [] false TU 0)) M1.next TU (.slc M1.next 0 0 (.ex 0)) []:=Ow.lit dD M1
 generalize M1.push (.row [] false TU 0)=M2 at *
 refine BR ?_
 show aO _ _ _ _
 rw[aG]
 have k3' : ag [] M2 (M2.push (.row [] false TU 0)):=(ag.refl _ _).push _
 have o3:Ow dD (M2.push (.row [] false TU 0)) M2.next TU (.slc M2.next 0 0 (.ex 0)) []:=Ow.lit dD M2
 have o23:Ow dD (M2.push (.row [] false TU 0)) M1.next TU (.slc M1.next 0 0 (.ex 0)) []:=Own.keep o2 k3' (by simp)
 generalize M2.push (.row [] false TU 0)=M3 at *
 have k13:=k2'.trans k3'
 let F:Nat→Int:=fun p=>((jT p false 37 % 4294967296:Nat) : Int)
 let G:Nat→Int:=fun p=>((jT p true 37 % 4294967296:Nat) : Int)
 refine aI (fun m ys M4=>∃ (i:Nat) (av bv:AV),m=64 - i∧ys=[av,bv,N .i64 (i:Int)]∧i≤64∧ag [] M1 M4∧Ow dD M4 M1.next TU av ((mK.take (min i 8)).map F)∧Ow dD M4 M1.next TU bv ((mK.take i).map G)∧(∀ x∈aH av,x ∉ aH bv)) _
  ⟨0,_,_,rfl,rfl,by omega,k13,o23,Own.mono o3 k2'.next,fun x hx hm=>by
   simp[aH] at hx hm
   have:=(Own.blk o2 x (by simp[aH]; exact hx)).2
   omega⟩ ?_
 rintro next m ys M4 hnext ⟨i,av,bv,rfl,rfl,hi,k4,oa,ob,hd⟩
 simp only[dC,jC]
 have ae4:Sl MP M4 pv mK:=dE.keep hpv k4 (by simp)
 rw[pV 64 (by rfl)]
 refine aN (fun hc=>?_) fun hc=>?_
 ·have nX:i<64:=of_decide_eq_true hc
  have hil:i<mK.length:=by rw[Bc]; exact nX
  have hpl:=acb mK[i] (List.getElem_mem hil)
  rw[bL]
  refine aW (fun xs M7=>∃ av' bv',xs=[av',bv']∧ag [] M1 M7∧Ow dD M7 M1.next TU av' ((mK.take (min (i + 1) 8)).map F)∧Ow dD M7 M1.next TU bv' ((mK.take (i + 1)).map G)∧(∀ x∈aH av',x ∉ aH bv')) ?_ ?_
  ·rintro xs M7 ⟨av',bv',rfl,k7,h1,h2,h3⟩
   simp only[dC,jC]
   rw[kK 1 (by omega) (by omega) (by rfl)]
   exact hnext _ _ _ (by omega) ⟨i + 1,av',bv',rfl,rfl,by omega,k7,h1,h2,h3⟩
  intro J hJ
  rw[bL]
  refine aW (fun xs M7=>∃ av',xs=[av']∧ag [] M1 M7∧Ow dD M7 M1.next TU av' ((mK.take (min (i + 1) 8)).map F)∧Ow dD M7 M1.next TU bv ((mK.take i).map G)∧(∀ x∈aH av',x ∉ aH bv)) ?_ ?_
  ·rintro xs M7 ⟨av',rfl,k7,h1,h2,h3⟩
   simp only[dC]
   have UD:Sl MP M7 pv mK:=dE.keep hpv k7 (by simp)
   rw[JP UD hil]
   refine hr hpl fun M8 k8=>?_
   rw[gD (by rfl) (by rfl) (by rfl),aG]
   have h28:Ow dD M8 M1.next TU bv ((mK.take i).map G):=Own.keep h2 k8 (by simp)
   have h18:Ow dD M8 M1.next TU av' ((mK.take (min (i + 1) 8)).map F):=Own.keep h1 k8 (by simp)
   have k78:=k7.trans k8
   refine iY (E:=dD) (a:=G mK[i]) h28 k78.next (by decide) (by simp; omega) (by simp; omega) fun v9 M9 o9 k9 nx9 hv9=>?_
   refine hJ _ _ ⟨av',v9,rfl,ag.own k78 k9 (fun x hx=>(Own.blk h28 x hx).1),Own.keep h18 k9 h3, ?_,fun x hx hm=>?_⟩
   ·rw[List.take_succ_eq_append_getElem hil,List.map_append]
    exact o9
   ·rcases hv9 with rfl | h9
    ·exact h3 x hx hm
    ·have:=h9 x hm
     have:=(Own.blk h18 x hx).2
     omega
  ·intro J2 hJ2
   rw[pV 8 (by rfl)]
   refine aN (fun hc8=>?_) fun hc8=>?_
   ·have hi8:i<8:=of_decide_eq_true hc8
    rw[JP ae4 hil]
    refine hr hpl fun M5 k5=>?_
    rw[gD (by rfl) (by rfl) (by rfl),aG]
    have oa5:Ow dD M5 M1.next TU av ((mK.take (min i 8)).map F):=Own.keep oa k5 (by simp)
    have ob5:Ow dD M5 M1.next TU bv ((mK.take i).map G):=Own.keep ob k5 (by simp)
    have k45:=k4.trans k5
    refine iY (E:=dD) (a:=F mK[i]) oa5 k45.next (by decide) (by simp; omega) (by simp; omega) fun v6 M6 o6 k6 nx6 hv6=>?_
    refine hJ2 _ _ ⟨v6,rfl,ag.own k45 k6 (fun x hx=>(Own.blk oa5 x hx).1), ?_,Own.keep ob5 k6 (fun x hx hm=>hd x hm hx),fun x hx hm=>?_⟩
    ·rw[Nat.min_eq_left (by omega:i + 1≤8),List.take_succ_eq_append_getElem hil,List.map_append]
     rw[Nat.min_eq_left (by omega:i≤8)] at o6
     exact o6
    ·rcases hv6 with rfl | h6
     ·exact hd x hx hm
     ·have:=h6 x hx
      have:=(Own.blk ob5 x hm).2
      omega
   ·have hi8:¬ i<8:=of_decide_eq_false hc8
    refine hJ2 _ _ ⟨av,rfl,k4, ?_,ob,hd⟩
    rw[Nat.min_eq_right (by omega:8≤i + 1)]
    rw[Nat.min_eq_right (by omega:8≤i)] at oa
    exact oa
 ·have nX:i=64:=by have:=of_decide_eq_false hc; omega
  subst nX
  rw[Nat.min_eq_right (by omega:8≤64)] at oa
  have e1:(mK.take 8).map F=hW:=Zk
  have e2:(mK.take 64).map G=kW:=by
   rw[List.take_of_length_le (by rw[Bc]; omega)]; exact ZP
  rw[e1] at oa
  rw[e2] at ob
  exact hQ av bv M4 (k1.trans k4) ((LJ oa (by decide)).mono k1.next) ((LJ ob (by decide)).mono k1.next)
end Go.Ab.Sha
namespace Go.Ab.Vc
open Go Go.Ab Go.Ab.Vl
def SL:List Str→Option (List Ln)
 | []=>some []
 | s :: r=>if s=[] then SL r else if 912<s.length then none else match lN eG s with
   | none=>none
   | some L=>(SL r).map (L :: ·)
theorem QS:∀ (l:List (Str × Int)) (acc ls:List Li),gI eG l acc=.ok ls→∃ t,SL (l.map Prod.fst)=some t∧ls.map Prod.fst=acc.map Prod.fst++t
 | [],acc,ls,h=>by cases h; exact⟨[],rfl,by simp⟩
 | (s,k) :: r,acc,ls,h=>by
   rw[gI] at h
   rw[List.map_cons,SL]
   dsimp only
   split at h
   ·rename_i h0; rw[if_pos h0]; exact QS r acc ls h
   ·rename_i h0; rw[if_neg h0]
    split at h
    ·cases h
    ·rename_i h1; rw[if_neg h1]
     cases hL:lN eG s with
     | none=>rw[hL] at h; cases h
     | some L =>
       rw[hL] at h
       obtain⟨t,h2,h3⟩:=QS r _ ls h
       exact⟨L :: t,by rw[h2]; rfl,by rw[h3]; simp⟩
abbrev cc (c:Cd) : Str × List Fd:=(c.1,c.2.1)
theorem Qz:∀ (l:List Li) (ns:List Str) (acc fs:List Fd),mY l ns acc=.ok fs→fs.length=acc.length + l.length
 | [],ns,acc,fs,h=>by cases h; simp
 | x :: l,ns,acc,fs,h=>by
   rw[mY] at h
   split at h
   ·cases h
   ·have:=Qz l _ _ fs h; simp at this ⊢; omega
theorem MC (h:Str→Str) : ∀ (css:List (List Li)) (acc cs:List Cd),lq h css acc=.ok cs→∀ c∈cs,c∈acc∨∃ l∈css,uk h l=.ok c
 | [],acc,cs,hc,c,hm=>by cases hc; exact .inl hm
 | l :: css,acc,cs,hc,c,hm=>by
   rw[lq] at hc
   cases hx:uk h l with
   | error e=>rw[hx] at hc; cases hc
   | ok d =>
     rw[hx] at hc
     rcases MC h css _ cs hc c hm with h1 | ⟨l',h1,h2⟩
     ·rcases List.mem_append.1 h1 with h1 | h1
      ·exact .inl h1
      ·simp at h1; subst h1; exact .inr ⟨l,List.mem_cons_self ..,hx⟩
     ·exact .inr ⟨l',List.mem_cons_of_mem _ h1,h2⟩
theorem ZN {h:Str→Str} {l:List Li} {c:Cd} (hc:uk h l=.ok c) : c.2.1.length≤l.length:=by
 cases l with
 | nil=>cases hc
 | cons b l =>
   unfold uk at hc
   dsimp only at hc
   cases hf:mY l [] [] with
   | error e=>rw[hf] at hc; cases hc
   | ok fs =>
     rw[hf] at hc
     cases hc
     have:=Qz _ _ _ _ hf
     simp at this ⊢; omega
theorem aa9 {h:Str→Str} {s:Str} {cs:List Cd} (hi:sG h s=.ok cs) : ∀ c∈cs,c.2.1.length≤s.length + 1:=by
 intro c hc
 unfold sG at hi
 cases hr:Ba eG s with
 | bad k e=>rw[hr] at hi; cases hi
 | ok ls =>
   rw[hr] at hi
   dsimp only at hi
   have hl:=OY hr
   cases hcu:ni (ls.length + 1) ls [] with
   | error e=>rw[hcu] at hi; cases hi
   | ok css =>
     rw[hcu] at hi
     rcases MC h css [] cs hi c hc with h1 | ⟨l,h1,h2⟩
     ·cases h1
     ·have h3:=ZN h2
      rcases IJ _ _ _ _ hcu l h1 with h4 | ⟨_,h4,_⟩
      ·cases h4
      ·omega
def Pl (s:Str) : Prop:=∀ c∈s,gW c=true
theorem Pl.nil:Pl []:=by simp[Pl]
theorem Pl.cons {c:UInt8} {a:Str} (h:gW c=true) (k:Pl a) : Pl (c :: a):=fun d hd=>by
 rcases List.mem_cons.1 hd with rfl | hd
 ·exact h
 ·exact k d hd
structure OkL (L:Ln) : Prop where
 print:(kH eG L).2=0
 g:L.g≠jL
 n:uL L.n=false
def PE:Str→Prop
 | []=>True
 | c :: t=>(c.toNat=13→∃ d u,t=d :: u∧d.toNat=10)∧PE t
def N13 (s:Str) : Prop:=∀ c∈s,c.toNat≠13
theorem PE.pre:∀ {a b:Str},N13 a→PE b→PE (a++b)
 | [],b,_,h=>h
 | c :: a,b,hn,h=>⟨fun e=>absurd e (hn c (List.mem_cons_self ..)),PE.pre (fun d hd=>hn d (List.mem_cons_of_mem _ hd)) h⟩
def dv (l:Str) : Nat:=l.foldl (fun n c=>10 * n + (c.toNat - 48)) 0
theorem Mo (l:Str) (c:UInt8) : dv (l++[c])=10 * dv l + (c.toNat - 48):=by simp[dv]
theorem Br {n:Nat} (h:n<10) : (UInt8.ofNat (48 + n)).toNat=48 + n:=by
 rw[UInt8.toNat_ofNat',Nat.mod_eq_of_lt (by omega)]
theorem ab8:∀ u:Nat,dv (Lib.decDigits u)=u:=by
 intro u
 induction u using Nat.strongRecOn with
 | _ u ih =>
   rw[Lib.decDigits]
   by_cases h:u<10
   ·rw[dif_pos h]
    show 10 * 0 + ((UInt8.ofNat (48 + u)).toNat - 48)=u
    rw[Br h]; omega
   ·rw[dif_neg h,Mo,ih (u / 10) (by omega),Br (by omega)]; omega
theorem X0:∀ u:Nat,∀ c∈Lib.decDigits u,48≤c.toNat∧c.toNat≤57:=by
 intro u
 induction u using Nat.strongRecOn with
 | _ u ih =>
   rw[Lib.decDigits]
   by_cases h:u<10
   ·rw[dif_pos h]
    intro c hc
    simp at hc; subst hc
    have:=Br h
    have e:UInt8.ofNat (48 + u)=48 + UInt8.ofNat u:=by simp
    rw[← e,this]; omega
   ·rw[dif_neg h]
    intro c hc
    rcases List.mem_append.1 hc with hc | hc
    ·exact ih (u / 10) (by omega) c hc
    ·simp only[List.mem_singleton] at hc
     rw[hc,Br (by omega)]; omega
def scan:Bool→Str→Option Bool
 | q,[]=>some q
 | q,c :: t=>if c=35∧q=false then none else scan (if c=34 then !q else q) t
theorem ik:∀ (q:Bool) (a b:Str),scan q (a++b)=(scan q a).bind fun q'=>scan q' b
 | q,[],b=>rfl
 | q,c :: a,b=>by
   rw[List.cons_append,scan,scan]
   split
   ·rfl
   ·exact ik _ a b
theorem LV:∀ (q:Bool) (a:Str),(∀ c∈a,c≠34∧c≠35)→scan q a=some q
 | q,[],_=>rfl
 | q,c :: a,h=>by
   obtain⟨h1,h2⟩:=h c (List.mem_cons_self ..)
   rw[scan,if_neg (fun hh=>h2 hh.1),if_neg h1]
   exact LV q a fun d hd=>h d (List.mem_cons_of_mem _ hd)
theorem Xq:∀ (a:Str),(∀ c∈a,c≠34)→scan true a=some true
 | [],_=>rfl
 | c :: a,h=>by
   rw[scan,if_neg (fun hh=>by cases hh.2),if_neg (h c (List.mem_cons_self ..))]
   exact Xq a fun d hd=>h d (List.mem_cons_of_mem _ hd)
theorem SV {c:UInt8} (h:fD.contains c=true) : c≠34∧c≠35∧c≠46∧c≠59:=by
 refine⟨?_, ?_, ?_, ?_⟩ <;> intro e <;> subst e <;> exact absurd h (by decide)
theorem Qk {v:Str} (h:mg v=false) (q:Bool) (hq:q=false) : scan q (q4 v)=some false:=by
 subst hq
 have h34:=(YV h).1
 unfold q4
 split
 ·rw[List.append_assoc,ik,show scan false [34]=some true from rfl,Option.bind_some,ik,Xq v (fun c hc=>(h34 c hc).2)]
  rfl
 ·rename_i h4
  refine LV false v fun c hc=>⟨(h34 c hc).2,fun e=>h4 ?_⟩
  unfold tO
  rw[List.any_eq_true]
  exact⟨c,hc,by rw[e]; decide⟩
theorem NA:∀ {vs:List Str},(∀ v∈vs,mg v=false)→scan false (qy vs)=some false
 | [],_=>rfl
 | v :: vs,h=>by
   rw[show qy (v :: vs)=[44]++(q4 v++qy vs) by simp[qy],ik,show scan false [44]=some false from rfl,Option.bind_some,ik,Qk (h v (List.mem_cons_self ..)) false rfl,Option.bind_some]
   exact NA fun w hw=>h w (List.mem_cons_of_mem _ hw)
theorem Xc {vs:List Str} (h:∀ v∈vs,mg v=false) : scan false (uf vs)=some false:=by
 cases vs with
 | nil=>rfl
 | cons v vs =>
   rw[show uf (v :: vs)=q4 v++qy vs from rfl,ik,Qk (h v (List.mem_cons_self ..)) false rfl,Option.bind_some]
   exact NA fun w hw=>h w (List.mem_cons_of_mem _ hw)
theorem MI {n:Str} (h:iP eG n=true) : ∀ c∈n,fD.contains c=true:=(XL h).2.2
theorem Fb {n:Str} (h:iP eG n=true) : scan false n=some false:=LV false n fun c hc=>⟨(SV (MI h c hc)).1,(SV (MI h c hc)).2.1⟩
theorem Np:∀ {ps:List jh},(∀ p∈ps,og eG p=true)→scan false (ma ps)=some false
 | [],_=>rfl
 | p :: ps,h=>by
   obtain⟨h1,_,h3⟩:=Xe (h p (List.mem_cons_self ..))
   rw[show ma (p :: ps)=[59]++(p.1++([61]++(uf p.2++ma ps))) by simp[ma,uR]]
   rw[ik,show scan false [59]=some false from rfl,Option.bind_some,ik,Fb h1,Option.bind_some,ik,show scan false [61]=some false from rfl,Option.bind_some,ik,Xc h3,Option.bind_some]
   exact Np fun q hq=>h q (List.mem_cons_of_mem _ hq)
theorem Zv {L:Ln} (h:ou eG L=true) : scan false (fI L)=some false:=by
 obtain⟨h1,h2,_,_,h5⟩:=WQ h
 unfold fI oV
 have hr:scan false (L.n++ma L.ps)=some false:=by rw[ik,Fb h2,Option.bind_some,Np h5]
 split
 ·simpa using hr
 ·rename_i hg
  rcases h1 with h1 | h1
  ·exact absurd h1 hg
  ·rw[List.append_assoc,ik,Fb h1,Option.bind_some,ik,show scan false [46]=some false from rfl,Option.bind_some]; exact hr
theorem Xd {L:Ln} (h:ou eG L=true) : scan false (bS L).1=some false:=by
 have h1:=Zv h
 have h2:scan false (jL++[46]++fI L)=some false:=by rw[ik,show scan false (jL++[46])=some false from rfl,Option.bind_some,h1]
 unfold bS
 split
 ·split
  ·split
   ·exact h1
   ·exact h2
  ·exact h2
 ·exact h1
theorem X4 (n:Str) (k:Int) : ∃ b,iC n k=n++b∧(b=[]∨∃ t,b=35 :: t):=by
 unfold iC
 split
 ·exact⟨[],by simp,.inl rfl⟩
 ·exact⟨35 :: _,by simp; rfl,.inr ⟨_,rfl⟩⟩
end Go.Ab.Vc
namespace Go.Ab.Vc
open Go Go.Ab Go.Ab.Vl Go.Ab.Sm
theorem sub_one {s:Str} {i:Nat} (hi:i<s.length) (k1 k2:IntKind) : aR (St s) (some (N k1 (i:Int))) (some (N k2 ((i + 1:Nat) : Int)))=some (St [s[i]]):=by
 rw[tX (by omega) (by omega)]
 congr 2
 rw[show i + 1 - i=1 by omega,List.drop_eq_getElem_cons hi]; rfl
theorem adn {a b:Nat} (hb:0<b) (ha:a<9223372036854775808) {K:AV→Prop} : af .quo (N .i64 (a:Int)) (N .i64 (b:Int)) K=K (N .i64 ((a / b:Nat) : Int)):=by
 rw[Cb]
 have e:IntKind.i64.wrap ((a:Int).tdiv b)=((a / b:Nat) : Int):=by
  rw[show(a:Int).tdiv b=((a / b:Nat) : Int) by rw[Int.natCast_ediv]; exact Int.tdiv_eq_ediv_of_nonneg (by omega)]
  have:=Nat.div_le_self a b
  generalize a / b=q at *
  exact bO (by omega) (by omega)
 rw[e]
 exact propext ⟨fun h=>h.2,fun h=>⟨by omega,h⟩⟩
theorem acP {a b:Nat} (hb:0<b) {K:AV→Prop} : af .rem (N .i64 (a:Int)) (N .i64 (b:Int)) K=K (N .i64 ((a % b:Nat) : Int)):=by
 rw[tF,show((a:Int)).tmod b=((a % b:Nat) : Int) by rw[Int.natCast_emod]; exact Int.tmod_eq_emod_of_nonneg (by omega)]
 exact propext ⟨fun h=>h.2,fun h=>⟨by omega,h⟩⟩
abbrev UT:Str:=[48,49,50,51,52,53,54,55,56,57]
theorem aaw {n:Nat} (h:n<10) : UT[n]'(by simpa using h)=UInt8.ofNat (48 + n):=by
 have:∀ m:Fin 10,UT[m.1]'(by simp)=UInt8.ofNat (48 + m.1):=by decide
 exact this ⟨n,h⟩
theorem K8:∀ n:Nat,(Lib.decDigits n).length≤n + 1:=by
 intro u
 induction u using Nat.strongRecOn with
 | _ u ih =>
   rw[Lib.decDigits]
   by_cases h:u<10
   ·rw[dif_pos h]; simp
   ·rw[dif_neg h]
    have:=ih (u / 10) (by omega)
    simp; omega
def Qg (c:au) : Prop:=∀ (n:Nat),n<1000000000→∀ {M:RM} {Q:ak},(∀ M',ag [] M M'→Q (St (Lib.decDigits n)) M')→c [N .i64 (n:Int)] M Q
theorem Y1 {c:au} {n:Nat} (hn:n<1000000000) (hc:∀ m<n,∀ {M:RM} {Q:ak},(∀ M',ag [] M M'→Q (St (Lib.decDigits m)) M')→c [N .i64 (m:Int)] M Q) {M:RM} {Q:ak}
  (hQ:∀ M',ag [] M M'→Q (St (Lib.decDigits n)) M') : AR c (N .i64 (n:Int)) M Q:=by
 unfold AR
 rw[Lib.decDigits] at hQ
 rw[show(N .i64 (10:Int))=N .i64 ((10:Nat) : Int) from rfl,gQ]
 refine aN (fun h=>?_) fun h=>?_
 ·have h:n<10:=of_decide_eq_true h
  rw[dif_pos h,← aaw h] at hQ
  rw[add1 (by omega),sub_one (s:=UT) (i:=n) (by simpa using h),bK]
  exact hQ M (ag.refl _ _)
 ·have h:¬ n<10:=of_decide_eq_false h
  have hm:n % 10<10:=Nat.mod_lt _ (by decide)
  rw[dif_neg h,← aaw hm] at hQ
  rw[adn (by decide) (by omega),acP (by decide),acP (by decide),add1 (i:=n % 10) (by omega),sub_one (s:=UT) (i:=n % 10) (by simpa using hm),bK]
  refine hc (n / 10) (by omega) fun M' k=>?_
  rw[bK]
  refine⟨rfl, ?_⟩
  have:=K8 (n / 10)
  rw[bI]
  exact⟨by simp; omega,hQ M' k⟩
def Vt (c:au) : Prop:=∀ {M:RM} {s:Str} {k:Nat} {Q:ak},s.length≤1000000000→k<100000000→(∀ M',ag [] M M'→Q (St (iC s k)) M')→c [St s,N .i64 (k:Int)] M Q
theorem Qy {s:Str} {k:Nat} (hk:k<100000000) (h0:k≠0) : iC s k=s++[35]++Lib.decDigits (k + 1):=by
 unfold iC
 rw[if_neg (by omega),show((k:Int) + 1)=((k + 1:Nat) : Int) by omega,bO (by omega) (by omega)]
 unfold Lib.itoa
 rw[if_neg (by omega),Int.toNat_natCast]
theorem Wu {cn:au} (hn:Qg cn) : Vt fun args M Q=>∃ a0 a1,args=[a0,a1]∧yM cn a0 a1 M Q:=by
 intro M s k Q hs hk hQ
 refine⟨_,_,rfl, ?_⟩
 unfold yM
 rw[bH]
 refine aN (fun h=>?_) fun h=>?_
 ·have h:k=0:=by have:(k:Int)=0:=by simpa using h
                 omega
  subst h
  exact hQ M (ag.refl _ _)
 ·have h:k≠0:=fun e=>by subst e; simp at h
  rw[Qy hk h] at hQ
  rw[bI]
  refine⟨by simp; omega, ?_⟩
  rw[add1 (by omega)]
  refine hn (k + 1) (by omega) fun M' k'=>?_
  have:=K8 (k + 1)
  rw[bI]
  exact⟨by simp; omega,hQ M' k'⟩
theorem Nn {s:Str} {i:Nat} {q:Bool} (hi:i<s.length) (h:scan false (s.take i)=some q) : scan false (s.take (i + 1))=if s[i]=35∧q=false then none else some (if s[i]=34 then !q else q):=by
 rw[List.take_succ_eq_append_getElem hi,ik,h,Option.bind_some,scan]
 split
 ·rfl
 ·rfl
theorem Y4 {a b:Str} (h:scan false (a++b)≠none) : scan false a≠none:=by
 intro e
 rw[ik,e] at h
 exact h rfl
theorem WJ (a b:Str) : dv a≤dv (a++b):=by
 induction b generalizing a with
 | nil=>rw[List.append_nil]; exact Nat.le_refl _
 | cons c b ih =>
   have h1:=ih (a++[c])
   rw[Mo,List.append_assoc] at h1
   exact Nat.le_trans (by omega) h1
theorem XN:∀ n:Nat,0<n→∃ c t,Lib.decDigits n=c :: t∧c.toNat≠48:=by
 intro u
 induction u using Nat.strongRecOn with
 | _ u ih =>
   intro hu
   rw[Lib.decDigits]
   by_cases h:u<10
   ·rw[dif_pos h]
    exact⟨_,[],rfl,by rw[Br h]; omega⟩
   ·rw[dif_neg h]
    obtain⟨c,t,e,hc⟩:=ih (u / 10) (by omega) (by omega)
    exact⟨c,t++[UInt8.ofNat (48 + u % 10)],by rw[e]; rfl,hc⟩
def U6 (c:au) : Prop:=∀ {M:RM} {s:Str} {k:Nat} {Q:ak},s.length≤1000000→k<100000000→scan false s=some false→(∀ t,Q (.tup [St s,t]) M)→c [St (iC s k)] M Q
theorem Xl:U6 fun args M Q=>∃ a0,args=[a0]∧Ap a0 M Q:=by
 intro M s k Q hs hk hsc hQ
 refine⟨_,rfl, ?_⟩
 unfold Ap
 simp only[dN,CV,bL]
 -- the whole name
 obtain⟨z,hz,hzl,hzd⟩ : ∃ z:Str,z=iC s k∧z.length≤200000000∧(k=0∧z=s∨k≠0∧z=s++35 :: Lib.decDigits (k + 1)):=by
  refine⟨_,rfl, ?_, ?_⟩
  ·have:=Q8 s k (by omega); omega
  ·by_cases h:k=0
   ·subst h; exact .inl ⟨rfl,rfl⟩
   ·refine .inr ⟨h, ?_⟩; rw[Qy hk h]; simp
 rw[← hz]
 have hpre:∀ i,i≤s.length→z.take i=s.take i:=by
  intro i hi
  rcases hzd with⟨_,rfl⟩ | ⟨_,rfl⟩
  ·rfl
  ·rw[List.take_append_of_le_length hi]
 have hsz:s.length≤z.length:=by
  rcases hzd with⟨_,rfl⟩ | ⟨_,rfl⟩ <;> simp
 have hend:s.length<z.length→k≠0∧z=s++35 :: Lib.decDigits (k + 1):=by
  intro h
  rcases hzd with⟨_,rfl⟩ | h2
  ·omega
  ·exact h2
 refine aW (fun ys M'=>M'=M∧(s.length=z.length∧ys=[N .i64 (-1)]∨s.length<z.length∧ys=[N .i64 (s.length:Int)])) ?_ ?_
 ·rintro ys M' ⟨rfl,h⟩
  rcases h with⟨h1,rfl⟩ | ⟨h1,rfl⟩
  ·dsimp only[ae]
   rw[dO,show decide ((-1:Int)<0)=true from rfl,bC]
   have:z=s:=by
    rcases hzd with⟨_,rfl⟩ | ⟨_,rfl⟩
    ·rfl
    ·simp at h1
   rw[this]; exact hQ _
  ·dsimp only[ae]
   obtain⟨hk0,hzs⟩:=hend h1
   rw[dO,show decide ((s.length:Int)<0)=false from decide_eq_false (by omega),bq,add1 (by omega),bB (by omega),bK]
   have hdr:z.drop (s.length + 1)=Lib.decDigits (k + 1):=by rw[hzs,← List.drop_drop,List.drop_left]; rfl
   rw[hdr]
   obtain⟨c,t,hct,hc48⟩:=XN (k + 1) (by omega)
   have hdd:=X0 (k + 1)
   have hdv:=ab8 (k + 1)
   have hdl:=K8 (k + 1)
   generalize hD:Lib.decDigits (k + 1)=D at *
   have hDl:0<D.length:=by rw[hct]; simp
   rw[bi,dO]
   refine jF (p:=false) (fun _ kk hk2=>?_) ?_
   ·rw[show(N .i64 (0:Int))=N .i64 ((0:Nat) : Int) from rfl,gM hDl,By,bH]
    have:((D[0].toNat:Int) == 48)=false:=by
     have h0:D[0]=c:=by subst hct; rfl
     rw[h0]; simp; omega
    rw[this]; exact hk2
   rw[show(decide ((D.length:Int)<1) || false)=false by rw[decide_eq_false (by omega)]; rfl,bq]
   refine aI (fun m ys M2=>∃ i:Nat,m=D.length - i∧ys=[N .i64 ((dv (D.take i) : Nat) : Int),N .i64 (i:Int)]∧i≤D.length∧M2=M') _ ⟨0,rfl,rfl,Nat.zero_le _,rfl⟩ ?_
   rintro next m ys M2 hnext ⟨i,rfl,rfl,hi,rfl⟩
   dsimp only[ae]
   have hle:dv (D.take i)≤k + 1:=by
    have:=WJ (D.take i) (D.drop i)
    rw[List.take_append_drop,hdv] at this; exact this
   rw[bi,gQ]
   refine aN (fun hlt=>?_) fun hge=>?_
   ·have hlt:i<D.length:=of_decide_eq_true hlt
    obtain⟨d1,d2⟩:=hdd _ (List.getElem_mem hlt)
    have hst:dv (D.take (i + 1))=10 * dv (D.take i) + (D[i].toNat - 48):=by rw[List.take_succ_eq_append_getElem hlt,Mo]
    have hle2:dv (D.take (i + 1))≤k + 1:=by
     have:=WJ (D.take (i + 1)) (D.drop (i + 1))
     rw[List.take_append_drop,hdv] at this; exact this
    rw[gM hlt,By]
    obtain⟨e,he⟩ : ∃ e,e=D[i]:=⟨_,rfl⟩
    rw[← he] at d1 d2 hst ⊢
    rw[dO,show decide ((e.toNat:Int)<48)=false from decide_eq_false (by omega)]
    refine jF (p:=false) (fun _ kk hk2=>?_) ?_
    ·rw[gM hlt,By,gV,← he,show decide ((e.toNat:Int) > 57)=false from decide_eq_false (by omega)]; exact hk2
    refine jF (p:=false) (fun _ kk hk2=>?_) ?_
    ·rw[gM hlt,By,← he,gB,nC (by omega) (by omega),gU,bO (by omega) (by omega),gB,bO (by omega) (by omega)]
     rw[show(N .i64 ((9223372036854775807:Int) - ((e.toNat:Int) - 48)))=N .i64 ((9223372036854775807 - (e.toNat - 48) : Nat) : Int) by congr 2; omega]
     rw[show(N .i64 (10:Int))=N .i64 ((10:Nat) : Int) from rfl,adn (by decide) (by omega),xQ]
     have:¬ dv (D.take i) > (9223372036854775807 - (e.toNat - 48)) / 10:=by
      have:=Nat.div_le_div_right (c:=10) (show 10 * dv (D.take i)≤9223372036854775807 - (e.toNat - 48) by omega)
      rw[Nat.mul_div_cancel_left _ (by decide)] at this
      omega
     rw[decide_eq_false this]; exact hk2
    rw[show((false || false) || false)=false from rfl,bq]
    rw[kN,bO (by omega) (by omega),gM hlt,By,← he,gB,nC (by omega) (by omega),gU,bO (by omega) (by omega),bE,bO (by omega) (by omega),add1 (by omega)]
    exact hnext _ _ _ (by omega) ⟨i + 1,rfl,by rw[hst]; congr 2; omega,by omega,rfl⟩
   ·have hge:¬ i<D.length:=of_decide_eq_false hge
    have hi2:i=D.length:=by omega
    subst hi2
    rw[List.take_length,hdv,dO,show decide (((k + 1:Nat) : Int)<2)=false from decide_eq_false (by omega),bq]
    rw[Vl.fO hsz,hpre _ (Nat.le_refl _),List.take_length,bK]
    exact hQ _
 intro J hJ
 refine aI (fun m ys M2=>∃ (i:Nat) (q:Bool),m=z.length - i∧ys=[Bo q,N .i64 (-1),N .i64 (i:Int)]∧i≤s.length∧M2=M∧scan false (s.take i)=some q) _ ⟨0,false,rfl,rfl,Nat.zero_le _,rfl,rfl⟩ ?_
 rintro next m ys M2 hnext ⟨i,q,rfl,rfl,hi,rfl,hq⟩
 dsimp only[ae]
 rw[bi,gQ]
 refine aN (fun hlt=>?_) fun hge=>?_
 rotate_left 1
 ·have hge:¬ i<z.length:=of_decide_eq_false hge
  exact hJ _ _ ⟨rfl,.inl ⟨by omega,rfl⟩⟩
 have hlt:i<z.length:=of_decide_eq_true hlt
 have hsl:∀ h:i<s.length,z[i]=s[i]:=by
  intro h
  rcases hzd with⟨_,rfl⟩ | ⟨_,rfl⟩
  ·rfl
  ·exact List.getElem_append_left h
 have hat:i=s.length→z[i]=35:=by
  intro h
  obtain⟨_,h2⟩:=hend (by omega)
  subst h2 h
  simp
 have hn:∀ h:i<s.length,¬ (s[i]=35∧q=false):=by
  intro h hc
  have h1:=Nn h hq
  rw[if_pos hc] at h1
  refine Y4 (a:=s.take (i + 1)) (b:=s.drop (i + 1)) ?_ h1
  rw[List.take_append_drop,hsc]; simp
 refine aW (fun ys M'=>M'=M2∧∃ q',ys=[Bo q',N .i64 (-1)]∧i<s.length∧scan false (s.take (i + 1))=some q') ?_ ?_
 ·rintro ys M' ⟨rfl,q',rfl,h1,h2⟩
  dsimp only[ae]
  rw[add1 (by omega)]
  exact hnext _ _ _ (by omega) ⟨i + 1,q',rfl,rfl,by omega,rfl,h2⟩
 intro J0 hJ0
 refine aW (fun ys M'=>M'=M2∧ys=[Bo (if z[i]=34 then !q else q)]) ?_ ?_
 rotate_left 1
 ·intro J1 hJ1
  rw[gM hlt,By,bH]
  refine aN (fun h=>?_) fun h=>?_
  ·have h:z[i]=34:=by
    have:((z[i].toNat:Int))=34:=by simpa using h
    exact UInt8.toNat_inj.1 (by show z[i].toNat=34; omega)
   rw[bX]
   exact hJ1 _ _ ⟨rfl,by rw[if_pos h]⟩
  ·have h:¬ z[i]=34:=fun e=>by rw[e] at h; simp at h
   exact hJ1 _ _ ⟨rfl,by rw[if_neg h]⟩
 rintro ys M' ⟨rfl,rfl⟩
 dsimp only[ae]
 rw[gM hlt,By,bH]
 have e35:((z[i].toNat:Int) == 35)=decide (z[i]=35):=by
  by_cases h:z[i]=35
  ·rw[h]; rfl
  ·rw[decide_eq_false h]
   have:¬ (z[i].toNat:Int)=35:=fun e=>h (UInt8.toNat_inj.1 (by show z[i].toNat=35; omega))
   simpa using this
 rw[e35]
 refine qw (p:=!(if z[i]=34 then !q else q)) (fun _ kk hk=>by rw[bX]; exact hk) ?_
 refine aN (fun h=>?_) fun h=>?_
 ·simp only[Bool.and_eq_true,decide_eq_true_eq] at h
  obtain⟨h1,h2⟩:=h
  rw[if_neg (by rw[h1]; decide)] at h2
  have h2:q=false:=by simpa using h2
  have hi2:i=s.length:=by
   rcases Nat.lt_or_ge i s.length with h | h
   ·exact absurd ⟨(hsl h).symm.trans h1,h2⟩ (hn h)
   ·omega
  subst hi2
  exact hJ _ _ ⟨rfl,.inr ⟨hlt,rfl⟩⟩
 ·have hi2:i<s.length:=by
   rcases Nat.lt_or_ge i s.length with h3 | h3
   ·exact h3
   ·have e:i=s.length:=by omega
    have aeW:=hat e
    have hqf:q=false:=by
     rw[e,List.take_length,hsc] at hq
     exact(Option.some.inj hq).symm
    rw[aeW,hqf] at h
    exact absurd h (by decide)
  have h1:=Nn hi2 hq
  rw[if_neg (hn hi2)] at h1
  exact hJ0 _ _ ⟨rfl,_,by rw[hsl hi2],hi2,h1⟩
theorem ab0 {f g:Prop→Prop} {k:Prop} : uH (Bo true) false f g k=g k:=rfl
theorem ab1 {f g:Prop→Prop} {k:Prop} : uH (Bo false) false f g k=f k:=rfl
def Zc (c:au) : Prop:=∀ {M:RM} {s:Str} {Q:ak},(∀ M',ag [] M M'→Q (Bo (uU s)) M')→c [St s] M Q
theorem ZQ {TS:Nat} : Zc fun args M Q=>∃ a0,args=[a0]∧wR TS a0 M Q:=by
 intro M s Q hQ
 refine⟨_,rfl, ?_⟩
 unfold wR
 refine⟨gH.row qd,rfl, ?_⟩
 dsimp only
 rw[aG]
 have k1:ag [] M (M.push (.row (gH.row qd) false TS 0)):=(ag.refl _ _).push _
 have hs:Sl gH (M.push (.row (gH.row qd) false TS 0)) (.slc M.next 0 9 (.ex 9)) qd:=Sl.new qd
 generalize M.push (.row (gH.row qd) false TS 0)=M1 at *
 rw[MO] at hQ
 refine aI (fun m ys M2=>∃ i:Nat,m=9 - i∧ys=[N .i64 (i:Int)]∧i≤9∧M2=M1∧((qd.take i).any fun x=>s == x)=false) _ ⟨0,rfl,rfl,Nat.zero_le _,rfl,rfl⟩ ?_
 rintro next m ys M2 hnext ⟨i,rfl,rfl,hi,rfl,ha⟩
 dsimp only[ae]
 rw[dE.len hs,show qd.length=9 from rfl,gQ]
 refine aN (fun hlt=>?_) fun hge=>?_
 ·have hlt:i<9:=of_decide_eq_true hlt
  have hl2:i<qd.length:=hlt
  rw[EH hs hl2,dm]
  refine aN (fun h=>?_) fun h=>?_
  ·have:(qd.any fun x=>s == x)=true:=by
    rw[List.any_eq_true]
    have he:qd[i]=s:=by simpa using h
    exact⟨qd[i],List.getElem_mem hl2,by simp[he]⟩
   rw[this] at hQ; exact hQ _ k1
  ·rw[add1 (by omega)]
   refine hnext _ _ _ (by omega) ⟨i + 1,rfl,rfl,by omega,rfl, ?_⟩
   rw[List.take_succ_eq_append_getElem hl2,List.any_append,ha]
   have:¬ s=qd[i]:=fun e=>by rw[e] at h; simp at h
   simp[this]
 ·have hge:¬ i<9:=of_decide_eq_false hge
  have hi9:i=9:=by omega
  subst hi9
  rw[show qd.take 9=qd from rfl] at ha
  rw[ha] at hQ; exact hQ _ k1
def QN (c:au) : Prop:=∀ {M:RM} {cs:List AV} {L:Ln} {k:Int} {S:Nat→Prop} {Q:ak},gq.rel M cs (L,k) S→LB 1000000 L→(fI L).length≤140737488355328→(∀ M',ag [] M M'→Q (oP (bS L)) M')→c [.agg cs] M Q
theorem U5 {TL TP:Nat} {cp ct cu ce:au} (hp:QF cp) (ht:Zc ct) (hu:BG (Bo false) (Bo true) cu) (he:Iu ce) : QN fun args M Q=>∃ a0,args=[a0]∧u6 TL TP cp ct cu ce a0 M Q:=by
 intro M cs L k S Q hrel hB hPl hQ
 obtain⟨v,rfl,hps,hall,_⟩:=vZ hrel
 refine⟨_,rfl, ?_⟩
 unfold u6
 rw[fU hall (by simp),aG]
 have k1:ag [] M (M.push (.row [St L.g,St L.n,v,St L.v,N .i64 k] false TL 0)):=(ag.refl _ _).push _
 have h1:(M.push (.row [St L.g,St L.n,v,St L.v,N .i64 k] false TL 0)).heap M.next=some (.row [St L.g,St L.n,v,St L.v,N .i64 k] false TL 0):=RM.aV _
 have n1:(M.push (.row [St L.g,St L.n,v,St L.v,N .i64 k] false TL 0)).next=M.next + 1:=bZ _
 generalize M.push (.row [St L.g,St L.n,v,St L.v,N .i64 k] false TL 0)=M1 at *
 rw[aG]
 have k2:ag [] M1 (M1.push (.row [St [],St []] false TP 0)):=(ag.refl _ _).push _
 have h2:(M1.push (.row [St [],St []] false TP 0)).heap M1.next=some (.row [St [],St []] false TP 0):=RM.aV _
 have n2:(M1.push (.row [St [],St []] false TP 0)).next=M1.next + 1:=bZ _
 generalize M1.push (.row [St [],St []] false TP 0)=M2 at *
 have h12:=k2.ay h1 (by omega) (by simp)
 have k02:=k1.trans k2
 rw[aT,aA h12 rfl,aP (n:=5) h12 rfl]
 have hnm:(ma L.ps).length≤(fI L).length:=by unfold fI; simp; omega
 have ada:(L.n++ma L.ps).length≤(fI L).length:=by unfold fI; simp
 have hgl:=hB.g
 have hnl:=hB.n
 refine hp (jo (hps.keep k02 (by simp))) (Ja hB) (by omega) fun M3 k3=>?_
 have k03:=k02.trans k3
 have h13:=k3.ay h12 (by omega) (by simp)
 have h23:=k3.ay h2 (by omega) (by simp)
 have n3:=k3.next
 rw[aA h13 rfl]
 refine⟨rfl, ?_⟩
 rw[bI]
 refine⟨by simp at ada ⊢; omega, ?_⟩
 simp only[bL]
 refine aW (fun ys M'=>M'=M3∧ys=[St (fI L)]) ?_ ?_
 rotate_left 1
 ·intro J hJ
  rw[aT,aA h13 rfl,jP]
  unfold fI oV at hJ
  refine aN (fun h=>?_) fun h=>?_
  ·have h:¬ L.g=[]:=by simpa using h
   rw[if_neg h] at hJ
   rw[aT,aA h13 rfl,bI]
   refine⟨by simp; omega, ?_⟩
   rw[bI]
   exact⟨by simp at ada ⊢; omega,hJ _ _ ⟨rfl,rfl⟩⟩
  ·have h:L.g=[]:=by simpa using h
   rw[if_pos h] at hJ
   exact hJ _ _ ⟨rfl,rfl⟩
 rintro ys M' ⟨rfl,rfl⟩
 dsimp only[ae]
 rw[aT,aA h13 rfl]
 refine ht fun M4 k4=>?_
 have k04:=k03.trans k4
 have h14:=k4.ay h13 (by omega) (by simp)
 have h24:=k4.ay h23 (by omega) (by simp)
 have n4:=k4.next
 have fin:∀ {M6:RM} {p:Fd},ag [] M M6→M6.heap M1.next=some (.row [St [],St []] false TP 0)→bS L=p →
   dW [(St []),(St [])] [(0,1,(St p.1)),(1,1,St p.2)] fun t26=>aC M6 (.ptr M1.next 0) t26 2 fun M_4=>aL M_4 (.ptr M1.next 0) 2 fun res=>Q res M_4:=by
  intro M6 p k6 g1 hp
  refine b2 _ _ ?_
  rw[bY (n:=2) (x:=.agg [St p.1,St p.2]) (l:=[St [],St []]) g1 rfl rfl rfl,aP (n:=2) (aB _) rfl]
  subst hp
  exact hQ _ (k6.put _ (.inl (by omega)))
 rw[bX]
 refine aN (fun h=>?_) fun h=>?_
 ·have h:uU L.n=false:=by simpa using h
  rw[aT,aA h14 rfl]
  exact fin (p:=(fI L,L.v)) k04 h24 (by unfold bS; rw[h]; rfl)
 have h:uU L.n=true:=by simpa using h
 rw[aT,aA h14 rfl]
 refine hu hB.v fun M5 k5=>?_
 have k05:=k04.trans k5
 have h15:=k5.ay h14 (by omega) (by simp)
 have h25:=k5.ay h24 (by omega) (by simp)
 have n5:=k5.next
 unfold mG
 cases hx:fK L.v with
 | none =>
   dsimp only
   rw[cO,df,bX,show(!false)=true from rfl]
   simp only[Nr,bU,ab0,dh,bC]
   rw[bI]
   refine⟨by simp; omega, ?_⟩
   rw[aT,aA h15 rfl]
   exact fin (p:=(jL++[46]++fI L,L.v)) k05 h25 (by unfold bS; rw[h,hx]; rfl)
 | some x =>
   have hxl:=qU _ L.v x (Nat.le_refl _) hx
   have hvl:=hB.v
   dsimp only
   rw[cO,df,bX,show(!true)=false from rfl]
   simp only[EE,cz,ab1,dJ]
   rw[aT,aA h15 rfl]
   refine he (by omega) fun M6 k6=>?_
   have k06:=k05.trans k6
   have h16:=k6.ay h15 (by omega) (by simp)
   have h26:=k6.ay h25 (by omega) (by simp)
   rw[aA h16 rfl]
   refine⟨rfl, ?_⟩
   rw[jP]
   refine aN (fun h3=>?_) fun h3=>?_
   ·have h3:¬ esc x=L.v:=by simpa using h3
    rw[bI]
    refine⟨by simp; omega, ?_⟩
    rw[aT,aA h16 rfl]
    exact fin (p:=(jL++[46]++fI L,L.v)) k06 h26 (by unfold bS; rw[h,hx]; dsimp only; rw[if_neg h3]; rfl)
   ·have h3:esc x=L.v:=by simpa using h3
    exact fin (p:=(fI L,x)) k06 h26 (by unfold bS; rw[h,hx]; dsimp only; rw[if_pos h3]; rfl)
end Go.Ab.Vc
namespace Go.Ab.Vc
open Go Go.Ab Go.Ab.Vl
theorem aaO (c:UInt8) : Go.Ab.dz c=Vl.dz c:=by
 unfold Go.Ab.dz Vl.dz
 split
 ·rename_i h
  refine UInt8.toNat_inj.1 ?_
  rw[UInt8.toNat_add,UInt8.toNat_ofNat']
  rfl
 ·rfl
theorem IP {c d:UInt8} (h:Vl.dz c=d) (hd:¬ (97≤d.toNat∧d.toNat≤122)) : c=d:=by
 unfold Vl.dz at h
 split at h
 ·rename_i hc
  exfalso
  rw[← h,UInt8.toNat_ofNat',Nat.mod_eq_of_lt (by omega)] at hd
  omega
 ·exact h
def GJ (L:Ln) (nm vl:Str) : Bool:=decide (L.g=[]) && decide (L.ps.length=0) && decide (L.n=nm) && decide (L.v.map Vl.dz=vl)
theorem adT (v:Str) : decide (v.map Vl.dz=JV)=decide (v=JV):=by
 by_cases h:v=JV
 ·subst h; decide
 ·rw[decide_eq_false h]
  refine decide_eq_false fun e=>h ?_
  cases v with
  | nil=>cases e
  | cons a v=>cases v with
    | nil=>simp at e
    | cons b v=>cases v with
      | nil=>simp at e
      | cons c v=>cases v with
        | cons d v=>simp at e
        | nil =>
          simp only[List.map_cons,List.map_nil,List.cons.injEq,and_true] at e
          obtain⟨e1,e2,e3⟩:=e
          rw[IP e1 (by decide),IP e2 (by decide),IP e3 (by decide)]
theorem Yz (L:Ln) : GJ L dB JV=dP L dB:=by
 unfold GJ dP
 rw[if_pos rfl,adT]
 cases decide (L.n=dB) <;> cases decide (L.g=[]) <;> cases decide (L.ps.length=0) <;> rfl
theorem MJ (L:Ln) {n:Str} (h:n≠dB) : GJ L n dS=dP L n:=by
 unfold GJ dP
 rw[if_neg h,show(L.v.map dz)=L.v.map Vl.dz from List.map_congr_left fun c _=>aaO c]
 cases decide (L.n=n) <;> cases decide (L.g=[]) <;> cases decide (L.ps.length=0) <;> rfl
abbrev Up (l:List Li) : Prop:=l.Pairwise fun a b=>a.2<b.2
theorem Sq:∀ (xs acc:List Str) (ns:List Int) (k:Int),ns.Pairwise (· < ·)→(∀ n∈ns,n<k)→0<k→k + xs.length<4611686018427387904→(iD acc ns k xs).2.Pairwise (· < ·)
 | [],_,ns,k,h,_,_,_=>h
 | x :: xs,acc,ns,k,h,hb,h0,hk=>by
   rw[iD]
   simp only[List.length_cons] at hk
   have hw:IntKind.i64.wrap (k + 1)=k + 1:=bO (by omega) (by omega)
   rw[hw]
   refine Sq xs _ _ _ ?_ ?_ (by omega) (by omega)
   ·split
    ·exact h
    ·exact List.pairwise_append.2 ⟨h,by simp,fun a ha b hb'=>by simp at hb'; subst hb'; exact hb a ha⟩
   ·intro n hn
    split at hn
    ·have:=hb n hn; omega
    ·rcases List.mem_append.1 hn with hn | hn
     ·have:=hb n hn; omega
     ·simp at hn; omega
theorem Eu:∀ (l:List (Str × Int)) (acc ls:List Li),Up acc→l.Pairwise (fun a b=>a.2<b.2)→(∀ a∈acc,∀ b∈l,a.2<b.2)→gI eG l acc=.ok ls→Up ls
 | [],acc,ls,h1,_,_,h=>by cases h; exact h1
 | (s,k) :: r,acc,ls,h1,h2,h3,h=>by
   rw[gI] at h
   rw[List.pairwise_cons] at h2
   have h3' : ∀ a∈acc,∀ b∈r,a.2<b.2:=fun a ha b hb=>h3 a ha b (List.mem_cons_of_mem _ hb)
   split at h
   ·exact Eu r acc ls h1 h2.2 h3' h
   ·split at h
    ·cases h
    ·split at h
     ·cases h
     ·refine Eu r _ ls ?_ h2.2 ?_ h
      ·exact List.pairwise_append.2 ⟨h1,by simp,fun a ha b hb=>by simp at hb; subst hb; exact h3 a ha (s,k) (List.mem_cons_self ..)⟩
      ·intro a ha b hb
       rcases List.mem_append.1 ha with ha | ha
       ·exact h3' a ha b hb
       ·simp at ha; subst ha; exact h2.1 b hb
theorem ad6 {s:Str} {ls:List Li} (hs:s.length≤100000000) (h:Ba eG s=.ok ls) : Up ls:=by
 refine Eu _ [] ls (by simp[Up]) ?_ (by simp) h
 have hl:=DC (eY [] s) [] [] 1 rfl
 have hr:=oQ s []
 have hu:=Sq (eY [] s) [] [] 1 (by simp) (by simp) (by decide) (by omega)
 unfold Qs
 have e:((iD [] [] 1 (eY [] s)).1.zip (iD [] [] 1 (eY [] s)).2).map Prod.snd=(iD [] [] 1 (eY [] s)).2:=List.map_snd_zip (by omega)
 rw[← e,List.pairwise_map] at hu
 exact hu
def pY:Nat→Int→List Li→Int
 | 0,_,[]=>0
 | _ + 1,b,[]=>b
 | 0,b,x :: r=>if dP x.1 kM then pY 1 x.2 r else x.2
 | 1,b,x :: r=>if dP x.1 dB then pY 2 b r else x.2
 | _ + 2,b,x :: r=>if dP x.1 rQ then pY 0 b r else if uL x.1.n || decide (x.1.g=jL) then x.2 else pY 2 b r
theorem SF:∀ (l acc:List Li) (b:Int),(∀ w,gT b l acc=.error w→pY 2 b l=w)∧(∀ c r,gT b l acc=.ok (c,r)→pY 2 b l=pY 0 b r)
 | [],acc,b=>⟨fun w h=>by cases h; rfl,fun c r h=>(by cases h)⟩
 | x :: l,acc,b=>by
   rw[gT,pY]
   by_cases h1:dP x.1 rQ=true
   ·rw[if_pos h1,if_pos h1]
    exact⟨fun w h=>(by cases h),fun c r h=>by cases h; rfl⟩
   ·rw[if_neg h1,if_neg h1]
    by_cases h2:(uL x.1.n || decide (x.1.g=jL))=true
    ·rw[if_pos h2,if_pos h2]
     exact⟨fun w h=>by cases h; rfl,fun c r h=>by cases h⟩
    ·rw[if_neg h2,if_neg h2]
     exact SF l _ b
theorem Xi:∀ (k:Nat) (l:List Li) (acc:List (List Li)) (b:Int),l.length<k→(∀ w,ni k l acc=.error w→pY 0 b l=w)∧(∀ css,ni k l acc=.ok css→pY 0 b l=0)
 | 0,l,acc,b,hk=>by omega
 | k + 1,[],acc,b,_=>⟨fun w h=>(by cases h),fun c h=>rfl⟩
 | k + 1,x :: r,acc,b,hk=>by
   rw[kg,pY]
   by_cases h1:dP x.1 kM=true
   ·rw[if_neg (by rw[h1]; simp),if_pos h1]
    cases r with
    | nil=>exact⟨fun w h=>by cases h; rfl,fun c h=>by cases h⟩
    | cons y r =>
      dsimp only
      rw[pY]
      by_cases h2:dP y.1 dB=true
      ·rw[if_neg (by rw[h2]; simp),if_pos h2]
       obtain⟨g1,g2⟩:=SF r [x] x.2
       cases hb:gT x.2 r [x] with
       | error w=>rw[g1 w hb]; exact⟨fun w' h=>by cases h; rfl,fun c h=>by cases h⟩
       | ok p =>
         obtain⟨c,r'⟩:=p
         rw[g2 c r' hb]
         have:=sj _ _ _ _ hb
         simp only[List.length_cons] at hk
         exact Xi k r' _ x.2 (by omega)
      ·rw[if_pos (by simpa using h2),if_neg h2]
       exact⟨fun w h=>by cases h; rfl,fun c h=>by cases h⟩
   ·rw[if_pos (by simpa using h1),if_neg h1]
    exact⟨fun w h=>by cases h; rfl,fun c h=>by cases h⟩
abbrev S9:=Li × Bool × List Li × List Str × List Fd
abbrev Va (p:Fd) (k:Nat) : Prop:=64<(iC p.1 k).length∨512<p.2.length
def PS (h:Str→Str) (R:Except (Int × Int) (List Cd)) (rest:List Li) (done:List Cd) : Option S9→Prop
 | none=>∃ css,qm rest=.ok css∧lq h css done=R
 | some (x,false,ls,ns,fs)=>ls=[]∧ns=[]∧fs=[]∧∃ y r,rest=y :: r∧dP y.1 dB=true∧∃ c r' css,gT x.2 r [x]=.ok (c,r')∧qm r'=.ok css∧lq h (c :: css) done=R
 | some (x,true,ls,ns,fs)=>(∀ more,mY (ls++more) [] []=mY more ns fs)∧∃ c r' css,gT x.2 rest (x :: ls)=.ok (c,r')∧qm r'=.ok css∧lq h (c :: css) done=R
theorem Mq {L:Ln} {n:Str} (h:dP L n=true) : L.n=n:=by
 unfold dP at h
 simp only[Bool.and_eq_true,decide_eq_true_eq] at h
 exact h.1.1.1
section
variable {h:Str→Str} {R:Except (Int × Int) (List Cd)} {rest:List Li} {done:List Cd}
theorem PS.nil (p:PS h R [] done none) : R=.ok done:=by
 obtain⟨css,h1,h2⟩:=p
 cases h1; exact h2.symm
theorem SH:∀ (k:Nat) (l:List Li) (a b css:List (List Li)),ni k l (a++b)=.ok css→∃ Ci,ni k l b=.ok Ci∧css=a++Ci
 | 0,l,a,b,css,h=>by cases h; exact⟨b,rfl,rfl⟩
 | k + 1,[],a,b,css,h=>by cases h; exact⟨b,rfl,rfl⟩
 | k + 1,x :: r,a,b,css,h=>by
   rw[kg] at h ⊢
   split at h
   ·cases h
   ·rename_i h0; rw[if_neg h0]
    cases r with
    | nil=>cases h
    | cons y r =>
      dsimp only at h ⊢
      split at h
      ·cases h
      ·rename_i h3; rw[if_neg h3]
       cases hb:gT x.2 r [x] with
       | error e=>rw[hb] at h; cases h
       | ok p =>
         obtain⟨c,q⟩:=p
         rw[hb] at h
         dsimp only at h ⊢
         rw[List.append_assoc] at h
         exact SH k q a (b++[c]) css h
theorem Yt {r:List Li} {c:List Li} {css:List (List Li)} {k:Nat} (hk:r.length<k) (h:ni k r [c]=.ok css) : ∃ Ci,qm r=.ok Ci∧css=c :: Ci:=by
 rw[FR r.length r _ k (r.length + 1) (Nat.le_refl _) hk (by omega)] at h
 obtain⟨Ci,h1,h2⟩:=SH _ r [c] [] css (by simpa using h)
 exact⟨Ci,h1,h2⟩
theorem PS.begin {x:Li} {r:List Li} (p:PS h R (x :: r) done none) : x.1.n=kM∧PS h R r done (some (x,false,[],[],[])):=by
 obtain⟨css,h1,h2⟩:=p
 unfold qm at h1
 rw[kg] at h1
 split at h1
 ·cases h1
 ·rename_i hx
  have hx:dP x.1 kM=true:=by simpa using hx
  refine⟨Mq hx,rfl,rfl,rfl, ?_⟩
  cases r with
  | nil=>cases h1
  | cons y r =>
    dsimp only at h1
    split at h1
    ·cases h1
    ·rename_i hy
     have hy:dP y.1 dB=true:=by simpa using hy
     refine⟨y,r,rfl,hy, ?_⟩
     cases hb:gT x.2 r [x] with
     | error e=>rw[hb] at h1; cases h1
     | ok q =>
       obtain⟨c,r'⟩:=q
       rw[hb] at h1
       have:=sj _ _ _ _ hb
       obtain⟨Ci,g1,rfl⟩:=Yt (by simp; omega) h1
       exact⟨c,r',Ci,rfl,g1,h2⟩
theorem PS.ver {x:Li} (p:PS h R rest done (some (x,false,[],[],[]))) : ∃ y r,rest=y :: r∧y.1.n=dB∧PS h R r done (some (x,true,[],[],[])):=by
 obtain⟨_,_,_,y,r,h1,h2,h3⟩:=p
 exact⟨y,r,h1,Mq h2,fun more=>rfl,h3⟩
theorem PS.body {x:Li} {ls:List Li} {ns:List Str} {fs:List Fd} (p:PS h R rest done (some (x,true,ls,ns,fs))) :
  ∃ y r,rest=y :: r∧((y.1.n=rQ∧PS h R r (done++[(nI h ls (iG fs),fs,x.2)]) none)∨(uL y.1.n=false∧(Va (bS y.1) (fE ns (bS y.1).1)→R=.error (y.2,2)) ∧
    (¬ Va (bS y.1) (fE ns (bS y.1).1)→PS h R r done (some (x,true,ls++[y],ns++[(bS y.1).1],fs++[(iC (bS y.1).1 (fE ns (bS y.1).1),(bS y.1).2)]))))):=by
 obtain⟨hf,c,r',css,h1,h2,h3⟩:=p
 cases rest with
 | nil=>cases h1
 | cons y r =>
   refine⟨y,r,rfl, ?_⟩
   rw[gT] at h1
   split at h1
   ·rename_i he
    cases h1
    refine .inl ⟨Mq he,css,h2, ?_⟩
    rw[lq] at h3
    have hff:=hf []
    rw[List.append_nil] at hff
    unfold uk at h3
    dsimp only at h3
    rw[hff,mY] at h3
    exact h3
   ·split at h1
    ·cases h1
    ·rename_i hr
     simp only[Bool.or_eq_true,decide_eq_true_eq,not_or,Bool.not_eq_true] at hr
     refine .inr ⟨hr.1,fun ht=>?_,fun ht=>?_⟩
     ·obtain⟨⟨d,hd,_⟩,_,_⟩:=C8 _ _ _ _ h1
      subst hd
      rw[lq] at h3
      unfold uk at h3
      simp only[List.cons_append,List.append_assoc] at h3
      rw[hf,mY,if_pos ht] at h3
      exact h3.symm
     ·refine⟨fun more=>?_,c,r',css,by simpa using h1,h2,h3⟩
      rw[List.append_assoc,hf,List.singleton_append,mY,if_neg ht]
end
end Go.Ab.Vc
namespace Go.Ab.Vc
open Go Go.Ab Go.Ab.Vl Go.Ab.Sm
def UJ (c:au) : Prop:=∀ {M:RM} {cs:List AV} {L:Ln} {k:Int} {S:Nat→Prop} {nm vl:Str} {Q:ak},gq.rel M cs (L,k) S→LB 1000000000 L→(∀ M',ag [] M M'→Q (Bo (GJ L nm vl)) M')→c [.agg cs,St nm,St vl] M Q
theorem Xv {TL:Nat} {cl:au} (hl:xN cl) : UJ fun args M Q=>∃ a0 a1 a2,args=[a0,a1,a2]∧xH TL cl a0 a1 a2 M Q:=by
 intro M cs L k S nm vl Q hrel hB hQ
 obtain⟨v,rfl,hps,hall,_⟩:=vZ hrel
 refine⟨_,_,_,rfl, ?_⟩
 unfold xH
 simp only[dN]
 rw[fU hall (by simp),aG]
 have k1:ag [] M (M.push (.row [St L.g,St L.n,v,St L.v,N .i64 k] false TL 0)):=(ag.refl _ _).push _
 have h1:(M.push (.row [St L.g,St L.n,v,St L.v,N .i64 k] false TL 0)).heap M.next=some (.row [St L.g,St L.n,v,St L.v,N .i64 k] false TL 0):=RM.aV _
 generalize M.push (.row [St L.g,St L.n,v,St L.v,N .i64 k] false TL 0)=M1 at *
 rw[aT,aA h1 rfl,dm]
 have e1:∀ x y:Str,(x == y)=decide (x=y):=fun x y=>by by_cases h:x=y <;> simp[h]
 refine qw (p:=decide (L.ps.length=0)) (fun hc kk hk=>?_) ?_
 ·rw[aT,aA h1 rfl,(hps.keep k1 (by simp)).len,bH]
  have:((L.ps.length:Int) == 0)=decide (L.ps.length=0):=by
   by_cases h:L.ps.length=0
   ·rw[h]; rfl
   ·rw[decide_eq_false h]; simp; exact fun e=>h (by rw[e]; rfl)
  rw[this]; exact hk
 refine qw (p:=decide (L.n=nm)) (fun hc kk hk=>?_) ?_
 ·rw[aT,aA h1 rfl,dm,e1]; exact hk
 refine Ol (P:=fun M'=>ag [] M1 M') (p:=decide (L.v.map Vl.dz=vl)) (ag.refl _ _) (fun hc kk hk=>?_) fun M2 k2=>?_
 ·rw[aT,aA h1 rfl]
  refine hl hB.v fun M2 k2=>?_
  rw[dm,e1]
  exact hk M2 k2
 rw[e1]
 exact hQ M2 (k1.trans k2)
def PK (c:au) : Prop:=∀ {M:RM} {v:AV} {ls:List Li} {S:Nat→Prop} {Q:ak},cB gq M v ls S→ls.length≤200000→(∀ x∈ls,LB 1000000 x.1)→(∀ M',ag [] M M'→Q (N .i64 (pY 0 0 ls)) M')→c [v] M Q
theorem Vy {TL:Nat} {cb:au} (hb:UJ cb) : PK fun args M Q=>∃ a0,args=[a0]∧uN TL cb a0 M Q:=by
 intro M v ls S Q hv0 hlen hLB hQ
 refine⟨_,rfl, ?_⟩
 unfold uN
 simp only[dN,bL]
 have hv:=hv0.lt
 generalize hR:pY 0 0 ls=R at *
 refine aI (fun m ys M1=>∃ (i st:Nat) (bg:Int),m=ls.length - i∧ys=[N .i64 (st:Int),N .i64 bg,N .i64 (i:Int)]∧i≤ls.length∧st≤2∧ag [] M M1∧pY st bg (ls.drop i)=R) _
  ⟨0,0,0,rfl,rfl,Nat.zero_le _,by omega,ag.refl _ _,hR⟩ ?_
 rintro next m ys M1 hnext ⟨i,st,bg,rfl,rfl,hi,hst,k1,hp⟩
 dsimp only[ae]
 have hv1:=hv.keep k1 (by simp)
 rw[hv1.len,gQ]
 refine aN (fun h=>?_) (fun h=>?_)
 rotate_left 1
 ·have h:¬ i<ls.length:=of_decide_eq_false h
  rw[List.drop_eq_nil_of_le (by omega)] at hp
  rw[di]
  cases st with
  | zero =>
    rw[show(((0:Nat) : Int) != 0)=false from rfl,bq]
    rw[pY] at hp
    rw[← hp] at hQ; exact hQ _ k1
  | succ st =>
    rw[show(((st + 1:Nat) : Int) != 0)=true by simp; omega,bC]
    rw[pY] at hp
    rw[← hp] at hQ; exact hQ _ k1
 have h:i<ls.length:=of_decide_eq_true h
 obtain⟨pw,hpw,hq,_⟩:=qp hv1 h
 have hL:=hLB _ (List.getElem_mem h)
 rw[List.drop_eq_getElem_cons h] at hp
 refine aW (fun ys M'=>∃ (st' : Nat) (bg' : Int),ys=[N .i64 (st' : Int),N .i64 bg']∧st'≤2∧ag [] M M'∧pY st' bg' (ls.drop (i + 1))=R) ?_ ?_
 ·rintro ys M2 ⟨st',bg',rfl,h1,h2,h3⟩
  dsimp only[ae]
  rw[add1 (by omega)]
  exact hnext _ _ _ (by omega) ⟨i + 1,st',bg',rfl,rfl,by omega,h1,h2,h3⟩
 intro J hJ
 rw[hq,aG]
 generalize ls[i]=x at *
 have hall:([St x.1.g,St x.1.n,pw,St x.1.v,N .i64 x.2] : List AV).all oneCell=true:=by simp[eu,hpw.one]
 refine zv (b:=0) 5 rfl rfl _ rfl hall rfl fun M2 k2 n2 h2=>?_
 have n1:=k1.next
 rw[bH]
 have bare:∀ {nm vl:Str} {Q' : ak},(∀ M',ag [] M M'→M'.heap M1.next=some (.row [St x.1.g,St x.1.n,pw,St x.1.v,N .i64 x.2] false TL 0)→Q' (Bo (GJ x.1 nm vl)) M')→(aL M2 (.ptr M1.next 0) 5 fun t=>cb [t,St nm,St vl] M2 Q'):=by
  intro nm vl Q' hQ'
  rw[aP (n:=5) h2 rfl]
  exact hb (jo (k:=x.2) (hpw.keep k2 (by simp))) (Ja hL) fun M3 k3=>hQ' M3 ((k1.trans k2).trans k3) (k3.ay h2 (by omega) (by simp))
 match st,hst,hp with
 | 0,_,hp =>
   rw[show(((0:Nat) : Int) == 0)=true from rfl,bC]
   refine bare (nm:=kM) (vl:=dS) fun M3 k3 h3=>?_
   rw[MJ x.1 (by decide),bX]
   rw[pY] at hp
   refine aN (fun hc=>?_) fun hc=>?_
   ·have hc:dP x.1 kM=false:=by simpa using hc
    rw[if_neg (by rw[hc]; simp)] at hp
    rw[aT,aA h3 rfl,hp]
    exact hQ _ k3
   ·have hc:dP x.1 kM=true:=by simpa using hc
    rw[if_pos hc] at hp
    rw[aT,aA h3 rfl]
    exact hJ _ _ ⟨1,_,rfl,by omega,k3,hp⟩
 | 1,_,hp =>
   rw[show(((1:Nat) : Int) == 0)=false from rfl,bq,bH,show(((1:Nat) : Int) == 1)=true from rfl,bC]
   refine bare (nm:=dB) (vl:=JV) fun M3 k3 h3=>?_
   rw[Yz x.1,bX]
   rw[pY] at hp
   refine aN (fun hc=>?_) fun hc=>?_
   ·have hc:dP x.1 dB=false:=by simpa using hc
    rw[if_neg (by rw[hc]; simp)] at hp
    rw[aT,aA h3 rfl,hp]
    exact hQ _ k3
   ·have hc:dP x.1 dB=true:=by simpa using hc
    rw[if_pos hc] at hp
    exact hJ _ _ ⟨2,_,rfl,by omega,k3,hp⟩
 | 2,_,hp =>
   rw[show(((2:Nat) : Int) == 0)=false from rfl,bq,bH,show(((2:Nat) : Int) == 1)=false from rfl,bq]
   refine bare (nm:=rQ) (vl:=dS) fun M3 k3 h3=>?_
   rw[MJ x.1 (by decide)]
   rw[pY] at hp
   refine aN (fun hc=>?_) fun hc=>?_
   ·rw[if_pos hc] at hp
    exact hJ _ _ ⟨0,_,rfl,by omega,k3,hp⟩
   ·rw[if_neg (by rw[hc]; simp)] at hp
    have e1:∀ x y:Str,(x == y)=decide (x=y):=fun x y=>by by_cases h:x=y <;> simp[h]
    rw[aT,aA h3 rfl,dm,e1]
    refine jF (p:=decide (x.1.n=dB)) (fun hc kk hk=>by rw[aT,aA h3 rfl,dm,e1]; exact hk) ?_
    refine jF (p:=decide (x.1.n=rQ)) (fun hc kk hk=>by rw[aT,aA h3 rfl,dm,e1]; exact hk) ?_
    refine jF (p:=decide (x.1.g=jL)) (fun hc kk hk=>by rw[aT,aA h3 rfl,dm,e1]; exact hk) ?_
    rw[show((decide (x.1.n=[98,101,103,105,110]) || decide (x.1.n=dB)) || decide (x.1.n=rQ))=uL x.1.n from rfl]
    refine aN (fun hc2=>?_) fun hc2=>?_
    ·rw[if_pos hc2] at hp
     rw[aT,aA h3 rfl,hp]
     exact hQ _ k3
    ·rw[if_neg (by rw[hc2]; simp)] at hp
     exact hJ _ _ ⟨2,_,rfl,by omega,k3,hp⟩
def DL (a:Int) (x:Li) : Bool:=(decide (x.2 > a) && decide (x.1.n=CB)) && decide (x.1.g=[])
def Wt (h:Str→Str) (all:Str) : Str:=[99,45]++(h all).take 16
def zR (h:Str→Str) (l:List Li) (a:Int) (fs:List Fd) : Str:=match l.find? (DL a) with
 | some x=>if 1≤x.1.v.length∧x.1.v.length≤64 then x.1.v else Wt h (iG fs)
 | none=>Wt h (iG fs)
theorem Nh {p q:Li→Bool} : ∀ {l:List Li},(∀ x∈l,p x=q x)→l.find? p=l.find? q
 | [],_=>rfl
 | x :: l,h=>by
   rw[List.find?_cons,List.find?_cons,h x (List.mem_cons_self ..),Nh fun y hy=>h y (List.mem_cons_of_mem _ hy)]
theorem aaI {p:Li→Bool} {l:List Li} (h:∀ x∈l,p x=false) : l.find? p=none:=by
 rw[List.find?_eq_none]
 intro x hx; rw[h x hx]; simp
theorem Ze {h:Str→Str} {L pre ls:List Li} {x y:Li} {fs:List Fd} {i:Nat} (hu:Up L) (hL:L.take i=pre++x :: y :: ls) (hy:y.1.n=dB) : zR h (L.take i) x.2 fs=nI h ls (iG fs):=by
 have hu2:Up (L.take i):=List.Pairwise.sublist (List.take_sublist i L) hu
 rw[hL] at hu2 ⊢
 unfold Up at hu2
 rw[List.pairwise_append,List.pairwise_cons,List.pairwise_cons] at hu2
 obtain⟨_,⟨a1,a2,_⟩,a3⟩:=hu2
 have e1:pre.find? (DL x.2)=none:=aaI fun z hz=>by
  have:=a3 z hz x (List.mem_cons_self ..)
  unfold DL
  rw[decide_eq_false (by omega)]; rfl
 have e2:DL x.2 x=false:=by unfold DL; rw[decide_eq_false (by omega)]; rfl
 have e3:DL x.2 y=false:=by
  unfold DL
  rw[hy,show decide (dB=CB)=false by decide]; simp
 have e4:ls.find? (DL x.2)=ls.find? fun z=>decide (z.1.n=CB) && decide (z.1.g=[]):=Nh fun z hz=>by
  have:=a1 z (List.mem_cons_of_mem _ hz)
  unfold DL
  rw[decide_eq_true (by omega)]; rfl
 unfold zR nI Wt
 rw[List.find?_append,e1,List.find?_cons,e2,List.find?_cons,e3,e4]
 rfl
theorem WX {fs:List Fd} {i:Nat} (hi:i<fs.length) : iG (fs.take (i + 1))=iG (fs.take i)++(fs[i].1++[0]++fs[i].2++[0]):=by
 rw[List.take_succ_eq_append_getElem hi]
 unfold iG
 rw[List.flatMap_append]; simp
theorem O5:∀ {fs:List Fd},(∀ p∈fs,p.1.length≤64∧p.2.length≤512)→(iG fs).length≤578 * fs.length
 | [],_=>by simp[iG]
 | p :: fs,h=>by
   have ih:=O5 fun q hq=>h q (List.mem_cons_of_mem _ hq)
   have:=h p (List.mem_cons_self ..)
   unfold iG at ih ⊢
   rw[List.flatMap_cons]
   simp at ih ⊢; omega
def QQ (c:au) : Prop:=∀ {M:RM} {b o T:Nat} {open' : Bool} {cells:List AV} {v w:AV} {ct:Str} {at' : Int} {l:List Li} {fs:List Fd} {S:Nat→Prop} {Q:ak},
 M.heap b=some (.row cells open' T 0)→b<M.next→cells[o]?=some (St ct)→cells[o + 1]?=some w→cells[o + 2]?=some (N .i64 at')→Sl mQ M w fs→b ∉ aH w→cB gq M v l S→¬ S b→fs.length≤150000→(∀ p∈fs,p.1.length≤64∧p.2.length≤512)→l.length≤200000 →
 (∀ M',ag [b] M M'→M'.heap b=some (.row (cells.set o (St (zR Sha.dR l at' fs))) open' T 0)→Q (.tup []) M')→c [.ptr b o,v] M Q
theorem Vf {T8:Nat} {cn:au} (hn:Sha.UC cn) : QQ fun args M Q=>∃ a0 a1,args=[a0,a1]∧yB T8 cn a0 a1 M Q:=by
 intro M b o T open' cells v w ct at' l fs S Q hb hbn c0 c1 c2 hw hbw hv0 hSb hfl hsz hll hQ
 refine⟨_,_,rfl, ?_⟩
 unfold yB
 simp only[dN,CV,bL]
 have hv:=hv0.lt
 have ho:o<cells.length:=by
  rcases Nat.lt_or_ge o cells.length with h | h
  ·exact h
  ·rw[List.getElem?_eq_none h] at c0; cases c0
 have fin:∀ {M' : RM} {x:Str},ag [] M M'→zR Sha.dR l at' fs=x→aC M' (.ptr b o) (St x) 1 fun M2=>Q (.tup []) M2:=by
  intro M' x k hx
  rw[zM (k.ay hb hbn (by simp)) ho rfl rfl]
  subst hx
  refine hQ _ ?_ (aB _)
  exact(k.mono (cs:=[b]) (by simp)).put _ (.inr (by simp))
 refine aW (fun ys M'=>ag [] M M'∧zR Sha.dR l at' fs=Wt Sha.dR (iG fs)) ?_ ?_
 rotate_left 1
 ·intro J hJ
  refine aI (fun m ys M1=>∃ i:Nat,m=l.length - i∧ys=[N .i64 (i:Int)]∧i≤l.length∧M1=M∧(l.drop i).find? (DL at')=l.find? (DL at')) _ ⟨0,rfl,rfl,Nat.zero_le _,rfl,rfl⟩ ?_
  rintro next m ys M1 hnext ⟨i,rfl,rfl,hi,rfl,he⟩
  dsimp only[ae]
  rw[hv.len,gQ]
  refine aN (fun h=>?_) fun h=>?_
  rotate_left 1
  ·have h:¬ i<l.length:=of_decide_eq_false h
   rw[List.drop_eq_nil_of_le (by omega)] at he
   refine hJ _ _ ⟨ag.refl _ _, ?_⟩
   unfold zR
   rw[← he]; rfl
  have h:i<l.length:=of_decide_eq_true h
  obtain⟨pw,hpw,_,q0,q1,q3,q4⟩:=qp hv h
  rw[List.drop_eq_getElem_cons h,List.find?_cons] at he
  rw[q4]
  have e1:∀ x y:Str,(x == y)=decide (x=y):=fun x y=>by by_cases h:x=y <;> simp[h]
  rw[fP,dM,aA hb c2,gV]
  refine oZ (p:=decide (l[i].1.n=CB)) (fun hc kk hk=>by rw[q1,dm,e1]; exact hk) ?_
  refine oZ (p:=decide (l[i].1.g=[])) (fun hc kk hk=>by rw[q0,dm,e1]; exact hk) ?_
  rw[show((decide (l[i].2 > at') && decide (l[i].1.n=CB)) && decide (l[i].1.g=[]))=DL at' l[i] from rfl]
  refine aN (fun hu=>?_) fun hu=>?_
  ·rw[hu] at he
   dsimp only at he
   have hx:zR Sha.dR l at' fs=if 1≤l[i].1.v.length∧l[i].1.v.length≤64 then l[i].1.v else Wt Sha.dR (iG fs):=by unfold zR; rw[← he]
   rw[q3,bi,dL]
   refine qw (p:=decide (l[i].1.v.length≤64)) (fun hc kk hk=>?_) ?_
   ·rw[q3,bi,show(N .i64 (64:Int))=N .i64 ((64:Nat) : Int) from rfl,Lf]; exact hk
   refine aN (fun hc=>?_) fun hc=>?_
   ·simp only[Bool.and_eq_true,decide_eq_true_eq] at hc
    rw[if_pos ⟨by omega,hc.2⟩] at hx
    rw[q3,fP,dM]
    exact fin (ag.refl _ _) hx
   ·rw[if_neg] at hx
    ·exact hJ _ _ ⟨ag.refl _ _,hx⟩
    ·rintro⟨g1,g2⟩
     rw[decide_eq_true (by omega),decide_eq_true g2] at hc
     cases hc
  ·rw[hu] at he
   rw[add1 (by omega)]
   exact hnext _ _ _ (by omega) ⟨i + 1,rfl,rfl,by omega,rfl,he⟩
 rintro _ M1 ⟨k1,hx⟩
 have n1:=k1.next
 have hw1:=dE.keep hw k1 (by simp)
 refine aI (fun m ys M2=>∃ (i:Nat) (z:AV),m=fs.length - i∧ys=[z,N .i64 (i:Int)]∧i≤fs.length∧ag [] M M2∧Ow BY M2 M.next T8 z (iG (fs.take i))) _ ⟨0,aJ,rfl,rfl,Nat.zero_le _,k1,.nil⟩ ?_
 rintro next m ys M2 hnext ⟨i,z,rfl,rfl,hi,k2,hz⟩
 dsimp only[ae]
 have hb2:=k2.ay hb hbn (by simp)
 have hw2:=dE.keep hw k2 (by simp)
 have n2:=k2.next
 rw[fP,dM,aA hb2 c1,dE.len hw2,gQ]
 have hal:=O5 (fs:=fs.take i) fun p hp=>hsz p (List.mem_of_mem_take hp)
 rw[List.length_take] at hal
 have afz:=dE.lt hw
 refine aN (fun hlt=>?_) fun hge=>?_
 rotate_left 1
 ·have hge:¬ i<fs.length:=of_decide_eq_false hge
  have hi2:i=fs.length:=by omega
  subst hi2
  rw[List.take_length] at hz
  rw[List.take_length] at hal
  refine hn (Sha.Bs.own hz) (by omega) fun M3 k3=>?_
  have h64:(Sha.dR (iG fs)).length=64:=Sha.EW _
  rw[show(N .i64 (16:Int))=N .i64 ((16:Nat) : Int) from rfl,fO (by omega),bK,bI]
  refine⟨by simp; omega, ?_⟩
  rw[fP,dM]
  exact fin (k2.trans k3) hx
 have hlt:i<fs.length:=of_decide_eq_true hlt
 obtain⟨bw,ow,hbw2,afK,hidx,hld⟩:=Sl.elem hw2 hlt
 obtain⟨hp1,hp2⟩:=hsz _ (List.getElem_mem hlt)
 have hst:=WX hlt
 have ZX:∀ K:AV→Prop,aM w (N .i64 (i:Int)) 2 K=K (.ptr bw ow):=fun K=>hidx _ K
 have g0:M2.cell bw (ow + 0)=some (St fs[i].1):=dU hld (j:=0) rfl
 have g1:M2.cell bw (ow + 1)=some (St fs[i].2):=dU hld (j:=1) rfl
 generalize fs[i]=p at *
 have ac6:bw<M.next:=afz bw afK
 rw[fP,dM,aA hb2 c1,ZX,dM,bT,g0]
 refine⟨_,rfl, ?_⟩
 have hr1:∀ {K:RB→(Nat→AV)→Prop},bM T8 1 [N .u8 0] [(0,1,N .u8 0)] K=K (.row [N .u8 0] false T8 0) (fun b=>.slc b 0 1 (.ex 1)):=gD (x:=N .u8 0) (size:=1) rfl rfl rfl
 rw[hr1,qL]
 have k3:ag [] M2 (M2.push (.row [N .u8 0] false T8 0)):=(ag.refl _ _).push _
 have h3:(M2.push (.row [N .u8 0] false T8 0)).heap M2.next=some (.row [N .u8 0] false T8 0):=RM.aV _
 have n3:(M2.push (.row [N .u8 0] false T8 0)).next=M2.next + 1:=rfl
 generalize M2.push (.row [N .u8 0] false T8 0)=M3 at *
 have hb3:=k3.ay hb2 (by omega) (by simp)
 have UA:∀ {Mx:RM},ag [] M Mx→Mx.cell bw (ow + 1)=some (St p.2):=by
  intro Mx k
  rw[k.cell ac6 (by simp),← k2.cell ac6 (by simp)]; exact g1
 have k03:=k2.trans k3
 rw[fP,dM,aA hb3 c1,ZX,dM,bT,UA k03]
 refine⟨_,rfl, ?_⟩
 rw[hr1,qL]
 have k4:ag [] M3 (M3.push (.row [N .u8 0] false T8 0)):=(ag.refl _ _).push _
 have h4:(M3.push (.row [N .u8 0] false T8 0)).heap M3.next=some (.row [N .u8 0] false T8 0):=RM.aV _
 have n4:(M3.push (.row [N .u8 0] false T8 0)).next=M3.next + 1:=rfl
 generalize M3.push (.row [N .u8 0] false T8 0)=M4 at *
 have h34:=k4.ay h3 (by omega) (by simp)
 let P:RM→AV→Str→Prop:=fun Mx zx xs=>Ow BY Mx M.next T8 zx xs∧ag [] M Mx∧Mx.heap M2.next=some (.row [N .u8 0] false T8 0)∧Mx.heap M3.next=some (.row [N .u8 0] false T8 0)∧(∀ c∈aH zx,c≠M2.next∧c≠M3.next)∧M4.next≤Mx.next
 have stG:∀ {Mx:RM} {zx u:AV} {xs ys:Str} {K:ak},P Mx zx xs→kQ Mx 1 [N .u8 0] false u=some (ys.length,BY.row ys)→xs.length + ys.length≤140737488355328→(∀ z' M',P M' z' (xs++ys)→K z' M')→appW T8 1 1 [N .u8 0] false zx u Mx K:=by
  intro Mx zx u xs ys K ⟨p1,p2,p3,p4,p5,p6⟩ hnew hlen hK
  have hbl:=Own.blk p1
  have hz2:=Own.blk hz
  refine wH p1 (by omega) (Nat.le_refl _) hnew (by rw[BY.ic]; rfl) (BY.fT ys) (by omega) (by omega) fun v' M' q1 q2 q3 q4=>hK v' M' ⟨?_, ?_, ?_, ?_, ?_,by omega⟩
  ·rw[← BY.rT] at q1
   show Own M' M.next T8 1 v' (BY.row (xs++ys)) (xs++ys).length
   rw[List.length_append]; exact q1
  ·exact p2.dH q2 fun c hc=>.inl (hbl c hc).1
  ·exact q2.ay p3 (by omega) (fun h=>(p5 _ h).1 rfl)
  ·exact q2.ay p4 (by omega) (fun h=>(p5 _ h).2 rfl)
  ·rcases q4 with rfl | q4
   ·exact p5
   ·intro c hc; have:=q4 c hc; omega
 have abM:∀ {Mx:RM} {x:Str},kQ Mx 1 [N .u8 0] false (St x)=some (x.length,BY.row x):=by intro Mx x; simp only[kQ,nO,if_true]
 have acT:∀ {Mx:RM} {q:Nat},Mx.heap q=some (.row [N .u8 0] false T8 0)→kQ Mx 1 [N .u8 0] false (.slc q 0 1 (.ex 1))=some (([0] : Str).length,BY.row [0]):=by
  intro Mx q h
  simp only[kQ,Nat.one_mul]
  rw[RM.jE h (by simp)]; rfl
 have hx0:(0:UInt8).toNat=0:=rfl
 have hbl:=Own.blk hz
 have p4:P M4 z (iG (fs.take i)):=⟨Own.keep hz (k3.trans k4) (by simp),(k03.trans k4),h34,h4,fun c hc=>by have:=(hbl c hc).2; omega,Nat.le_refl _⟩
 refine stG (ys:=p.1) p4 abM (by omega) fun z5 M5 p5=>?_
 have hb5:=p5.2.1.ay hb hbn (by simp)
 rw[hr1]
 refine⟨⟨p5.2.2.1,rfl⟩, ?_⟩
 rw[aA hb5 c1]
 refine⟨rfl, ?_⟩
 rw[bT,UA p5.2.1]
 refine⟨_,rfl,rfl, ?_⟩
 rw[hr1]
 refine⟨⟨p5.2.2.2.1,rfl⟩, ?_⟩
 refine stG (ys:=[0]) p5 (acT p5.2.2.1) (by simp; omega) fun z6 M6 p6=>?_
 have hb6:=p6.2.1.ay hb hbn (by simp)
 rw[aA hb6 c1]
 refine⟨rfl, ?_⟩
 rw[bT,UA p6.2.1]
 refine⟨_,rfl,rfl, ?_⟩
 rw[hr1]
 refine⟨⟨p6.2.2.2.1,rfl⟩, ?_⟩
 refine stG (ys:=p.2) p6 abM (by simp; omega) fun z7 M7 p7=>?_
 rw[hr1]
 refine⟨⟨p7.2.2.2.1,rfl⟩, ?_⟩
 refine stG (ys:=[0]) p7 (acT p7.2.2.2.1) (by simp; omega) fun z8 M8 p8=>?_
 rw[add1 (by omega)]
 refine hnext _ _ _ (by omega) ⟨i + 1,z8,rfl,rfl,by omega,p8.2.1, ?_⟩
 rw[hst]
 have e:iG (fs.take i)++(p.1++[0]++p.2++[0])=iG (fs.take i)++p.1++[0]++p.2++[0]:=by simp
 rw[e]; exact p8.1
end Go.Ab.Vc
namespace Go.Ab.Vc
open Go Go.Ab Go.Ab.Vl
theorem Ic:∀ (l:List Str) (t:List Ln),SL l=some t→∀ L∈t,ou eG L=true
 | [],t,h,L,hL=>by cases h; cases hL
 | s :: r,t,h,L,hL=>by
   rw[SL] at h
   split at h
   ·exact Ic r t h L hL
   ·split at h
    ·cases h
    ·cases hr:lN eG s with
     | none=>rw[hr] at h; cases h
     | some L0 =>
       rw[hr] at h
       dsimp only at h
       obtain⟨t',h2,rfl⟩:=Option.map_eq_some_iff.1 h
       rcases List.mem_cons.1 hL with rfl | hL
       ·exact YP (by rw[← KZ]; exact hr)
       ·exact Ic r t' h2 L hL
end Go.Ab.Vc
namespace Go.Ab.Vc
open Go Go.Ab Go.Ab.Vl Go.Ab.Sm
theorem abg {b o n k z:Nat} (h:k≤n) (h0:0<n) : jD z (.slc b o n (.op z)) none (some (N .i64 (k:Int))) none=some (.slc b o k (.op z)):=by
 simp only[jD,bnd]
 simp[h]
 omega
theorem aaY {M:RM} {n0 TL:Nat} {v:AV} {ls:List Li} {S:Nat→Prop} (h:eX gq M n0 TL v ls S) (hS:∀ b∈aH v,S b) {i:Nat} (h0:0<i) (hi:i≤ls.length) :
  ∃ v',jD 5 v none (some (N .i64 (i:Int))) none=some v'∧cB gq M v' (ls.take i) S:=by
 obtain⟨cs,ho,hr⟩:=h
 have hlen:0<ls.length:=by omega
 have hrt:=hr.take i
 have hl0:(ls.take i).length=i:=by simp; omega
 generalize ls.length=n at *
 cases ho with
 | nil=>omega
 | ex0=>omega
 | op b _ _ hb hlt hh hl =>
   refine⟨.slc b 0 i (.op 5),abg hi hlen,cs.take (i * 5), ?_,fun c hc=>hS c (by simpa [aH] using hc),hrt⟩
   rw[hl0]
   have hl:cs.length=n * 5:=hl
   exact .slc b 0 i _ _ hlt (by rw[RM.jE hh (by rw[hl]; show 0 + i * 5≤n * 5; omega)]; rfl)
theorem at3 {ds:List AV} {a b c:AV} {q:Nat} (h:ds.length=q) : (ds++[a,b,c])[q]?=some a∧(ds++[a,b,c])[q + 1]?=some b∧(ds++[a,b,c])[q + 2]?=some c:=by
 subst h
 refine⟨?_, ?_, ?_⟩ <;> rw[List.getElem?_append_right (by omega)] <;> simp
theorem abv {ds:List AV} {a b c x:AV} {q:Nat} (h:ds.length=q) : (ds++[a,b,c]).set q x=ds++[x,b,c]∧(ds++[a,b,c]).set (q + 1) x=ds++[a,x,c]:=by
 subst h
 refine⟨?_, ?_⟩ <;> rw[List.set_append_right _ _ (by omega)] <;> simp
theorem Z4 {n:Nat} (hn:n<4611686018427387904) {K:AV→Prop} : af .sub (N .i64 ((n + 1:Nat) : Int)) (N .i64 1) K=K (N .i64 (n:Int)):=by
 rw[gB,show((n + 1:Nat) : Int) - 1=(n:Int) by omega,bO (by omega) (by omega)]
theorem QT {b n:Nat} {K:AV→Prop} : aM (.slc b 0 (n + 1) (.op 3)) (N .i64 (n:Int)) 3 K=K (.ptr b (n * 3)):=by
 rw[qK]
 simp only[Int.toNat_natCast,Nat.zero_add]
 exact propext ⟨fun h=>h.2.2,fun h=>⟨by omega,by omega,h⟩⟩
structure FN (fs:List Fd) (ns:List Str) : Prop where
 len:fs.length=ns.length
 get:∀ k (h1:k<fs.length) (h2:k<ns.length),∃ j:Nat,j<100000000∧fs[k].1=iC ns[k] j∧scan false ns[k]=some false∧ns[k].length≤64
 sz:∀ p∈fs,p.1.length≤64∧p.2.length≤512
theorem FN.nil:FN [] []:=⟨rfl,fun k h=>by simp at h,by simp⟩
theorem FN.app {fs:List Fd} {ns:List Str} {n v:Str} {j:Nat} (h:FN fs ns) (hj:j<100000000) (hs:scan false n=some false) (h1:(iC n j).length≤64) (h2:v.length≤512) : FN (fs++[(iC n j,v)]) (ns++[n]):=by
 refine⟨by simp[h.len],fun k h3 h4=>?_,fun p hp=>?_⟩
 ·rcases Nat.lt_or_ge k fs.length with hk | hk
  ·rw[List.getElem_append_left hk,List.getElem_append_left (by have:=h.len; omega)]
   exact h.get k hk _
  ·have hl:=h.len
   simp at h3 h4
   have e:k=fs.length:=by omega
   subst e
   refine⟨j,hj, ?_, ?_, ?_⟩
   ·simp[hl]
   ·rw[List.getElem_append_right (by omega)]; simpa using hs
   ·rw[List.getElem_append_right (by omega)]
    obtain⟨b,e,_⟩:=X4 n j
    rw[e] at h1
    simp at h1 ⊢; omega
 ·rcases List.mem_append.1 hp with hp | hp
  ·exact h.sz p hp
  ·simp at hp; subst hp; exact⟨h1,h2⟩
theorem Za {ns:List Str} {k:Nat} (hk:k<ns.length) (n:Str) : fE (ns.take (k + 1)) n=fE (ns.take k) n + if ns[k]=n then 1 else 0:=by
 rw[List.take_succ_eq_append_getElem hk]
 unfold fE
 rw[List.countP_append,List.countP_singleton]
 simp
theorem adp (ns:List Str) (n:Str) : fE ns n≤ns.length:=List.countP_le_length
def Sn (lo:Nat) (M:RM) (TC TP:Nat) (o:AV) (done:List Cd) (a:Int) (fs:List Fd) : Prop :=
 ∃ (bo:Nat) (w:AV) (ds:List AV) (S:Nat→Prop),o=.slc bo 0 (done.length + 1) (.op 3)∧lo≤bo∧bo<M.next∧M.heap bo=some (.row (ds++[St [],w,N .i64 a]) true TC 0)∧fw uI M S ds done∧Ow mQ M lo TP w fs∧bo ∉ aH w ∧
   ∀ b,S b→lo≤b∧b<M.next∧b≠bo∧b ∉ aH w
theorem Sn.start {lo TC TP:Nat} {M:RM} {o:AV} {done:List Cd} {a:Int} {S:Nat→Prop} {zs:List AV} {K:ak} (h:eX uI M lo TC o done S) (hS:∀ b,S b→lo≤b∧b<M.next∧b ∉ aH o) (hlo:lo≤M.next) (hn:done.length≤1000000)
  (hK:∀ o' M',Sn lo M' TC TP o' done a []→ag (aH o) M M'→K o' M') : appW TC 3 48 zs false o (.slc M.next 0 1 (.ex 1)) (M.push (.row [St [],aJ,N .i64 a] false TC 0)) K:=by
 obtain⟨ds,ho,hr⟩:=h
 have hk:ag [] M (M.push (.row [St [],aJ,N .i64 a] false TC 0)):=(ag.refl _ _).push _
 have hnl:kQ (M.push (.row [St [],aJ,N .i64 a] false TC 0)) 3 zs false (.slc M.next 0 1 (.ex 1))=some (1,[St [],aJ,N .i64 a]):=by
  simp only[kQ,Nat.one_mul]
  rw[RM.jE (RM.aV _) (by simp)]; rfl
 have hb:=ho.blk
 refine wH (ho.keep hk (by simp)) (Nat.le_trans hlo hk.next) (by decide) hnl rfl rfl (by omega) (by omega) ?_
 intro v' M' q1 q2 q3 q4
 have kk:ag (aH o) M M':=(hk.mono (by simp)).trans q2
 have hr':=hr.keep kk fun b hb h=>(hS b h).2.2 hb
 have n1:(M.push (.row [St [],aJ,N .i64 a] false TC 0)).next=M.next + 1:=rfl
 refine hK v' M' ?_ kk
 generalize hcs:ds++[St [],aJ,N .i64 a]=cs at q1
 generalize hnn:done.length + 1=n at q1
 cases q1 with
 | nil=>omega
 | ex0=>omega
 | op b _ _ hb' hlt hh hl =>
   subst hcs hnn
   refine⟨b,aJ,ds,S,rfl,hb',hlt,hh,hr',.nil,by simp[aH],fun c hc=>?_⟩
   obtain⟨g1,g2,g3⟩:=hS c hc
   refine⟨g1,by omega,fun e=>?_,by simp[aH]⟩
   subst e
   rcases q4 with q4 | q4
   ·rw[← q4] at g3
    exact g3 (by simp[aH])
   ·have:=q4 c (by simp[aH])
    omega
def MSt (lo:Nat) (M:RM) (TC TP:Nat) (o:AV) (done:List Cd) : Option S9→Prop
 | none=>eX uI M lo TC o done (fun b=>lo≤b∧b<M.next∧b ∉ aH o)
 | some (x,_,_,_,fs)=>Sn lo M TC TP o done x.2 fs
def uw (ls:List Li) (i:Nat) : Option S9→Prop
 | none=>True
 | some (x,false,_)=>∃ pre,ls.take i=pre++[x]
 | some (x,true,lb,ns,fs)=>(∃ pre y,ls.take i=pre++x :: y :: lb∧y.1.n=dB)∧FN fs ns∧fs.length≤i
def VM (c:au) : Prop:=∀ {M:RM} {s:Str} {Q:ak},s.length≤90000 →
 (∀ M' w cs,ag [] M M'→sG Sha.dR s=.ok cs→cB uI M' w cs (fun b=>M.next≤b)→Q (.tup [w,N .i64 0,N .i64 0]) M') →
 (∀ M' k e,ag [] M M'→sG Sha.dR s=.error (k,e)→Q (.tup [aJ,N .i64 k,N .i64 e]) M')→c [St s] M Q
set_option maxHeartbeats 1000000 in
theorem Xm {TC TP TL:Nat} {cr cs cn cf cc cw:au} (hr:P8 TL cr) (hs:PK cs) (hn:QQ cn) (hf:QN cf) (hc:U6 cc) (hw:Vt cw) : VM fun args M Q=>∃ a0,args=[a0]∧si cr cs TC cn cf TP cc cw a0 M Q:=by
 intro M s Q hs5 hO hE
 refine⟨_,rfl, ?_⟩
 unfold si
 simp only[dN,CV,bL]
 unfold sG at hO hE
 refine hr (by omega) ?_ ?_
 rotate_left 1
 ·intro M1 k e k1 hrd
  rw[hrd] at hE
  have h0:e≠0:=zO _ _ hrd
  rw[cO,df,iO,di,show(e != 0)=true by simpa using h0,bC]
  exact hE M1 k e k1 rfl
 intro v M1 ls n0 k1 hrd hn0 hv hll
 rw[hrd] at hO hE
 dsimp only at hO hE
 have hall:=XU (by omega) hrd
 have hup:=ad6 (by omega) hrd
 have hgood:∀ x∈ls,ou eG x.1=true:=by
  obtain⟨t,t1,t2⟩:=QS _ _ _ hrd
  have t2:ls.map Prod.fst=t:=by simpa using t2
  intro x hx
  exact Ic _ _ t1 _ (by rw[← t2]; exact List.mem_map_of_mem hx)
 rw[cO,df,iO,di,show((0:Int) != 0)=false from rfl,bq]
 have hvb:=hv.blk
 have hvs:cB gq M1 v ls (fun b=>n0≤b∧b<M1.next):=(hv.zL fun b hb _=>hb).lt
 refine hs hvs (by omega) (fun x hx=>((hall x hx).1.mono (by omega)).lb) fun M2 k2=>?_
 have hv2:=hv.lt.keep k2 (by simp) (by simp)
 have n1:=k1.next
 have n2:=k2.next
 rw[gV]
 obtain⟨sh1,sh2⟩:=Xi (ls.length + 1) ls [] 0 (Nat.lt_succ_self _)
 cases hcu:ni (ls.length + 1) ls [] with
 | error wl =>
   rw[hcu] at hE
   dsimp only at hE
   rw[sh1 _ hcu]
   obtain⟨x,hx,rfl⟩:=Iq _ _ _ _ hcu
   rw[show decide (x.2 > 0)=true from decide_eq_true (hall x hx).2,bC]
   exact hE M2 x.2 3 (k1.trans k2) rfl
 | ok css =>
 rw[hcu] at hO hE
 dsimp only at hO hE
 rw[sh2 _ hcu,show decide ((0:Int) > 0)=false from rfl,bq]
 refine Jr ?_
 rw[aG]
 have hw0:eX uI (M2.push (.row [] false TC 0)) M2.next TC (.slc M2.next 0 0 (.ex 0)) [] (fun b=>M2.next≤b∧b<(M2.push (.row [] false TC 0)).next∧b ∉ aH (.slc M2.next 0 0 (.ex 0))):=⟨[],Own.lit M2 (Nat.le_refl _),.nil⟩
 have k3:ag [] M2 (M2.push (.row [] false TC 0)):=(ag.refl _ _).push _
 generalize AV.slc M2.next 0 0 (.ex 0)=w0 at *
 generalize M2.push (.row [] false TC 0)=M3 at *
 generalize hR:lq Sha.dR css []=R at *
 refine aI (fun m ys M4=>∃ (i:Nat) (o:AV) (done:List Cd) (cur:Option S9),m=ls.length - i∧ys=[o,N .i64 (i:Int)]∧i≤ls.length∧done.length≤i∧ag [] M2 M4 ∧
   PS Sha.dR R (ls.drop i) done cur∧MSt M2.next M4 TC TP o done cur∧uw ls i cur) _
  ⟨0,w0,[],none,rfl,rfl,Nat.zero_le _,Nat.le_refl _,k3,⟨css,hcu,hR⟩,hw0,trivial⟩ ?_
 rintro next m ys M4 hnext ⟨i,o,done,cur,rfl,rfl,hi,hdl,k4,hps,hms,Pf⟩
 dsimp only[ae]
 have n4:=k4.next
 have k24:ag [] M M4:=(k1.trans k2).trans k4
 have ae5:=hv2.keep k4 (by simp) (by simp)
 have hv4:cB gq M4 v ls (fun b=>n0≤b∧b<M1.next):=(hvs.keep k2 (by simp)).keep k4 (by simp)
 rw[hv4.len,gQ]
 refine aN (fun h=>?_) (fun h=>?_)
 rotate_left 1
 ·have h:¬ i<ls.length:=of_decide_eq_false h
  rw[List.drop_eq_nil_of_le (by omega)] at hps
  match cur,hps,hms with
  | none,hps,hms =>
    have hms:eX uI M4 M2.next TC o done (fun b=>M2.next≤b∧b<M4.next∧b ∉ aH o):=hms
    refine hO M4 o done k24 hps.nil ?_
    exact(hms.mono (S':=fun b=>M.next≤b) fun b h=>by omega).zL fun b h _=>by omega
  | some (x,false,lb,ns,fs),hps,_ =>
    obtain⟨_,_,_,y,r,h1,_⟩:=hps
    cases h1
  | some (x,true,lb,ns,fs),hps,_ =>
    obtain⟨y,r,h1,_⟩:=hps.body
    cases h1
 have h:i<ls.length:=of_decide_eq_true h
 obtain⟨pw,hpw,q5,q0,q1,q3,q4⟩:=qp hv4 h
 have hmem:=List.getElem_mem h
 have hsz:=(hall _ hmem).1
 have hgl:=hgood _ hmem
 have htk:ls.take (i + 1)=ls.take i++[ls[i]]:=List.take_succ_eq_append_getElem h
 rw[List.drop_eq_getElem_cons h] at hps
 refine aW (fun ys M'=>∃ (o' : AV) (done' : List Cd) (cur' : Option S9),ys=[o']∧done'.length≤i + 1∧ag [] M2 M'∧PS Sha.dR R (ls.drop (i + 1)) done' cur'∧MSt M2.next M' TC TP o' done' cur'∧uw ls (i + 1) cur') ?_ ?_
 ·rintro ys M5 ⟨o',done',cur',rfl,h1,h2,h3,h4,h5⟩
  dsimp only[ae]
  rw[add1 (by omega)]
  exact hnext _ _ _ (by omega) ⟨i + 1,o',done',cur',rfl,rfl,by omega,h1,h2,h3,h4,h5⟩
 intro J hJ
 rw[q1,dm]
 match cur,hps,hms,Pf with
 | none,hps,hms,_ =>
   have hms:eX uI M4 M2.next TC o done (fun b=>M2.next≤b∧b<M4.next∧b ∉ aH o):=hms
   obtain⟨hnm,Ir⟩:=hps.begin
   rw[hnm,show(kM == [98,101,103,105,110])=true from rfl,bC,q4,gN]
   refine⟨[St [],aJ,N .i64 ls[i].2],rfl, ?_⟩
   rw[gD (x:=.agg [St [],aJ,N .i64 ls[i].2]) (size:=3) rfl rfl rfl,aG]
   have hob:=hms.blk
   refine Sn.start (TP:=TP) hms (fun b hb=>hb) (by omega) (by omega) fun o' M5 h5 k5=>?_
   refine hJ _ _ ⟨o',done,_,rfl,by omega,k4.dH k5 fun c hc=>.inl (hob c hc).1,Ir,h5,⟨_,htk⟩⟩
 | some (x,false,lb,ns,fs),hps,hms,Pf =>
   have hms:Sn M2.next M4 TC TP o done x.2 fs:=hms
   obtain⟨pre,hpre⟩:=(Pf:∃ pre,ls.take i=pre++[x])
   have afr:=hps
   obtain⟨rfl,rfl,rfl,_⟩:=afr
   obtain⟨y,r,hyr,hnm,Ir⟩:=hps.ver
   cases hyr
   rw[hnm,show(dB == [98,101,103,105,110])=false from rfl,bq,q1,dm,hnm,show(dB == [118,101,114,115,105,111,110])=true from rfl]
   refine jF (p:=false) (fun h=>by cases h) ?_
   rw[show(true || false)=true from rfl,bC]
   refine aW (fun ys M'=>ys=[]∧M'=M4) ?_ ?_
   ·rintro ys M' ⟨rfl,rfl⟩
    exact hJ _ _ ⟨o,done,_,rfl,by omega,k4,Ir,hms,⟨⟨pre,_,by rw[htk,hpre]; simp,hnm⟩,FN.nil,by simp⟩⟩
   intro J2 hJ2
   rw[q1,dm,hnm,show(dB == [101,110,100])=false from rfl,bq]
   exact hJ2 _ _ ⟨rfl,rfl⟩
 | some (x,true,lb,ns,fs),hps,hms,Pf =>
   have hms:Sn M2.next M4 TC TP o done x.2 fs:=hms
   obtain⟨⟨pre,yv,hpre,hyv⟩,hfn,hfl⟩:=(Pf:(∃ pre y,ls.take i=pre++x :: y :: lb∧y.1.n=dB)∧FN fs ns∧fs.length≤i)
   obtain⟨y,r,hyr,hcase⟩:=hps.body
   cases hyr
   obtain⟨bo,w,ds,S,rfl,b1,b2,b3,b4,b5,b6,b7⟩:=hms
   have P7:ds.length=done.length * 3:=b4.len
   obtain⟨c0,c1,c2⟩:=at3 (a:=St []) (b:=w) (c:=N .i64 x.2) P7
   rcases hcase with⟨hnm,Ir⟩ | ⟨hres,hbig,hsmall⟩
   ·rw[hnm,show(rQ == [98,101,103,105,110])=false from rfl,bq,q1,dm,hnm,show(rQ == [118,101,114,115,105,111,110])=false from rfl]
    refine jF (p:=true) (fun _ kk hk=>by rw[q1,dm,hnm]; exact hk) ?_
    rw[show(false || true)=true from rfl,bC]
    refine aW (fun ys M'=>∃ (o' : AV) (done' : List Cd) (cur' : Option S9),ys=[]∧o'=.slc bo 0 (done.length + 1) (.op 3)∧done'.length≤i + 1∧ag [] M2 M'∧PS Sha.dR R (ls.drop (i + 1)) done' cur'∧MSt M2.next M' TC TP o' done' cur'∧uw ls (i + 1) cur') ?_ ?_
    ·rintro ys M' ⟨o',done',cur',rfl,rfl,h1⟩
     exact hJ _ _ ⟨_,done',cur',rfl,h1⟩
    intro J2 hJ2
    have h0i:0<i:=by
     have:=congrArg List.length hpre
     simp at this; omega
    obtain⟨v',hsub,afj⟩:=aaY (ae5.mono (S':=fun b=>n0≤b∧b<M1.next) fun b h=>h) (fun b hb=>hvb b hb) h0i hi
    rw[q1,dm,hnm,show(rQ == [101,110,100])=true from rfl,bC,oM,Z4 (by omega),QT,hsub,bK]
    refine hn (b:=bo) b3 b2 c0 c1 c2 (Own.jX b5) b6 afj (by omega) (by omega) hfn.sz (by simp; omega) fun M5 k5 h5=>?_
    rw[(abv P7).1,Ze hup hpre hyv] at h5
    have hbl:=Own.blk b5
    have n5:=k5.next
    refine hJ2 _ _ ⟨_,_,none,rfl,rfl,by simp; omega,k4.dH k5 fun c hc=>.inl (by simp at hc; omega),Ir, ?_,trivial⟩
    refine⟨ds++[St (nI Sha.dR lb (iG fs)),w,N .i64 x.2], ?_, ?_⟩
    ·rw[List.length_append]
     exact .op bo (done.length + 1) _ b1 (by omega) h5 (by simp[P7]; show _=(done.length + 1) * 3; omega)
    ·refine((b4.keep k5 fun b hb h=>?_).mono fun b h=>?_).append (fw.single (R:=uI) ⟨w,rfl,cB.TH (dE.keep (Own.jX b5) k5 fun b hb h=>?_) fun b hb=>?_⟩)
     ·simp at hb; subst hb; exact(b7 _ h).2.2.1 rfl
     ·have:=b7 b h; exact⟨this.1,by omega,by simp[aH]; exact this.2.2.1⟩
     ·simp at h; subst h; exact b6 hb
     ·have:=hbl b hb
      exact⟨this.1,by omega,fun h=>by simp[aH] at h; subst h; exact b6 hb⟩
   ·unfold uL at hres
    simp only[Bool.or_eq_false_iff,decide_eq_false_iff_not] at hres
    obtain⟨⟨r1,r2⟩,r3⟩:=hres
    have ne:∀ {t:Str},ls[i].1.n≠t→(ls[i].1.n == t)=false:=fun h=>by simpa using h
    rw[show(ls[i].1.n == [98,101,103,105,110])=false from ne r1,bq,q1,dm,show(ls[i].1.n == [118,101,114,115,105,111,110])=false from ne r2]
    refine jF (p:=false) (fun _ kk hk=>by rw[q1,dm,show(ls[i].1.n == [101,110,100])=false from ne r3]; exact hk) ?_
    rw[show(false || false)=false from rfl,bq,oM,Z4 (by omega),QT,q5]
    have hLB:=(hsz.mono (K:=1000000) (by omega)).lb
    have hnl:=hsz.nam
    refine hf (jo (k:=ls[i].2) hpw) hLB (by omega) fun M5 k5=>?_
    have hsc:=Xd hgl
    have hpl:=Ih hLB
    generalize hp:bS ls[i].1=p at *
    have k25:=k4.trans k5
    have n5:=k5.next
    rw[aG]
    refine zv (b:=0) 2 (x:=oP p) (cs:=[St p.1,St p.2]) rfl rfl _ rfl rfl rfl fun M6 k6 n6 h6=>?_
    have k46:=k5.trans k6
    have k26:=k25.trans k6
    have hb6:=k46.ay b3 b2 (by simp)
    have hw6:Sl mQ M6 w fs:=dE.keep (Own.jX b5) k46 (by simp)
    have hfl2:=hfn.len
    refine aI (fun m ys M7=>∃ k:Nat,m=fs.length - k∧ys=[N .i64 ((fE (ns.take k) p.1:Nat) : Int),N .i64 (k:Int)]∧k≤fs.length∧M7=M6) _ ⟨0,rfl,rfl,Nat.zero_le _,rfl⟩ ?_
    rintro pJ m ys M7 gm ⟨k,rfl,rfl,hk,rfl⟩
    dsimp only[ae]
    have hck:=adp (ns.take k) p.1
    rw[List.length_take] at hck
    rw[fP,dM,aA hb6 c1,dE.len hw6,gQ]
    refine aN (fun hlt=>?_) fun hge=>?_
    ·have hlt:k<fs.length:=of_decide_eq_true hlt
     have aby:k<ns.length:=by omega
     have hst:=Za aby p.1
     refine aW (fun ys M'=>M'=M7∧ys=[N .i64 ((fE (ns.take (k + 1)) p.1:Nat) : Int)]) ?_ ?_
     ·rintro ys M' ⟨rfl,rfl⟩
      dsimp only[ae]
      rw[add1 (by omega)]
      exact gm _ _ _ (by omega) ⟨k + 1,rfl,rfl,by omega,rfl⟩
     intro J2 hJ2
     obtain⟨j,hj,e1,e2,e3⟩:=hfn.get k hlt aby
     rw[fP,dM,aA hb6 c1,(F7 hw6 hlt).1,e1]
     refine hc (by omega) hj e2 fun t=>?_
     rw[cO,df,aT,aA h6 rfl,dm]
     refine aN (fun he=>?_) fun he=>?_
     ·have he:ns[k]=p.1:=by simpa using he
      rw[if_pos he] at hst
      rw[add1 (by omega)]
      exact hJ2 _ _ ⟨rfl,by rw[hst]⟩
     ·have he:¬ ns[k]=p.1:=by simpa using he
      rw[if_neg he] at hst
      exact hJ2 _ _ ⟨rfl,by rw[hst]; rfl⟩
    have hge:¬ k<fs.length:=of_decide_eq_false hge
    have hk2:k=ns.length:=by omega
    subst hk2
    rw[List.take_length]
    rw[List.take_length] at hck
    generalize hcn:fE ns p.1=q at *
    rw[aT,aA h6 rfl]
    refine hw (by omega) (by omega) fun M8 k8=>?_
    have n8:=k8.next
    have h8:=k8.ay h6 (by omega) (by simp)
    generalize hnf:iC p.1 q=nf at *
    rw[aT,bQ (l':=[St nf,St p.2]) h8 (by simp) rfl rfl rfl]
    have k9:ag [M5.next] M8 (M8.put M5.next (.row [St nf,St p.2] false TP 0)):=(ag.refl _ _).put _ (.inr (by simp))
    have h9:(M8.put M5.next (.row [St nf,St p.2] false TP 0)).heap M5.next=some (.row [St nf,St p.2] false TP 0):=aB _
    have n9:(M8.put M5.next (.row [St nf,St p.2] false TP 0)).next=M8.next:=rfl
    generalize M8.put M5.next (.row [St nf,St p.2] false TP 0)=M9 at *
    have k49:ag [] M4 M9:=(k46.trans k8).dH k9 fun c hc=>.inl (by simp at hc; omega)
    have k29:=k4.trans k49
    have hv9:=hv4.keep k49 (by simp)
    have hb9:=k49.ay b3 b2 (by simp)
    have hw9:Ow mQ M9 M2.next TP w fs:=Own.keep b5 k49 (by simp)
    have hbl:=Own.blk b5
    rw[aT,aA h9 rfl,bi,show(N .i64 (64:Int))=N .i64 ((64:Nat) : Int) from rfl,xQ]
    refine jF (p:=decide (p.2.length > 512)) (fun hc kk hk=>?_) ?_
    ·rw[aT,aA h9 rfl,bi,show(N .i64 (512:Int))=N .i64 ((512:Nat) : Int) from rfl,xQ]; exact hk
    refine aN (fun hb=>?_) (fun hb=>?_)
    ·simp only[Bool.or_eq_true,decide_eq_true_eq] at hb
     obtain⟨_,_,_,_,_,_,z4⟩:=qp hv9 h
     rw[z4]
     exact hE M9 _ 2 ((k1.trans k2).trans k29) (hbig (by rw[Va,hnf]; exact hb))
    ·simp only[Bool.or_eq_false_iff,decide_eq_false_iff_not] at hb
     have Ir:=hsmall (by rw[Va,hnf]; omega)
     rw[fP,dM,aA hb9 c1,aP (n:=2) h9 rfl,gD (x:=.agg [St nf,St p.2]) (size:=2) rfl rfl rfl,qL]
     refine iY (E:=mQ) (a:=(nf,p.2)) hw9 (by omega) (by decide) (by omega) (by omega) ?_
     intro w' Ma oa ka na hwv
     have hba:=ka.ay hb9 (by omega) b6
     have hob:=Own.blk oa
     have how' : oneCell w'=true:=dE.one (Own.jX oa)
     have Yu:w'.cells=[w']:=dE.cells (Own.jX oa)
     rw[fP,dM,bQ (l':=ds++[St [],w',N .i64 x.2]) hba (by simp[P7]) Yu how' (abv P7).2]
     have kb:ag [bo] Ma (Ma.put bo (.row (ds++[St [],w',N .i64 x.2]) true TC 0)):=(ag.refl _ _).put _ (.inr (by simp))
     have hbb:(Ma.put bo (.row (ds++[St [],w',N .i64 x.2]) true TC 0)).heap bo=some (.row (ds++[St [],w',N .i64 x.2]) true TC 0):=aB _
     have nb:(Ma.put bo (.row (ds++[St [],w',N .i64 x.2]) true TC 0)).next=Ma.next:=rfl
     generalize Ma.put bo (.row (ds++[St [],w',N .i64 x.2]) true TC 0)=Mb at *
     have abI:bo ∉ aH w':=by
      rcases hwv with rfl | hwv
      ·exact b6
      ·intro hm; have:=hwv bo hm; omega
     have k2b:ag [] M2 Mb:=(k29.dH ka fun c hc=>.inl (hbl c hc).1).dH kb fun c hc=>.inl (by simp at hc; omega)
     refine hJ _ _ ⟨_,done,_,rfl,by omega,k2b,Ir,⟨bo,w',ds,S,rfl,b1,by omega,hbb, ?_,Own.keep oa kb (fun c hc hm=>abI (by simp at hm; subst hm; exact hc)),abI,fun c hc=>?_⟩,⟨⟨pre,yv,by rw[htk,hpre]; simp,hyv⟩,(by rw[← hnf]; exact hfn.app (j:=q) (by omega) hsc (by rw[hnf]; omega) (by omega)),by simp; omega⟩⟩
     ·refine((b4.keep k49 (by simp)).keep ka fun c hc hm=>(b7 c hm).2.2.2 hc).keep kb fun c hc hm=>?_
      simp at hc; subst hc; exact(b7 _ hm).2.2.1 rfl
     ·obtain⟨g1,g2,g3,g4⟩:=b7 c hc
      refine⟨g1,by omega,g3, ?_⟩
      rcases hwv with rfl | hwv
      ·exact g4
      ·intro hm; have:=hwv c hm; omega
theorem acu {B:Base} {c:au} (h:LY B c) {M:RM} {s:Str} {Q:ak} (hM:M.base=B) (hs:s.length≤90000)
  (hO:∀ cs M' w,sG Sha.dR s=.ok cs→ag [] M M'→cB uI M' w cs (fun b=>M.next≤b)→cs.length≤s.length + 1→Q (.tup [w,N .i64 0,N .i64 0]) M')
  (hE:∀ M' k e,sG Sha.dR s=.error (k,e)→ag [] M M'→(e != 0)=true→Q (.tup [aJ,N .i64 k,N .i64 e]) M') : c [St s] M Q :=
 h hM (by omega) (fun ls hl=>by have:=OY hl; omega) (fun M' w cs k h1 h2 h3=>hO cs M' w h1 k h2 h3) (fun M' k e kk h1 h2=>hE M' k e h1 kk (by simpa using h2))
def QR (c:au) : Prop:=∀ {M:RM} {v w:AV} {xs:List Fd} {Q:ak},Sl mQ M v xs→Sl mQ M w xs→xs.length≤1000000000→Q (Bo true) M→c [v,w] M Q
theorem VC:QR fun args M Q=>∃ a0 a1,args=[a0,a1]∧uS a0 a1 M Q:=by
 intro M v w xs Q hv hw hl hQ
 refine⟨_,_,rfl, ?_⟩
 unfold uS
 simp only[dN,CV]
 rw[dE.len hv,dE.len hw,di,bne_self_eq_false,bq]
 refine aI (fun m yy M8=>∃ j:Nat,m=xs.length - j∧yy=[N .i64 (j:Int)]∧j≤xs.length∧M8=M) _ ⟨0,rfl,rfl,Nat.zero_le _,rfl⟩ ?_
 rintro next m yy M8 hnext ⟨j,rfl,rfl,hj,rfl⟩
 dsimp only[ae]
 rw[dE.len hv,gQ]
 refine aN (fun h=>?_) (fun _=>hQ)
 have h:j<xs.length:=of_decide_eq_true h
 rw[(F7 hv h).1,(F7 hw h).1,jP,bne_self_eq_false]
 refine adf (p:=false) (fun _ kk hk=>by rw[(F7 hv h).2,(F7 hw h).2,jP,bne_self_eq_false]; exact hk) ?_
 rw[show(false || false)=false from rfl,bq,add1 (by omega)]
 exact hnext _ _ _ (by omega) ⟨j + 1,rfl,rfl,by omega,rfl⟩
theorem QX {B:Base} {ca ci cr cp:au} (ha:AwC B ca) (hi:LY B ci) (hr:VM cr) (hp:QR cp) {s:Str} {M:RM} {Q:ak} (hM:M.base=B) (hQ:∀ M',ag [] M M'→Q (Bo true) M') :
  mZ ca ci cr cp (St s) M Q:=by
 unfold mZ
 simp only[dN,CV,bL]
 refine ha hM fun M1 k1=>?_
 rw[bX,show(!true)=false from rfl,bq,bi,show(N .i64 (5000:Int))=N .i64 ((5000:Nat) : Int) from rfl,xQ]
 refine aN (fun h=>hQ _ k1) (fun h=>?_)
 have h:¬ s.length > 5000:=of_decide_eq_false h
 refine acu hi (k1.base.trans hM) (by omega) (fun cs M2 v hx k2 hv hcl=>?_) (fun M2 k e hx k2 he=>?_)
 rotate_left 1
 ·rw[cO,df,iO]
  refine hr (by omega) (fun M3 w cs k3 h3 _=>by rw[hx] at h3; cases h3) (fun M3 k' e' k3 h3=>?_)
  rw[hx] at h3
  cases h3
  have k03:=(k1.trans k2).trans k3
  rw[cO,df,iO,di,bne_self_eq_false]
  refine jF (p:=false) (fun _ kk hk=>by rw[di,bne_self_eq_false]; exact hk) ?_
  refine jF (p:=false) (fun _ kk hk=>by rw[Cr,Cr,di]; exact hk) ?_
  rw[show((false || false) || false)=false from rfl,bq]
  refine aI (fun m yy M7=>yy=[N .i64 0]∧M7=M3) 0 ⟨rfl,rfl⟩ ?_
  rintro next m yy M7 hnext ⟨rfl,rfl⟩
  dsimp only[ae]
  rw[Cr,dO,show decide ((0:Int)<0)=false from rfl,bq]
  exact hQ _ k03
 rw[cO,df,iO]
 refine hr (by omega) (fun M3 u zs k3 h3 hu=>?_) (fun M3 k' e' k3 h3=>by rw[hx] at h3; cases h3)
 rw[hx] at h3
 cases h3
 have hfl:=aa9 hx
 have k03:=(k1.trans k2).trans k3
 have hv3:=hv.keep k3 (by simp)
 rw[cO,df,iO,di,bne_self_eq_false]
 refine jF (p:=false) (fun _ kk hk=>by rw[di,bne_self_eq_false]; exact hk) ?_
 refine jF (p:=false) (fun _ kk hk=>by rw[hv3.len,hu.len,di,bne_self_eq_false]; exact hk) ?_
 rw[show((false || false) || false)=false from rfl,bq]
 refine aI (fun m yy M7=>∃ i:Nat,m=cs.length - i∧yy=[N .i64 (i:Int)]∧i≤cs.length∧M7=M3) _ ⟨0,rfl,rfl,Nat.zero_le _,rfl⟩ ?_
 rintro pJ m yy M7 gm ⟨i,rfl,rfl,hil,rfl⟩
 dsimp only[ae]
 rw[hv3.len,gQ]
 refine aN (fun hlt=>?_) (fun hge=>hQ _ k03)
 have hlt:i<cs.length:=of_decide_eq_true hlt
 obtain⟨w,hw,_,q0,q1,q2⟩:=VL hv3 hlt
 obtain⟨t,ht,_,r0,r1,r2⟩:=VL hu hlt
 have hfi:=hfl _ (List.getElem_mem hlt)
 rw[q0,r0,jP,bne_self_eq_false]
 refine adf (p:=false) (fun _ kk hk=>by rw[q2,r2,di,bne_self_eq_false]; exact hk) ?_
 rw[show(false || false)=false from rfl]
 simp only[EE,cz,dJ]
 rw[q1,r1]
 refine hp hw.sl ht.sl (by omega) ?_
 rw[bX,show(!true)=false from rfl,bq,add1 (by omega)]
 exact gm _ _ _ (by omega) ⟨i + 1,rfl,rfl,by omega,rfl⟩
end Go.Ab.Vc
