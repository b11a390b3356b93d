/- Part 4 of the ground of the proofs of this seat (texts VlR to VlJ8). By an AI agent. -/
import Derived.Test.YtoikjkmmdpdkbaaGreatDoorVci3
import Derived.Lib.DecodeN
import Derived.Lib.ValidU
import Derived.Lib.ValidLaws
import Derived.Lib.IndexAny
import Derived.Lib.SlTrimSet
set_option maxRecDepth 100000
set_option linter.unusedVariables false
set_option linter.unusedSimpArgs false
namespace Go.Ab.Vl
open Go Go.Ab
def mM (n b0 b1 b2 b3:Nat) : Nat:=if Lib.decodeN n b0 b1 b2 b3=(65533,1) then 0 else(Lib.decodeN n b0 b1 b2 b3).2
section
variable {n b0 b1 b2 b3:Nat}
theorem zJ (h:b0<128) : mM n b0 b1 b2 b3=1:=by
 have:Lib.decodeN n b0 b1 b2 b3=(b0,1):=by simp[Lib.decodeN,h]
 rw[mM,this,if_neg (by intro e; cases e; omega)]
theorem pF (h:Lib.decodeN n b0 b1 b2 b3=(65533,1)) : mM n b0 b1 b2 b3=0:=by rw[mM,if_pos h]
theorem BP (h:128≤b0∧b0<194∨245≤b0) : mM n b0 b1 b2 b3=0:=by
 refine pF ?_
 unfold Lib.decodeN
 repeat' split
 all_goals first | rfl | (exfalso; omega)
theorem Dx (h:194≤b0∧b0<224) (hb:n<2∨b1<128∨191<b1) : mM n b0 b1 b2 b3=0:=by
 refine pF ?_
 unfold Lib.decodeN
 repeat' split
 all_goals first | rfl | (exfalso; omega)
theorem Vk (h:194≤b0∧b0<224) (hn:2≤n) (h1:128≤b1∧b1≤191) : mM n b0 b1 b2 b3=2:=by
 have:Lib.decodeN n b0 b1 b2 b3=(b0 % 32 * 64 + b1 % 64,2):=by
  unfold Lib.decodeN
  repeat' split
  all_goals first | rfl | (exfalso; omega)
 rw[mM,this,if_neg (fun e=>absurd (congrArg Prod.snd e) (by simp))]
theorem Cy (h:224≤b0∧b0<240) (hb:n<3∨b1<128∨191<b1∨b2<128∨191<b2) : mM n b0 b1 b2 b3=0:=by
 refine pF ?_
 unfold Lib.decodeN
 repeat' split
 all_goals first | rfl | (exfalso; omega)
theorem UM (h:224≤b0∧b0<240) (hn:3≤n) (h1:128≤b1∧b1≤191) (h2:128≤b2∧b2≤191) {v:Nat} (hv:v=64 * (64 * (b0 - 224) + b1 - 128) + b2 - 128) :
  mM n b0 b1 b2 b3=if v<2048∨55296≤v∧v<57344 then 0 else 3:=by
 have hv' : v=b0 % 16 * 4096 + b1 % 64 * 64 + b2 % 64:=by omega
 split
 ·rename_i hc
  refine pF ?_
  unfold Lib.decodeN
  repeat' split
  all_goals first | rfl | (exfalso; omega)
 ·rename_i hc
  have:Lib.decodeN n b0 b1 b2 b3=(b0 % 16 * 4096 + b1 % 64 * 64 + b2 % 64,3):=by
   unfold Lib.decodeN
   repeat' split
   all_goals first | rfl | (exfalso; omega)
  rw[mM,this,if_neg (fun e=>absurd (congrArg Prod.snd e) (by simp))]
theorem BN (h:240≤b0∧b0<245) (hb:n<4∨b1<128∨191<b1∨b2<128∨191<b2∨b3<128∨191<b3) : mM n b0 b1 b2 b3=0:=by
 refine pF ?_
 unfold Lib.decodeN
 repeat' split
 all_goals first | rfl | (exfalso; omega)
theorem ZC (h:240≤b0∧b0<245) (hn:4≤n) (h1:128≤b1∧b1≤191) (h2:128≤b2∧b2≤191) (h3:128≤b3∧b3≤191) {v:Nat} (hv:v=64 * (64 * (64 * (b0 - 240) + b1 - 128) + b2 - 128) + b3 - 128) :
  mM n b0 b1 b2 b3=if v<65536∨1114111<v then 0 else 4:=by
 have hv' : v=b0 % 8 * 262144 + b1 % 64 * 4096 + b2 % 64 * 64 + b3 % 64:=by omega
 split
 ·rename_i hc
  refine pF ?_
  unfold Lib.decodeN
  repeat' split
  all_goals first | rfl | (exfalso; omega)
 ·rename_i hc
  have:Lib.decodeN n b0 b1 b2 b3=(b0 % 8 * 262144 + b1 % 64 * 4096 + b2 % 64 * 64 + b3 % 64,4):=by
   unfold Lib.decodeN
   repeat' split
   all_goals first | rfl | (exfalso; omega)
  rw[mM,this,if_neg (fun e=>absurd (congrArg Prod.snd e) (by simp))]
end
def bt (s:List UInt8) (i:Nat) : Nat:=(s.getD i 0).toNat
theorem aat (s:List UInt8) (i:Nat) : bt s i<256:=ug _
theorem GL {s:List UInt8} {i:Nat} (hi:i<s.length) : s[i].toNat=bt s i:=by simp[bt,List.getD_eq_getElem?_getD,hi]
def dec (s:List UInt8) : Nat × Nat:=Lib.decodeN s.length (bt s 0) (bt s 1) (bt s 2) (bt s 3)
def rk (s:List UInt8) : Nat:=if s=[] then 0 else mM s.length (bt s 0) (bt s 1) (bt s 2) (bt s 3)
def rs (s:List UInt8) : Nat:=if s=[] then 0 else(dec s).2
theorem xA (s:List UInt8) : 1≤(dec s).2:=Lib.decodeN_ge1 _ _ _ _ _
theorem adI {s:List UInt8} (h:s≠[]) : rs s=if rk s=0 then 1 else rk s:=by
 have:=xA s
 simp only[rs,rk,if_neg h,mM]
 unfold dec at *
 split
 ·rename_i h1
  rw[h1]; rfl
 ·rename_i h1
  rw[if_neg (by omega)]
theorem Vr (n b0 b1 b2 b3:Nat) (hn:1≤n) : (Lib.decodeN n b0 b1 b2 b3).2≤n∧(Lib.decodeN n b0 b1 b2 b3).2≤4:=by
 unfold Lib.decodeN
 repeat' split
 all_goals (simp; try omega)
theorem yQ {s:List UInt8} (h:s≠[]) : 1≤rs s:=by simp only[rs,if_neg h]; exact xA s
theorem Gf {s:List UInt8} (h:s≠[]) : rs s≤s.length∧rs s≤4:=by
 simp only[rs,if_neg h]
 exact Vr _ _ _ _ _ (List.length_pos_iff.2 h)
def Vw (c:au) : Prop:=∀ {M:RM} {s:List UInt8} {Q:ak},s.length<9223372036854775807→Q (N .i64 (rk s)) M→c [St s] M Q
def acc (v0:Nat) (s:List UInt8) : Nat→Nat
 | 0=>v0
 | k + 1=>64 * acc v0 s k + bt s (k + 1) - 128
def Gp (f:(List AV→RM→Prop)→Prop) (g:List AV→RM→Prop) : Prop:=f g
theorem bL (f:(List AV→RM→Prop)→Prop) (g:List AV→RM→Prop) : bG f g=Gp f g:=rfl
theorem Cu {f:(List AV→RM→Prop)→Prop} {g:List AV→RM→Prop} (h:f g) : Gp f g:=h
theorem aW {H:(List AV→RM→Prop)→Prop} {G:List AV→RM→Prop} (P:List AV→RM→Prop) (hT:∀ xs M,P xs M→G xs M)
  (hH:∀ J:List AV→RM→Prop,(∀ xs M,P xs M→J xs M)→H J) : Gp H G:=hH G hT
theorem mV {x:Int} (h : -9223372036854775808≤x) (k:x<9223372036854775808) : IntKind.wrap .i64 x=x:=bO (by omega) (by omega)
theorem aaP {M:RM} (e3 e4 c1 c2 c3 c4 c5:Bool) {P0 Pk:RM→Prop} (h0:((e3 && (c1 || (c2 && c3))) || (e4 && (c4 || c5)))=true→P0 M) (h1:((e3 && (c1 || (c2 && c3))) || (e4 && (c4 || c5)))=false→Pk M) :
  aa (Bo e3) true (fun k'=>k' (Bo c1) M) (fun k=>k AV.undef M) fun t72 abZ =>
  aa t72 false (fun k'=>k' (Bo c2) abZ) (fun k=>k AV.undef abZ) fun t75 abN =>
  aa t75 true (fun k'=>k' (Bo c3) abN) (fun k=>k AV.undef abN) fun adj abx =>
  aa t72 false (fun aft=>aD t75 adj (Bo false) fun t78=>aft t78 abx) (fun k=>k AV.undef abx) fun ado acj =>
  aa (Bo e3) true (fun afp=>aD t72 (Bo true) ado fun t79=>afp t79 acj) (fun k=>k AV.undef acj) fun acI acF =>
  aD (Bo e3) acI (Bo false) fun t80 =>
  aa t80 false (fun k'=>k' (Bo e4) acF) (fun k=>k AV.undef acF) fun t84 adh =>
  aa t84 true (fun k'=>k' (Bo c4) adh) (fun k=>k AV.undef adh) fun t87 acN =>
  aa t87 false (fun k'=>k' (Bo c5) acN) (fun k=>k AV.undef acN) fun abH ac9 =>
  aa t84 true (fun af0=>aD t87 (Bo true) abH fun t90=>af0 t90 ac9) (fun k=>k AV.undef ac9) fun ab5 ace =>
  aa t80 false (fun aeA=>aD t84 ab5 (Bo false) fun t91=>aeA t91 ace) (fun k=>k AV.undef ace) fun acf abO =>
  aD t80 (Bo true) acf fun t92=>aj t92 (P0 abO) (Pk abO):=by
 cases e3 <;> cases e4 <;> cases c1 <;> cases c2 <;> cases c3 <;> cases c4 <;> cases c5 <;> simp_all [go_sem]
set_option maxRecDepth 8192 in
theorem VY:Vw fun args M Q=>∃ a0,args=[a0]∧wY a0 M Q:=by
 intro M s Q hl hQ
 refine⟨_,rfl, ?_⟩
 unfold wY
 simp only[dN,bL]
 simp only[go_sem]
 refine⟨fun h0=>?_,fun h0=>?_⟩
 ·have:s=[]:=List.eq_nil_of_length_eq_zero (by simp at h0; simp[h0])
  subst this; exact hQ
 ·have hne:s≠[]:=by intro e; subst e; simp at h0
  have hpos:0<s.length:=List.length_pos_iff.2 hne
  have hrk:rk s=mM s.length (bt s 0) (bt s 1) (bt s 2) (bt s 3):=by rw[rk,if_neg hne]
  have hg0:s[0]?=some s[0]:=List.getElem?_eq_getElem hpos
  have hb0:=GL hpos
  have hc:=ug s[0]
  generalize s[0]=c at *
  have hw:IntKind.wrap .i64 (c.toNat:Int)=(c.toNat:Int):=bO (by omega) (by omega)
  refine⟨by omega,c,by simpa using hg0, ?_⟩
  rw[hw,hb0]
  have hb:=aat s 0
  refine⟨fun h=>?_,fun h=>?_⟩
  ·rw[hrk,zJ (by simp at h; omega)] at hQ; exact hQ
  have h128:128≤bt s 0:=by simp at h; omega
  refine aW (fun xs M'=>M'=M∧∃ k v0:Nat,xs=[N .i64 k,N .i64 v0] ∧
   (k=2∧194≤bt s 0∧bt s 0<224∧v0=bt s 0 - 192∨k=3∧224≤bt s 0∧bt s 0<240∧v0=bt s 0 - 224∨k=4∧240≤bt s 0∧bt s 0<245∧v0=bt s 0 - 240)) ?_ ?_
  ·rintro _ M0 ⟨hM0,k,v0,rfl,hk⟩
   subst hM0
   have hk4:2≤k∧k≤4∧v0<32:=by omega
   have hbs:∀ i,bt s i<256:=aat s
   show af .lss _ _ _
   rw[show ae [N IntKind.i64 (k:Int),N IntKind.i64 (v0:Int)] 0=N .i64 (k:Int) from rfl,show ae [N IntKind.i64 (k:Int),N IntKind.i64 (v0:Int)] 1=N .i64 (v0:Int) from rfl,dO,Ck]
   refine⟨fun hlt=>?_,fun hge=>?_⟩
   ·have hlt:s.length<k:=by simpa using hlt
    have:rk s=0:=by
     rw[hrk]
     rcases hk with hk | hk | hk
     ·exact Dx (by omega) (by omega)
     ·exact Cy (by omega) (by omega)
     ·exact BN (by omega) (by omega)
    rw[this] at hQ; exact hQ
   have hge:k≤s.length:=by simpa using hge
   refine aI (fun m ys M'=>M'=M0∧∃ j:Nat,m=k - j∧ys=[N .i64 (acc v0 s j),N .i64 ((j + 1:Nat) : Int)]∧j + 1≤k∧(∀ i,1≤i→i≤j→128≤bt s i∧bt s i≤191) ∧
    (j=0∧acc v0 s j<32∨j=1∧acc v0 s j<4096∨j=2∧acc v0 s j<262144∨j=3∧acc v0 s j<33554432)) _ ⟨rfl,0,rfl,rfl,by omega,fun i h1 h2=>by omega,by simp[acc]; omega⟩ ?_
   rintro next m ys _ hnext ⟨rfl,j,rfl,rfl,hj,hall,hacc⟩
   rw[show ae [N IntKind.i64 (acc v0 s j:Int),N IntKind.i64 ((j + 1:Nat) : Int)] 0=N .i64 (acc v0 s j:Int) from rfl,show ae [N IntKind.i64 (acc v0 s j:Int),N IntKind.i64 ((j + 1:Nat) : Int)] 1=N .i64 ((j + 1:Nat) : Int) from rfl,dO,Ck]
   refine⟨fun hlt=>?_,fun Ai=>?_⟩
   ·have hlt:j + 1<k:=by
     have:=of_decide_eq_true hlt
     omega
    have hjs:j + 1<s.length:=by omega
    have hgj:s[j + 1]?=some s[j + 1]:=List.getElem?_eq_getElem hjs
    have hwj:IntKind.wrap .i64 (s[j + 1].toNat:Int)=(bt s (j + 1) : Int):=by rw[bO (by omega) (by have:=ug s[j + 1]; omega),GL hjs]
    have hbj:=hbs (j + 1)
    simp only[go_sem]
    refine⟨s[j + 1],hgj, ?_⟩
    rw[hwj]
    generalize hB:bt s (j + 1)=B at *
    have hbad:(B<128∨191<B)→rk s=0:=fun hb'=>by
     rw[hrk]
     have h3:j=0∨j=1∨j=2:=by omega
     rcases hk with hk | hk | hk
     ·obtain rfl:j=0:=by omega
      exact Dx (by omega) (by simp only[Nat.zero_add] at hB; omega)
     ·refine Cy (by omega) ?_
      rcases h3 with rfl | rfl | rfl <;> simp only[Nat.zero_add,Nat.reduceAdd] at hB <;> omega
     ·refine BN (by omega) ?_
      rcases h3 with rfl | rfl | rfl <;> simp only[Nat.zero_add,Nat.reduceAdd] at hB <;> omega
    by_cases c1:B<128
    ·have c1' : ((B:Int)<128):=by omega
     simp only[c1',decide_true,go_sem,if_true]
     rw[hbad (by omega)] at hQ; exact hQ
    ·have c1' : ¬ ((B:Int)<128):=by omega
     by_cases c2:191<B
     ·have c2' : (B:Int) > 191:=by omega
      simp only[c1',c2',decide_true,decide_false,go_sem,if_true]
      rw[hbad (by omega)] at hQ; exact hQ
     ·have c2' : ¬ ((B:Int) > 191):=by omega
      simp only[c1',c2',decide_true,decide_false,go_sem,if_true]
      have e1:acc v0 s (j + 1)=64 * acc v0 s j + B - 128:=by rw[acc,hB]
      have w1:IntKind.wrap .i64 (64 * (acc v0 s j:Int))=64 * (acc v0 s j:Int):=mV (by omega) (by omega)
      have w2:IntKind.wrap .i64 (64 * (acc v0 s j:Int) + (B:Int))=64 * (acc v0 s j:Int) + (B:Int):=mV (by omega) (by omega)
      have w3:IntKind.wrap .i64 (64 * (acc v0 s j:Int) + (B:Int) - 128)=(acc v0 s (j + 1) : Int):=by rw[mV (by omega) (by omega),e1]; omega
      have w4:IntKind.wrap .i64 (((j + 1:Nat) : Int) + 1)=((j + 2:Nat) : Int):=by rw[mV (by omega) (by omega)]; omega
      rw[w1,w2,w3,w4]
      refine hnext _ _ _ (by omega) ⟨rfl,j + 1,rfl,rfl,by omega,fun i h1 h2=>?_,by omega⟩
      by_cases hi:i=j + 1
      ·subst hi; omega
      ·exact hall i h1 (by omega)
   ·have Ai:=of_decide_eq_false Ai
    obtain rfl:k=j + 1:=by omega
    have hrest:rk s=if j + 1=3∧(acc v0 s j<2048∨55296≤acc v0 s j∧acc v0 s j<57344)∨j + 1=4∧(acc v0 s j<65536∨1114111<acc v0 s j) then 0 else j + 1:=by
     rw[hrk]
     rcases hk with hk | hk | hk
     ·obtain rfl:j=1:=by omega
      rw[Vk (by omega) (by omega) (hall 1 (by omega) (by omega)),if_neg (by omega)]
     ·obtain rfl:j=2:=by omega
      rw[UM (v:=acc v0 s 2) (by omega) (by omega) (hall 1 (by omega) (by omega)) (hall 2 (by omega) (by omega)) (by simp only[acc]; rw[hk.2.2.2])]
      simp
     ·obtain rfl:j=3:=by omega
      rw[ZC (v:=acc v0 s 3) (by omega) (by omega) (hall 1 (by omega) (by omega)) (hall 2 (by omega) (by omega)) (hall 3 (by omega) (by omega)) (by simp only[acc]; rw[hk.2.2.2])]
      simp
    rw[hrest] at hQ
    generalize acc v0 s j=A at *
    simp only[dO,dL,gV,bH]
    refine aaP _ _ _ _ _ _ _ (fun h=>?_) (fun h=>?_)
    ·simp only[Bool.or_eq_true,Bool.and_eq_true,decide_eq_true_eq,beq_iff_eq] at h
     rw[if_pos (by omega)] at hQ; exact hQ
    ·rw[Bool.eq_false_iff] at h
     simp only[ne_eq,Bool.or_eq_true,Bool.and_eq_true,decide_eq_true_eq,beq_iff_eq] at h
     rw[if_neg (by omega)] at hQ; exact hQ
  ·intro J hJ
   have cmp:∀ k:Nat,decide ((bt s 0:Int) ≥ (k:Int))=decide (k≤bt s 0):=fun k=>by simp
   have cml:∀ k:Nat,decide ((bt s 0:Int)<(k:Int))=decide (bt s 0<k):=fun k=>by simp
   have abG:=cmp 194
   have e224:=cmp 224
   have e240:=cmp 240
   have Px:=cml 224
   have Uz:=cml 240
   have Zu:=cml 245
   simp only[Int.cast_ofNat_Int] at abG e224 e240 Px Uz Zu
   rw[abG]
   by_cases c1:194≤bt s 0
   ·by_cases c2:bt s 0<224
    ·simp only[c1,c2,Px,go_sem,decide_true,if_true]
     refine hJ _ _ ⟨rfl,2,bt s 0 - 192, ?_,by omega⟩
     rw[mV (by omega) (by omega)]; congr 3; omega
    ·by_cases c3:bt s 0<240
     ·simp only[c1,c2,c3,Px,e224,Uz,show 224≤bt s 0 by omega,go_sem,decide_true,decide_false,if_true]
      refine hJ _ _ ⟨rfl,3,bt s 0 - 224, ?_,by omega⟩
      rw[mV (by omega) (by omega)]; congr 3; omega
     ·by_cases c4:bt s 0<245
      ·simp only[c1,c2,c3,c4,Px,e224,Uz,e240,Zu,show 224≤bt s 0 by omega,show 240≤bt s 0 by omega,go_sem,decide_true,decide_false,if_true]
       refine hJ _ _ ⟨rfl,4,bt s 0 - 240, ?_,by omega⟩
       rw[mV (by omega) (by omega)]; congr 3; omega
      ·simp only[c1,c2,c3,c4,Px,e224,Uz,e240,Zu,show 224≤bt s 0 by omega,show 240≤bt s 0 by omega,go_sem,decide_true,decide_false,if_true]
       rw[hrk,BP (by omega)] at hQ; exact hQ
   ·simp only[c1,e224,e240,show ¬ 224≤bt s 0 by omega,show ¬ 240≤bt s 0 by omega,go_sem,decide_true,decide_false,if_true,Bool.false_eq_true,if_false]
    rw[hrk,BP (by omega)] at hQ; exact hQ
set_option maxRecDepth 10000
theorem Ur {s:List UInt8} : rk s≤s.length∧rk s≤4:=by
 by_cases h:s=[]
 ·subst h; simp[rk]
 ·have h1:=adI h
  have h2:=Gf h
  by_cases h0:rk s=0
  ·omega
  ·rw[if_neg h0] at h1; omega
theorem wJ {s:List UInt8} (h:s≠[]) {k:Nat} (hk:1≤k) : (s.drop k).length<s.length:=by
 have:=List.length_pos_iff.2 h
 simp; omega
theorem abd {n m b0 b1 b2 b3 c1 c2 c3 k:Nat} (h:mM n b0 b1 b2 b3=k) (h0:k≠0) (hm:k≤m) (e1:2≤k→c1=b1) (e2:3≤k→c2=b2) (e3:4≤k→c3=b3) : mM m b0 c1 c2 c3=k:=by
 by_cases r1:b0<128
 ·rw[zJ r1] at h ⊢; exact h
 by_cases r2:b0<194∨245≤b0
 ·rw[BP (by omega)] at h; exact absurd h.symm h0
 by_cases r3:b0<224
 ·by_cases g:n<2∨b1<128∨191<b1
  ·rw[Dx (by omega) g] at h; exact absurd h.symm h0
  ·rw[Vk (by omega) (by omega) (by omega)] at h
   subst h
   have:=e1 (by omega)
   exact Vk (by omega) (by omega) (by omega)
 by_cases r4:b0<240
 ·by_cases g:n<3∨b1<128∨191<b1∨b2<128∨191<b2
  ·rw[Cy (by omega) g] at h; exact absurd h.symm h0
  ·rw[UM (by omega) (by omega) (by omega) (by omega) rfl] at h
   have hk:k=3:=by split at h <;> omega
   subst hk
   obtain rfl:=e1 (by omega)
   obtain rfl:=e2 (by omega)
   rw[UM (by omega) (by omega) (by omega) (by omega) rfl]; exact h
 ·by_cases g:n<4∨b1<128∨191<b1∨b2<128∨191<b2∨b3<128∨191<b3
  ·rw[BN (by omega) g] at h; exact absurd h.symm h0
  ·rw[ZC (by omega) (by omega) (by omega) (by omega) (by omega) rfl] at h
   have hk:k=4:=by split at h <;> omega
   subst hk
   obtain rfl:=e1 (by omega)
   obtain rfl:=e2 (by omega)
   obtain rfl:=e3 (by omega)
   rw[ZC (by omega) (by omega) (by omega) (by omega) (by omega) rfl]; exact h
theorem JW {s:List UInt8} {k i:Nat} (t:List UInt8) (hk:k≤s.length) (hi:i<k) : bt (s.take k++t) i=bt s i:=by
 simp only[bt,List.getD_eq_getElem?_getD]
 rw[List.getElem?_append_left (by simp; omega),List.getElem?_take_of_lt hi]
theorem ac3 {s t:List UInt8} (h0:rk s≠0) : rk (s.take (rk s)++t)=rk s:=by
 have hl:=Ur (s:=s)
 have hne:s≠[]:=by intro e; subst e; simp[rk] at h0
 have hne' : s.take (rk s)++t≠[]:=by
  intro e
  have:=congrArg List.length e
  rw[List.length_append,List.length_take,Nat.min_eq_left hl.1] at this
  simp only[List.length_nil] at this; omega
 have hk:mM s.length (bt s 0) (bt s 1) (bt s 2) (bt s 3)=rk s:=by rw[rk,if_neg hne]
 rw[show rk (s.take (rk s)++t)=mM (s.take (rk s)++t).length (bt (s.take (rk s)++t) 0) (bt (s.take (rk s)++t) 1) (bt (s.take (rk s)++t) 2) (bt (s.take (rk s)++t) 3) by rw[rk,if_neg hne']]
 rw[JW t hl.1 (show 0<rk s by omega)]
 exact abd hk h0 (by simp; omega) (fun h=>JW t hl.1 (by omega)) (fun h=>JW t hl.1 (by omega)) (fun h=>JW t hl.1 (by omega))
def iL (s:List UInt8) : Bool:=if s=[] then true else if h:rk s=0 then false else iL (s.drop (rk s)) termination_by s.length decreasing_by exact wJ (by assumption) (by omega)
theorem Le:iL []=true:=by rw[iL]; simp
theorem Lp {s:List UInt8} (hne:s≠[]) (h:rk s=0) : iL s=false:=by rw[iL]; simp[hne,h]
theorem yG {s:List UInt8} (h:rk s≠0) : iL s=iL (s.drop (rk s)):=by
 have hne:s≠[]:=by intro e; subst e; simp[rk] at h
 rw[iL]; simp[hne,h]
theorem ady {s:List UInt8} (hne:s≠[]) (h:iL s=true) : rk s≠0:=fun h0=>by rw[Lp hne h0] at h; cases h
def fo (u:Nat) (s:List UInt8) : List UInt8 :=
 if s=[] then[] else if u + rs s > 75 then[13,10,32]++s.take (rs s)++fo (1 + rs s) (s.drop (rs s)) else s.take (rs s)++fo (u + rs s) (s.drop (rs s)) termination_by s.length decreasing_by all_goals exact wJ (by assumption) (yQ (by assumption))
theorem JG (u:Nat) : fo u []=[]:=by rw[fo]; simp
theorem OH {u:Nat} {s:List UInt8} (hne:s≠[]) (h:75<u + rs s) : fo u s=[13,10,32]++s.take (rs s)++fo (1 + rs s) (s.drop (rs s)):=by
 rw[fo,if_neg hne,if_pos (by omega)]
theorem Mf {u:Nat} {s:List UInt8} (hne:s≠[]) (h:u + rs s≤75) : fo u s=s.take (rs s)++fo (u + rs s) (s.drop (rs s)):=by
 rw[fo,if_neg hne,if_neg (by omega)]
def pc (lim:Nat) (s:List UInt8) : Nat:=if s=[] then 0 else if rs s > lim then 0 else rs s + pc (lim - rs s) (s.drop (rs s)) termination_by s.length decreasing_by exact wJ (by assumption) (yQ (by assumption))
theorem V3 (l:Nat) : pc l []=0:=by rw[pc]; simp
theorem Qw {l:Nat} {s:List UInt8} (h:l<rs s) : pc l s=0:=by rw[pc]; simp; intro _ _; omega
theorem GH {l:Nat} {s:List UInt8} (hne:s≠[]) (h:rs s≤l) : pc l s=rs s + pc (l - rs s) (s.drop (rs s)):=by
 rw[pc,if_neg hne,if_neg (by omega)]
theorem Z6:∀ (n:Nat) {l:Nat} {s:List UInt8},s.length≤n→pc l s≤s.length
 | n,l,s,hn=>by
   by_cases hne:s=[]
   ·subst hne; simp[V3]
   by_cases h:l<rs s
   ·simp[Qw h]
   rw[GH hne (by omega)]
   have h1:=yQ hne
   have h2:=Gf hne
   cases n with
   | zero=>exact absurd (List.eq_nil_of_length_eq_zero (by omega)) hne
   | succ n =>
     have:=Z6 n (l:=l - rs s) (s:=s.drop (rs s)) (by simp; omega)
     simp at this; omega
theorem ab4 {l:Nat} {s:List UInt8} (hne:s≠[]) (h:4≤l) : 1≤pc l s:=by
 have h1:=yQ hne
 have h2:=Gf hne
 rw[GH hne (by omega)]; omega
theorem Z5:∀ (n:Nat) {u:Nat} {s:List UInt8},s.length≤n→u≤75→fo u s=s.take (pc (75 - u) s)++(if s.drop (pc (75 - u) s)=[] then[] else[13,10,32]++fo 1 (s.drop (pc (75 - u) s)))
 | n,u,s,hn,hu=>by
   by_cases hne:s=[]
   ·subst hne; simp[JG]
   have h1:=yQ hne
   have h2:=Gf hne
   by_cases h:75<u + rs s
   ·rw[Qw (by omega),OH hne h]
    simp only[List.take_zero,List.drop_zero,List.nil_append,if_neg hne]
    rw[Mf (u:=1) hne (by omega)]; simp
   ·rw[GH hne (by omega),Mf hne (by omega)]
    cases n with
    | zero=>exact absurd (List.eq_nil_of_length_eq_zero (by omega)) hne
    | succ n =>
      rw[Z5 n (u:=u + rs s) (by simp; omega) (by omega),List.take_add,← List.drop_drop,show 75 - (u + rs s)=75 - u - rs s by omega,List.append_assoc]
theorem JZ:∀ (n:Nat) {u:Nat} {s:List UInt8},s.length≤n→(fo u s).length≤4 * s.length
 | n,u,s,hn=>by
   by_cases hne:s=[]
   ·subst hne; simp[JG]
   have h1:=yQ hne
   have h2:=Gf hne
   cases n with
   | zero=>exact absurd (List.eq_nil_of_length_eq_zero (by omega)) hne
   | succ n =>
     by_cases h:75<u + rs s
     ·rw[OH hne h]
      have:=JZ n (u:=1 + rs s) (s:=s.drop (rs s)) (by simp; omega)
      simp at this ⊢; omega
     ·rw[Mf hne (by omega)]
      have:=JZ n (u:=u + rs s) (s:=s.drop (rs s)) (by simp; omega)
      simp at this ⊢; omega
theorem fO {s:List UInt8} {h:Nat} (h2:h≤s.length) (k2:IntKind) : aR (St s) none (some (N k2 (h:Int)))=some (St (s.take h)):=by
 have:=tX (s:=s) (l:=0) (h:=h) (by omega) h2 .i64 k2
 rw[List.drop_zero,Nat.sub_zero] at this; exact this
def KV (c:au) : Prop:=∀ {M:RM} {s:List UInt8} {Q:ak},s.length≤1000000000→Q (Bo (iL s)) M→c [St s] M Q
theorem Rm {cr:au} (hr:Vw cr) : KV fun args M Q=>∃ a0,args=[a0]∧sH cr a0 M Q:=by
 intro M s Q hl hQ
 refine⟨_,rfl, ?_⟩
 unfold sH
 refine aI (fun m ys M'=>M'=M∧∃ t:List UInt8,m=t.length∧ys=[St t]∧t.length≤s.length∧iL t=iL s) _ ⟨rfl,s,rfl,rfl,Nat.le_refl _,rfl⟩ ?_
 rintro next m ys M' hnext ⟨rfl,t,rfl,rfl,ht,hf⟩
 simp only[go_sem]
 refine⟨fun hlt=>?_,fun hge=>?_⟩
 ·have hne:t≠[]:=by intro e; subst e; simp at hlt
  refine hr (by omega) ?_
  have hle:=Ur (s:=t)
  by_cases h0:rk t=0
  ·rw[h0]
   simp only[go_sem,show(((0:Nat) : Int) == 0)=true from rfl]
   rw[Lp hne h0] at hf; rw[hf]; exact hQ
  ·have e0:((rk t:Int) == 0)=false:=by simp; omega
   simp only[go_sem,e0]
   rw[bB hle.1]
   simp only[go_sem]
   refine hnext _ _ _ (wJ hne (by omega)) ⟨rfl,_,rfl,rfl, ?_, ?_⟩
   ·simp; omega
   ·rw[← yG h0,hf]
 ·have:t=[]:=by
   apply List.eq_nil_of_length_eq_zero
   have:=of_decide_eq_false hge
   omega
  subst this
  rw[Le] at hf; rw[hf]; exact hQ
theorem aa5 {α:Type} {l t s:List α} (h:l++t=s) : l.length≤s.length:=by rw[← h]; simp
def Qg (B:Base) (c:au) : Prop:=∀ {M:RM} {s:List UInt8} {Q:ak},M.base=B→s≠[]→s.length≤1000000→(∀ r:AV,Q (.tup [r,N .i64 (rs s)]) M)→c [St s] M Q
def PM (B:Base) (c:au) : Prop:=∀ {M:RM} {s:List UInt8} {l:Nat} {Q:ak},M.base=B→s.length≤1000000→l≤1000→Q (N .i64 (pc l s)) M→c [St s,N .i64 l] M Q
theorem Vo {B:Base} {cd:au} (hd:Qg B cd) : PM B fun args M Q=>∃ a0 a1,args=[a0,a1]∧vB cd a0 a1 M Q:=by
 intro M s l Q hM hl hll hQ
 refine⟨_,_,rfl, ?_⟩
 unfold vB
 simp only[go_sem]
 refine aI (fun m ys M'=>M'=M∧∃ i:Nat,m=s.length - i∧ys=[N .i64 i]∧i≤s.length∧i≤l∧i + pc (l - i) (s.drop i)=pc l s) _ ⟨rfl,0,rfl,rfl,Nat.zero_le _,Nat.zero_le _,by simp⟩ ?_
 rintro next m ys M' hnext ⟨rfl,i,rfl,rfl,hi,hil,hp⟩
 simp only[go_sem]
 refine⟨fun hlt=>?_,fun hge=>?_⟩
 ·have hlt:i<s.length:=by have:=of_decide_eq_true hlt; omega
  have hne:s.drop i≠[]:=by intro e; have:=congrArg List.length e; simp at this; omega
  have h1:=yQ hne
  have h2:=Gf hne
  rw[List.length_drop] at h2
  rw[bB hi]
  simp only[go_sem]
  refine hd hM hne (by simp; omega) fun r=>?_
  have e1:IntKind.wrap .i64 ((i:Int) + (rs (s.drop i) : Int))=((i + rs (s.drop i) : Nat) : Int):=by rw[mV (by omega) (by omega)]; omega
  simp only[go_sem,e1]
  refine⟨fun h=>?_,fun h=>?_⟩
  ·have h:l<i + rs (s.drop i):=by have:=of_decide_eq_true h; omega
   rw[Qw (by omega),Nat.add_zero] at hp
   rw[hp]; exact hQ
  ·have h:i + rs (s.drop i)≤l:=by have:=of_decide_eq_false h; omega
   rw[GH hne (by omega),List.drop_drop] at hp
   exact hnext _ _ _ (by omega) ⟨rfl,_,rfl,rfl,by omega,h,by rw[← hp,show l - (i + rs (s.drop i))=l - i - rs (s.drop i) by omega]; omega⟩
 ·have hge:s.length≤i:=by have:=of_decide_eq_false hge; omega
  rw[List.drop_eq_nil_of_le hge,V3,Nat.add_zero] at hp
  rw[hp]; exact hQ
theorem Ww {B:Base} {TB T8:Nat} {cp cs ct:au} (hp:PM B cp) (hs:rC TB T8 cs) (ht:wI TB T8 ct) {M:RM} {s:List UInt8} {Q:ak} (hM:M.base=B) (hl:s.length≤1000000) (hQ:∀ M',ag [] M M'→Q (St (fo 0 s)) M') :
  xU TB cp cs ct (St s) M Q:=by
 unfold xU
 simp only[aG]
 generalize hM2:M.push (.row [.sc (.pointer none),.sc (.slice none 0 0)] false TB 0)=M2
 have hn2:M2.next=M.next + 1:=by rw[← hM2]; rfl
 have hk2:ag [] M M2:=by rw[← hM2]; exact(ag.refl _ _).push _
 have hb0:lg TB T8 M2.next M2 M.next []:=lg.new (by rw[← hM2]; simp[go_sem]) (by omega) (Nat.le_refl _)
 have hfl:=JZ s.length (u:=0) (s:=s) (Nat.le_refl _)
 refine aI (fun m ys M3=>∃ (t w:List UInt8) (u:Nat),m=t.length∧ys=[St t,N .i64 ((75 - u:Nat) : Int)]∧u≤1∧t.length≤s.length∧lg TB T8 M2.next M3 M.next w∧w++fo u t=fo 0 s∧ig M2.next [M.next] M2 M3) _
  ⟨s,[],0,rfl,rfl,by omega,Nat.le_refl _,hb0,rfl,ig.refl _ _ _⟩ ?_
 rintro next m ys M3 hnext ⟨t,w,u,rfl,rfl,hu,ht',hB,hw,hK⟩
 have hwl:=aa5 hw
 by_cases hne:t=[]
 ·subst hne
  simp only[go_sem,bne_self_eq_false]
  rw[JG,List.append_nil] at hw
  subst hw
  refine ht hB (by omega) fun M4 k4=>hQ M4 ?_
  refine hk2.LQ (hK.trans ⟨k4.base,k4.next,fun c h1 h2=>k4.heap c h1 (by simp)⟩) (by omega) fun c hc=>.inl (by simp at hc; omega)
 ·have hne' : (t != [])=true:=by simp[hne]
  simp only[go_sem,hne']
  have hb3:M3.base=B:=by rw[hK.base,hk2.base,hM]
  refine hp hb3 (by omega) (by omega) ?_
  have hpl:=Z6 t.length (l:=75 - u) (s:=t) (Nat.le_refl _)
  have hpp:=ab4 hne (show 4≤75 - u by omega)
  rw[Z5 t.length (Nat.le_refl _) (by omega)] at hw
  generalize pc (75 - u) t=n at *
  rw[fO hpl,bB hpl]
  simp only[go_sem]
  have hx:=congrArg List.length hw
  simp only[List.length_append] at hx
  refine hs hB (by omega) fun M4 hB4 k4=>?_
  by_cases hz:t.drop n=[]
  ·rw[hz]
   simp only[go_sem,bne_self_eq_false]
   refine hnext _ _ _ (by simp; exact List.length_pos_iff.2 hne) ⟨[],_,1,rfl,rfl,by omega,Nat.zero_le _,hB4, ?_,hK.trans k4⟩
   rw[if_pos hz] at hw
   rw[JG,← hw]; simp
  ·have hz' : (t.drop n != [])=true:=by simp[hz]
   rw[if_neg hz] at hw hx
   simp only[go_sem,hz']
   simp only[List.length_append,List.length_cons,List.length_nil] at hx
   refine hs (s:=[13,10,32]) hB4 (by simp; omega) fun M5 hB5 k5=>?_
   refine hnext _ _ _ (wJ hne hpp) ⟨_,_,1,rfl,rfl,by omega,by simp; omega,hB5, ?_,(hK.trans k4).trans k5⟩
   rw[← hw]; simp
def nl:List UInt8→Option (List UInt8 × List UInt8)
 | []=>none
 | c :: t=>if c.toNat=10 then some ([],t) else(nl t).map fun p=>(c :: p.1,p.2)
theorem PG:∀ s:List UInt8,(nl s=none∧Lib.indexByte s 10=-1)∨∃ a b,nl s=some (a,b)∧Lib.indexByte s 10=(a.length:Int)∧s=a++10 :: b
 | []=>.inl ⟨rfl,rfl⟩
 | c :: t=>by
   by_cases h:c.toNat=10
   ·obtain rfl:c=10:=UInt8.toNat_inj.1 h
    exact .inr ⟨[],t,by simp[nl],by simp[Lib.indexByte],rfl⟩
   ·have hc:(c == (10:UInt8))=false:=by
     simp only[beq_eq_false_iff_ne,ne_eq]
     intro e; subst e; exact h rfl
    rcases PG t with⟨h1,h2⟩ | ⟨a,b,h1,h2,h3⟩
    ·exact .inl ⟨by simp[nl,h,h1],by simp[Lib.indexByte,hc,h2]⟩
    ·refine .inr ⟨c :: a,b,by simp[nl,h,h1], ?_,by rw[h3]; rfl⟩
     have:((a.length:Int) == -1)=false:=by simp
     simp[Lib.indexByte,hc,h2,this]
def strip (s:List UInt8) : List UInt8:=if s.drop (s.length - 1)=[13] then s.take (s.length - 1) else s
theorem MM (a:List UInt8) : (strip a).length≤a.length:=by
 unfold strip; split
 ·simp
 ·exact Nat.le_refl _
def eY:List UInt8→List UInt8→List (List UInt8)
 | cur,[]=>if cur=[] then[] else[cur]
 | cur,c :: t=>if c.toNat=10 then strip cur :: eY [] t else eY (cur++[c]) t
theorem LK:∀ (s cur:List UInt8),eY cur s=match nl s with | some (a,b)=>strip (cur++a) :: eY [] b | none=>if cur++s=[] then[] else[cur++s]
 | [],cur=>by simp[eY,nl]
 | c :: t,cur=>by
   by_cases h:c.toNat=10
   ·simp[eY,nl,h]
   ·simp only[eY,nl,if_neg h]
    rw[LK t (cur++[c])]
    cases nl t with
    | none=>simp
    | some p=>simp
theorem oQ:∀ (s cur:List UInt8),(eY cur s).length≤s.length + 1
 | [],cur=>by simp only[eY]; split <;> simp
 | c :: t,cur=>by
   simp only[eY]
   split
   ·have:=oQ t []
    simp; omega
   ·have:=oQ t (cur++[c])
    simp; omega
def Wn (c:au) : Prop:=∀ {M:RM} {s:List UInt8} {Q:ak},Q (N .i64 (Lib.indexByte s 10)) M→c [St s,St [10]] M Q
def Ld (s:List UInt8) : AV:=match nl s with
 | some (a,b)=>.tup [St a,St b,Bo true]
 | none=>.tup [St s,St [],Bo false]
def A9 (c:au) : Prop:=∀ {M:RM} {s:List UInt8} {Q:ak},s.length≤1000000000→Q (Ld s) M→c [St s,St [10]] M Q
theorem NS {ci:au} (hi:Wn ci) : A9 fun args M Q=>∃ a0 a1,args=[a0,a1]∧gJ ci a0 a1 M Q:=by
 intro M s Q hl hQ
 refine⟨_,_,rfl, ?_⟩
 unfold gJ
 refine hi ?_
 unfold Ld at hQ
 rcases PG s with⟨h1,h2⟩ | ⟨a,b,h1,h2,h3⟩
 ·rw[h1] at hQ
  simp only[go_sem,h2]
  exact⟨fun h=>absurd h (by decide),fun _=>hQ⟩
 ·rw[h1] at hQ
  have hsl:=congrArg List.length h3
  simp at hsl
  rw[h2,dL,show decide ((a.length:Int) ≥ 0)=true by simp]
  refine⟨fun _=>?_,fun h=>by cases h⟩
  rw[fO (by omega)]
  simp only[go_sem]
  rw[show IntKind.wrap .i64 ((a.length:Int) + ((1:Nat) : Int))=((a.length + 1:Nat) : Int) by rw[mV (by omega) (by omega)]; omega]
  rw[bB (by omega)]
  simp only[go_sem]
  rw[h3]
  rw[show(a++10 :: b).take a.length=a by simp,show(a++10 :: b).drop (a.length + 1)=b by rw[← List.drop_drop]; simp]
  exact hQ
theorem H8 {ci:au} (hi:A9 ci) : A9 fun args M Q=>∃ a0 a1,args=[a0,a1]∧nQ ci a0 a1 M Q:=by
 intro M s Q hl hQ
 refine⟨_,_,rfl, ?_⟩
 unfold nQ
 refine hi hl ?_
 unfold Ld at hQ ⊢
 cases h:nl s with
 | none=>rw[h] at hQ; simpa only[go_sem] using hQ
 | some p=>rw[h] at hQ; simpa only[go_sem] using hQ
def DF (c:au) : Prop:=∀ {M:RM} {s:List UInt8} {Q:ak},s.length≤1000000000→Q (Bo (decide (s.drop (s.length - 1)=[13]))) M→c [St s,St [13]] M Q
theorem Lt:DF fun args M Q=>∃ a0 a1,args=[a0,a1]∧iF a0 a1 M Q:=by
 intro M s Q hl hQ
 refine⟨_,_,rfl, ?_⟩
 unfold iF
 simp only[dN]
 rw[bi,bi,dL]
 by_cases h:s=[]
 ·subst h
  simp only[go_sem,show decide ((([] : List UInt8).length:Int) ≥ (([13] : List UInt8).length:Int))=false from rfl]
  exact hQ
 ·have hpos:=List.length_pos_iff.2 h
  rw[show decide ((s.length:Int) ≥ (([13] : List UInt8).length:Int))=true by simp; omega]
  simp only[go_sem]
  rw[show IntKind.wrap .i64 ((s.length:Int) - ((1:Nat) : Int))=((s.length - 1:Nat) : Int) by rw[mV (by omega) (by omega)]; omega]
  rw[bB (by omega)]
  simp only[go_sem]
  have:(s.drop (s.length - 1) == [13])=decide (s.drop (s.length - 1)=[13]):=by
   by_cases e:s.drop (s.length - 1)=[13] <;> simp[e]
  rw[this]; exact hQ
def GG (c:au) : Prop:=∀ {M:RM} {s:List UInt8} {Q:ak},s.length≤1000000000→Q (St (strip s)) M→c [St s,St [13]] M Q
theorem LW {ch:au} (hh:DF ch) : GG fun args M Q=>∃ a0 a1,args=[a0,a1]∧iB ch a0 a1 M Q:=by
 intro M s Q hl hQ
 refine⟨_,_,rfl, ?_⟩
 unfold iB
 refine hh hl ?_
 unfold strip at hQ
 by_cases e:s.drop (s.length - 1)=[13]
 ·rw[if_pos e] at hQ
  have hne:s≠[]:=by intro h; subst h; simp at e
  have hpos:=List.length_pos_iff.2 hne
  rw[decide_eq_true e]
  refine⟨fun _=>?_,fun h=>by cases h⟩
  simp only[go_sem]
  rw[show IntKind.wrap .i64 ((s.length:Int) - ((1:Nat) : Int))=((s.length - 1:Nat) : Int) by rw[mV (by omega) (by omega)]; omega]
  rw[fO (by omega)]
  simp only[go_sem]
  exact hQ
 ·rw[if_neg e] at hQ
  rw[decide_eq_false e]
  exact⟨fun h=>(by cases h),fun _=>hQ⟩
theorem VU {ch:au} (hh:GG ch) : GG fun args M Q=>∃ a0 a1,args=[a0,a1]∧nA ch a0 a1 M Q:=by
 intro M s Q hl hQ
 refine⟨_,_,rfl, ?_⟩
 unfold nA
 exact hh hl hQ
theorem adU {T B:Nat} {zs:List AV} {K:RB→(Nat→AV)→Prop} (h:K (.row [] false T 0) (fun b=>.slc b 0 0 (.ex 0))) : lX T B zs (N .i64 0) (N .i64 0) K :=
 ⟨_,_,0,0,rfl,rfl,by omega,by omega,by simp,by decide,h⟩
theorem JH {n0 T:Nat} {M:RM} {v:AV} {xs:List (List UInt8)} {x:List UInt8} {K:AV→RM→Prop} (ho:Ow gH M n0 T v xs) (hn:n0≤M.next) (hl:xs.length≤2000000000)
  (hK:∀ v' M',Ow gH M' n0 T v' (xs++[x])→ag (aH v) M M'→(v'=v∨∀ b∈aH v',M.next≤b)→K v' M') :
  bM T 1 [St []] [(0,1,St x)] fun r f=>appW T 1 16 [St []] false v (f M.next) (M.push r) K:=by
 rw[gD (x:=St x) (size:=1) rfl rfl rfl]
 exact iY (E:=gH) (a:=x) ho hn (Nat.le_refl _) (by omega) (by omega) fun v' M' h1 h2 _ h4=>hK v' M' h1 h2 h4
theorem aak {n0 T:Nat} {M:RM} {v:AV} {xs:List Int} {x:Int} {K:AV→RM→Prop} (ho:Ow INT M n0 T v xs) (hn:n0≤M.next) (hl:xs.length≤2000000000)
  (hK:∀ v' M',Ow INT M' n0 T v' (xs++[x])→ag (aH v) M M'→(v'=v∨∀ b∈aH v',M.next≤b)→K v' M') :
  bM T 1 [N .i64 0] [(0,1,N .i64 x)] fun r f=>appW T 1 8 [N .i64 0] false v (f M.next) (M.push r) K:=by
 rw[gD (x:=N .i64 x) (size:=1) rfl rfl rfl]
 exact iY (E:=INT) (a:=x) ho hn (Nat.le_refl _) (by omega) (by omega) fun v' M' h1 h2 _ h4=>hK v' M' h1 h2 h4
def YA (T:Nat) (c:au) : Prop:=∀ {M:RM} {s:List UInt8} {Q:ak},s.length≤100000000→(∀ v M',Ow gH M' M.next T v (eY [] s)→ag [] M M'→Q v M')→c [St s] M Q
theorem ZG {T:Nat} : YA T fun args M Q=>∃ a0,args=[a0]∧Au T a0 M Q:=by
 intro M s Q hl hQ
 refine⟨_,rfl, ?_⟩
 unfold Au
 refine adU ?_
 simp only[aG,dN]
 refine aI (fun m ys M3=>∃ (i f:Nat) (v:AV) (out:List (List UInt8)),m=s.length - i∧ys=[v,N .i64 f,N .i64 i]∧i≤s.length∧f≤i∧Ow gH M3 M.next T v out∧ag [] M M3∧out.length≤i ∧
  eY [] s=out++eY ((s.drop f).take (i - f)) (s.drop i)) _
  ⟨0,0,_,[],rfl,rfl,Nat.zero_le _,Nat.le_refl _,Ow.lit gH M,(ag.refl _ _).push _,by simp,by simp⟩ ?_
 rintro next m ys M3 hnext ⟨i,f,v,out,rfl,rfl,hile,hfi,ho,hK,hol,hu⟩
 have kk:∀ {M' : RM},ag (aH v) M3 M'→ag [] M M':=fun h=>hK.dH h fun c hc=>.inl (ho.blk c hc).1
 simp only[go_sem]
 refine⟨fun hlt=>?_,fun hge=>?_⟩
 ·have hlt:i<s.length:=by simpa using hlt
  have hg:s[i]?=some s[i]:=List.getElem?_eq_getElem hlt
  have hd:=List.drop_eq_getElem_cons hlt
  have htk:(s.drop f).take (i + 1 - f)=(s.drop f).take (i - f)++[s[i]]:=by
   rw[show i + 1 - f=(i - f) + 1 by omega,List.take_succ_eq_append_getElem (by simp; omega)]
   congr 2
   rw[List.getElem_drop]
   congr 1; omega
  rw[hd] at hu
  simp only[eY] at hu
  simp only[hg,go_sem,eO (show i<9223372036854775807 by omega)]
  by_cases h10:s[i].toNat=10
  ·have e10:((s[i].toNat:Int) == 10)=true:=by simp[h10]
   rw[if_pos h10] at hu
   have cut:∀ e:Nat,f≤e→e≤i→strip ((s.drop f).take (i - f))=(s.drop f).take (e - f)→bP (aR (St s) (some (N .i64 f)) (some (N .i64 e))) fun t35=>bM T 1 [(St [])] [(0,1,t35)] fun af1 aez =>
     appW T 1 16 [(St [])] false v (aez M3.next) (M3.push af1) fun t37 aeK=>next [t37,N .i64 ((i + 1:Nat) : Int),N .i64 ((i + 1:Nat) : Int)] aeK:=fun e h1 h2 h3=>by
    rw[tX h1 (by omega)]
    simp only[go_sem]
    refine JH ho hK.next (by omega) fun v' M4 h4 h5 _=>?_
    refine hnext _ _ _ (by omega) ⟨i + 1,i + 1,v',out++[(s.drop f).take (e - f)],rfl,rfl,by omega,Nat.le_refl _,h4,kk h5,by simp; omega, ?_⟩
    rw[hu,← h3]; simp
   simp only[e10,go_sem]
   by_cases hif:f<i
   ·have hne:(s.drop f).take (i - f)≠[]:=by
     intro e
     have:=congrArg List.length e
     simp at this; omega
    have hln:((s.drop f).take (i - f)).length=i - f:=by simp; omega
    have hlast:((s.drop f).take (i - f)).drop (i - f - 1)=[s[i - 1]]:=by
     rw[List.drop_take,List.drop_drop,show i - f - (i - f - 1)=1 by omega,show f + (i - f - 1)=i - 1 by omega,List.drop_eq_getElem_cons (by omega)]
     rfl
    have hg1:s[i - 1]?=some s[i - 1]:=List.getElem?_eq_getElem (by omega)
    have w1:IntKind.wrap .i64 ((i:Int) - 1)=((i - 1:Nat) : Int):=by rw[mV (by omega) (by omega)]; omega
    have c1:((i:Int) > (f:Int)):=by omega
    simp only[c1,decide_true,go_sem,w1,hg1]
    by_cases h13:s[i - 1].toNat=13
    ·have e13:((s[i - 1].toNat:Int) == 13)=true:=by simp[h13]
     simp only[e13,go_sem]
     refine cut (i - 1) (by omega) (by omega) ?_
     unfold strip
     rw[hln,hlast,if_pos (by rw[show s[i - 1]=13 from UInt8.toNat_inj.1 h13]),List.take_take]
     congr 1; omega
    ·have e13:((s[i - 1].toNat:Int) == 13)=false:=by simp; omega
     simp only[e13,go_sem]
     refine cut i (by omega) (by omega) ?_
     unfold strip
     rw[hln,hlast,if_neg]
     intro e
     have:=(List.cons.inj e).1
     rw[this] at h13; exact h13 rfl
   ·have c1:¬ ((i:Int) > (f:Int)):=by omega
    simp only[c1,decide_false,go_sem]
    refine cut i (by omega) (by omega) ?_
    rw[show i - f=0 by omega]; rfl
  ·have e10:((s[i].toNat:Int) == 10)=false:=by simp; omega
   rw[if_neg h10] at hu
   simp only[e10,go_sem]
   exact hnext _ _ _ (by omega) ⟨i + 1,f,v,out,rfl,rfl,by omega,by omega,ho,hK,by omega,by rw[hu,htk]⟩
 ·have:i=s.length:=by simp at hge; omega
  subst this
  rw[List.drop_length,List.take_of_length_le (by simp)] at hu
  simp only[eY] at hu
  refine⟨fun h=>?_,fun h=>?_⟩
  ·have h:f<s.length:=by have:=of_decide_eq_true h; omega
   rw[bB hfi]
   simp only[go_sem]
   refine JH ho hK.next (by omega) fun v' M4 h4 h5 _=>hQ v' M4 ?_ (kk h5)
   rw[if_neg (by intro e; have:=congrArg List.length e; simp at this; omega)] at hu
   rw[hu]; exact h4
  ·have h:s.length≤f:=by have:=of_decide_eq_false h; omega
   rw[if_pos (List.drop_eq_nil_of_le h),List.append_nil] at hu
   refine hQ v M3 ?_ hK
   rw[hu]; exact ho
theorem aal {M:RM} {n0 T:Nat} {v:AV} {xs:List (List UInt8)} (ho:Ow gH M n0 T v xs) (hne:xs≠[]) : ∃ b,v=.slc b 0 xs.length (.op 1)∧Rw gH M b true T xs∧n0≤b:=by
 have ho' : Own M n0 T 1 v (gH.row xs) xs.length:=ho
 have hp:=List.length_pos_iff.2 hne
 generalize hcs:gH.row xs=cs at ho'
 generalize hn:xs.length=n at ho'
 cases ho' with
 | nil=>omega
 | ex0=>omega
 | op b n cs h1 h2 h3 h4=>exact⟨b,rfl,⟨by rw[h3,hcs],h2⟩,h1⟩
theorem ZT {M:RM} {n0 T b:Nat} {xs:List (List UInt8)} (h:Rw gH M b true T xs) (hb:n0≤b) : Ow gH M n0 T (.slc b 0 xs.length (.op 1)) xs :=
 Own.op b _ _ hb h.lt h.heap (by rw[gH.ic])
def isSp:List UInt8→Bool
 | []=>false
 | c :: _=>decide (c.toNat=32) || decide (c.toNat=9)
def glue (acc:List (List UInt8)) (x:List UInt8) : List (List UInt8):=if acc≠[]∧isSp x=true then acc.set (acc.length - 1) (acc.getD (acc.length - 1) []++x.drop 1) else acc++[x]
theorem Yr (acc:List (List UInt8)) (x:List UInt8) : (glue acc x).length≤acc.length + 1:=by
 unfold glue; split <;> simp
theorem Zb {t:List UInt8} (hne:t≠[]) : ∃ qz rest found,Ld t=.tup [St qz,St rest,Bo found]∧rest.length<t.length∧qz.length + rest.length≤t.length∧eY [] t=(if found then strip qz else qz) :: eY [] rest:=by
 have hp:=List.length_pos_iff.2 hne
 rcases PG t with⟨h1,_⟩ | ⟨a,b,h1,_,h3⟩
 ·exact⟨t,[],false,by simp[Ld,h1],by simpa using hp,by simp,by rw[LK,h1]; simp[hne,eY]⟩
 ·have:=congrArg List.length h3
  simp at this
  exact⟨a,b,true,by simp[Ld,h1],by omega,by omega,by rw[LK,h1]; simp⟩
def Mm (s:List UInt8) : Prop:=∀ b∈s,b.toNat≠10
theorem Mm.take {s:List UInt8} (h:Mm s) (n:Nat) : Mm (s.take n):=fun b hb=>h b (List.mem_of_mem_take hb)
theorem Mm.drop {s:List UInt8} (h:Mm s) (n:Nat) : Mm (s.drop n):=fun b hb=>h b (List.mem_of_mem_drop hb)
def XB (B:Base) (c:au) : Prop:=∀ {M:RM} {s:List UInt8} {Q:ak},M.base=B→s.length≤1000000→(∀ M',ag [] M M'→Q (St (fo 0 s)) M')→c [St s] M Q
def iD (acc:List (List UInt8)) (ns:List Int) (k:Int) : List (List UInt8)→List (List UInt8) × List Int
 | []=>(acc,ns)
 | x :: xs=>iD (glue acc x) (if acc≠[]∧isSp x=true then ns else ns++[k]) (IntKind.i64.wrap (k + 1)) xs
def sU (T TI:Nat) (c:au) : Prop:=∀ {M:RM} {s:List UInt8} {Q:ak},s.length≤100000000 →
 (∀ v u M',Ow gH M' M.next T v (iD [] [] 1 (eY [] s)).1→Ow INT M' M.next TI u (iD [] [] 1 (eY [] s)).2→(∀ b∈aH v,b ∉ aH u)→ag [] M M'→Q (.tup [v,u]) M')→c [St s] M Q
theorem OQ {T TI:Nat} {cc ct:au} (hc:A9 cc) (ht:GG ct) : sU T TI fun args M Q=>∃ a0,args=[a0]∧tQ cc ct T TI a0 M Q:=by
 intro M s Q hl hQ
 refine⟨_,rfl, ?_⟩
 unfold tQ
 simp only[dN,bL]
 refine aI (fun m ys M3=>∃ (t:List UInt8) (v u:AV) (acc:List (List UInt8)) (ns:List Int) (k:Int),m=t.length∧ys=[St t,v,u,N .i64 k]∧acc.length + t.length≤s.length∧(∀ x∈acc,x.length + t.length≤s.length)∧ns.length + t.length≤s.length ∧
   Ow gH M3 M.next T v acc∧Ow INT M3 M.next TI u ns∧(∀ b∈aH v,b ∉ aH u)∧ag [] M M3∧iD acc ns k (eY [] t)=iD [] [] 1 (eY [] s)) _
  ⟨s,aJ,aJ,[],[],1,rfl,rfl,by simp,by simp,by simp,.nil,.nil,by simp[aH],ag.refl _ _,rfl⟩ ?_
 rintro next m ys M3 hnext ⟨t,v,u,acc,ns,k,rfl,rfl,hal,hxl,hnl,hv,hu,hd,hK,hf⟩
 by_cases hne:t=[]
 ·subst hne
  simp only[go_sem,bne_self_eq_false]
  simp only[eY,if_true,iD] at hf
  exact hQ v u M3 (by rw[← hf]; exact hv) (by rw[← hf]; exact hu) hd hK
 have hne' : (t != [])=true:=by simp[hne]
 have hpos:=List.length_pos_iff.2 hne
 obtain⟨qz,rest,found,hcut,hrl,hll,hraw⟩:=Zb hne
 simp only[go_sem,hne']
 refine Cu ?_
 refine hc (by omega) ?_
 rw[hcut]
 simp only[go_sem]
 refine aW (fun xs M'=>M'=M3∧xs=[St (if found then strip qz else qz)]) ?_ ?_
 ·rintro _ M0 ⟨hM0,rfl⟩
  subst hM0
  have hlen:(if found then strip qz else qz).length + rest.length≤t.length:=by
   split
   ·have:=MM qz; omega
   ·exact hll
  generalize (if found then strip qz else qz)=line at *
  rw[hraw,iD] at hf
  have app:glue acc line=acc++[line]∧¬ (acc≠[]∧isSp line=true)→bM T 1 [St []] [(0,1,St line)] fun r f=>appW T 1 16 [St []] false v (f M0.next) (M0.push r) fun t54 acG =>
    bM TI 1 [N IntKind.i64 0] [(0,1,N IntKind.i64 k)] fun aeV af2=>appW TI 1 8 [N IntKind.i64 0] false u (af2 acG.next) (acG.push aeV) fun t58 Ye =>
     next [St rest,t54,t58,N IntKind.i64 (IntKind.i64.wrap (k + 1))] Ye:=fun hg=>by
   refine JH hv hK.next (by omega) fun v' M4 h4 k4 hv'=>?_
   have hu4:Ow INT M4 M.next TI u ns:=Own.keep hu k4 (fun b hb hb'=>hd b hb' hb)
   have hK4:ag [] M M4:=hK.dH k4 fun c hc=>.inl (hv.blk c hc).1
   have hd4:∀ b∈aH v',b ∉ aH u:=fun b hb hb'=>by
    rcases hv' with rfl | hv'
    ·exact hd b hb hb'
    ·have h1:=hv' b hb
     have h2:=(hu.blk b hb').2
     omega
   refine aak hu4 hK4.next (by omega) fun u' M5 h5 k5 hu'=>?_
   have hv5:Ow gH M5 M.next T v' (acc++[line]):=Own.keep h4 k5 hd4
   have hd5:∀ b∈aH v',b ∉ aH u':=fun b hb hb'=>by
    rcases hu' with rfl | hu'
    ·exact hd4 b hb hb'
    ·have h1:=hu' b hb'
     have h2:=(h4.blk b hb).2
     omega
   refine hnext _ _ _ hrl ⟨rest,v',u',_,_,_,rfl,rfl,by simp; omega, ?_,by simp; omega,hv5,h5,hd5,hK4.dH k5 fun c hc=>.inl (hu4.blk c hc).1,by rw[hg.1,if_neg hg.2] at hf; exact hf⟩
   intro x hx
   rcases List.mem_append.1 hx with hx | hx
   ·have:=hxl x hx; omega
   ·have:x=line:=by simpa using hx
    subst this; omega
  by_cases ha:acc=[]
  ·rw[dE.len hv.jX]
   subst ha
   rw[show((([] : List (List UInt8)).length:Nat) : Int)=0 from rfl,gV,show decide ((0:Int) > 0)=false from rfl]
   simp only[go_sem]
   exact app (by simp[glue])
  have hap:=List.length_pos_iff.2 ha
  rw[dE.len hv.jX]
  have e0:decide (((acc.length:Nat) : Int) > 0)=true:=by simp; omega
  obtain⟨b,rfl,hrw,hb⟩:=aal hv ha
  cases line with
  | nil =>
    simp only[go_sem,e0,bne_self_eq_false]
    exact app (by simp[glue,isSp])
  | cons c r =>
    have e1:(c :: r != [])=true:=by simp
    have w1:IntKind.wrap .i64 ((acc.length:Int) - 1)=((acc.length - 1:Nat) : Int):=by rw[mV (by omega) (by omega)]; omega
    have hld:=hrw.ah (i:=acc.length - 1) (by omega)
    have Q9:acc.getD (acc.length - 1) []=acc[acc.length - 1]'(by omega):=by
     rw[List.getD_eq_getElem?_getD,List.getElem?_eq_getElem (by omega)]; rfl
    have set:isSp (c :: r)=true→(0≤IntKind.i64.wrap (↑acc.length - 1)∧IntKind.i64.wrap (↑acc.length - 1) < ↑acc.length ∧
      ∃ v,M0.cell b (IntKind.i64.wrap (↑acc.length - 1)).toNat=some v∧bP (aR (St (c :: r)) (some (N IntKind.i64 1)) none) fun t48=>aX BinOp.add v t48 fun t49 =>
        0≤IntKind.i64.wrap (↑acc.length - 1)∧IntKind.i64.wrap (↑acc.length - 1) < ↑acc.length∧t49.cells.length=1∧∃ M',M0.stores b (IntKind.i64.wrap (↑acc.length - 1)).toNat t49.cells=some M' ∧
          next [St rest,AV.slc b 0 acc.length (Cap.op 1),u,N IntKind.i64 (IntKind.i64.wrap (k + 1))] M'):=fun hs=>by
     obtain⟨hst,QM⟩:=hrw.Jw (i:=acc.length - 1) (by omega) (acc.getD (acc.length - 1) []++r)
     rw[w1,Int.toNat_natCast]
     refine⟨by omega,by omega,_,hld, ?_⟩
     rw[show aR (St (c :: r)) (some (N .i64 1)) none=some (St r) from bB (l:=1) (by simp) .i64]
     rw[Q9] at hst QM
     simp only[go_sem]
     have hxa:=hxl _ (List.getElem_mem (l:=acc) (n:=acc.length - 1) (by omega))
     have hlr:r.length + 1 + rest.length≤t.length:=by simpa using hlen
     refine⟨by omega,by omega,_,hst, ?_⟩
     have hv4:=ZT QM hb
     rw[List.length_set] at hv4
     have hkp:ag [b] M0 (M0.put b (.row (gH.row (acc.set (acc.length - 1) (acc[acc.length - 1]'(by omega)++r))) true T 0)):=(ag.refl _ _).put _ (.inr (by simp))
     refine hnext _ _ _ hrl ⟨rest,_,u,_,ns,_,rfl,rfl,by simp; omega, ?_,by omega,hv4,Own.keep hu hkp ?_,hd,hK.put _ (.inl hb), ?_⟩
     ·intro x hx
      rcases List.mem_or_eq_of_mem_set hx with hx | rfl
      ·have:=hxl x hx; omega
      ·simp; omega
     ·intro b' hb' hm
      have:b'=b:=by simpa using hm
      subst this
      exact hd b' (by simp[aH]) hb'
     ·rw[if_pos ⟨ha,hs⟩,glue,if_pos ⟨ha,hs⟩,Q9] at hf; exact hf
    simp only[go_sem,e0,e1]
    refine⟨by omega,c,rfl, ?_⟩
    by_cases h32:c.toNat=32
    ·have e32:((c.toNat:Int) == 32)=true:=by simp[h32]
     simp only[e32,go_sem]
     exact set (by simp[isSp,h32])
    ·have e32:((c.toNat:Int) == 32)=false:=by simp; omega
     simp only[e32,go_sem]
     refine⟨by omega,c,rfl, ?_⟩
     by_cases h9:c.toNat=9
     ·have e9:((c.toNat:Int) == 9)=true:=by simp[h9]
      simp only[e9,go_sem]
      exact set (by simp[isSp,h9])
     ·have e9:((c.toNat:Int) == 9)=false:=by simp; omega
      simp only[e9,go_sem]
      exact app (by simp[glue,isSp,h32,h9])
 ·intro J hJ
  cases found with
  | true =>
    refine⟨fun _=>ht (by omega) (hJ _ _ ⟨rfl,rfl⟩),fun h=>by cases h⟩
  | false=>exact⟨fun h=>(by cases h),fun _=>hJ _ _ ⟨rfl,rfl⟩⟩
def bn (x:UInt8) : List UInt8→Bool
 | []=>false
 | c :: _=>c == x
def pu (c:au) : Prop:=∀ {M:RM} {s:List UInt8} {x:UInt8} {Q:ak},s.length≤1000000000→Q (Bo (bn x s)) M→c [St s,St [x]] M Q
theorem Im:pu fun args M Q=>∃ a0 a1,args=[a0,a1]∧fe a0 a1 M Q:=by
 intro M s x Q hl hQ
 refine⟨_,_,rfl, ?_⟩
 unfold fe
 simp only[dN]
 rw[bi,bi,dL]
 cases s with
 | nil =>
   rw[show decide ((([] : List UInt8).length:Int) ≥ (([x] : List UInt8).length:Int))=false from rfl]
   simp only[go_sem]
   exact hQ
 | cons c r =>
   rw[show decide (((c :: r).length:Int) ≥ (([x] : List UInt8).length:Int))=true by simp; omega]
   simp only[go_sem]
   rw[show aR (St (c :: r)) none (some (N .i64 ((1:Nat) : Int)))=some (St [c]) from fO (h:=1) (by simp) .i64]
   simp only[go_sem]
   rw[show(([c] : List UInt8) == [x])=(c == x) by simp]
   exact hQ
theorem Ry {ch:au} (hh:pu ch) : pu fun args M Q=>∃ a0 a1,args=[a0,a1]∧nY ch a0 a1 M Q:=by
 intro M s x Q hl hQ
 refine⟨_,_,rfl, ?_⟩
 unfold nY
 exact hh hl hQ
def gW (c:UInt8) : Bool:=(decide (32≤c.toNat) && decide (c.toNat≠127)) || decide (c.toNat=9)
def xI (c:au) : Prop:=∀ {M:RM} {x:UInt8} {Q:ak},Q (Bo (gW x)) M→c [By x] M Q
theorem VH:xI fun args M Q=>∃ a0,args=[a0]∧uP a0 M Q:=by
 intro M x Q hQ
 refine⟨_,rfl, ?_⟩
 unfold uP
 simp only[dN]
 unfold gW at hQ
 by_cases h1:32≤x.toNat
 ·have e1:decide ((x.toNat:Int) ≥ 32)=true:=by simp; omega
  rw[dL,e1]
  by_cases h2:x.toNat=127
  ·have e2:((x.toNat:Int) != 127)=false:=by simp[h2]
   have e9:((x.toNat:Int) == 9)=false:=by simp; omega
   simp only[go_sem,e2,e9]
   simpa [h2] using hQ
  ·have e2:((x.toNat:Int) != 127)=true:=by simp; omega
   simp only[go_sem,e2]
   simpa [h1,h2] using hQ
 ·have e1:decide ((x.toNat:Int) ≥ 32)=false:=by simp; omega
  rw[dL,e1]
  by_cases h9:x.toNat=9
  ·have e9:((x.toNat:Int) == 9)=true:=by simp[h9]
   simp only[go_sem,e9]
   simpa [h1,h9] using hQ
  ·have e9:((x.toNat:Int) == 9)=false:=by simp; omega
   simp only[go_sem,e9]
   simpa [h1,h9] using hQ
def dz (c:UInt8) : UInt8:=if 65≤c.toNat∧c.toNat≤90 then UInt8.ofNat (c.toNat + 32) else c
def xN (c:au) : Prop:=∀ {M:RM} {s:List UInt8} {Q:ak},s.length≤1000000000→(∀ M',ag [] M M'→Q (St (s.map dz)) M')→c [St s] M Q
theorem SC {s:List UInt8} {i:Nat} (hi:i<s.length) : ((s.take i).map dz).length=i:=by simp; omega
theorem Py {s:List UInt8} {i:Nat} (hi:i<s.length) (x:UInt8) : ((s.take i).map dz++s.drop i).set i x=(s.take i).map dz++x :: s.drop (i + 1):=by
 have hl:=SC hi
 rw[List.drop_eq_getElem_cons hi,List.set_append_right _ _ (by omega),hl,Nat.sub_self,List.set_cons_zero]
theorem CS {s:List UInt8} {i:Nat} (hi:i<s.length) : (s.take (i + 1)).map dz++s.drop (i + 1)=(s.take i).map dz++dz s[i] :: s.drop (i + 1):=by
 rw[List.take_succ_eq_append_getElem hi,List.map_append,List.append_assoc]
 rfl
theorem Si {s:List UInt8} {i:Nat} (hi:i<s.length) (h:i<((s.take i).map dz++s.drop i).length) : ((s.take i).map dz++s.drop i)[i]=s[i]:=by
 have hl:=SC hi
 rw[List.getElem_append_right (by omega)]
 simp only[hl,Nat.sub_self,List.getElem_drop,Nat.add_zero]
theorem UU {T8:Nat} : xN fun args M Q=>∃ a0,args=[a0]∧uZ T8 a0 M Q:=by
 intro M s Q hl hQ
 refine⟨_,rfl, ?_⟩
 unfold uZ
 simp only[dN,aG,qV,oM]
 have hk1:ag [] M (M.push (.row (BY.row s) true T8 0)):=(ag.refl _ _).push _
 have hr1:Rw BY (M.push (.row (BY.row s) true T8 0)) M.next true T8 s:=Rw.new M s
 generalize M.push (.row (BY.row s) true T8 0)=M1 at *
 refine aI (fun m ys M3=>∃ i:Nat,m=s.length - i∧ys=[N .i64 i]∧i≤s.length∧Rw BY M3 M.next true T8 ((s.take i).map dz++s.drop i)∧ag [] M M3) _
  ⟨0,rfl,rfl,Nat.zero_le _,by simpa using hr1,hk1⟩ ?_
 rintro next m ys M3 hnext ⟨i,rfl,rfl,hi,hR,hK⟩
 simp only[go_sem]
 refine⟨fun hlt=>?_,fun hge=>?_⟩
 ·have hlt:i<s.length:=by simpa using hlt
  have hlen:i<((s.take i).map dz++s.drop i).length:=by simp; omega
  have hc:=hR.ah hlen
  have w1:=eO (show i<9223372036854775807 by omega)
  rw[Si hlt hlen] at hc
  refine⟨by omega,_,hc, ?_⟩
  have same:dz s[i]=s[i]→next [N .i64 ((i + 1:Nat) : Int)] M3:=fun h=>by
   refine hnext _ _ _ (by omega) ⟨i + 1,rfl,rfl,by omega, ?_,hK⟩
   rw[CS hlt,h,← List.drop_eq_getElem_cons hlt]
   exact hR
  have cb:=ug s[i]
  simp only[w1]
  by_cases h1:65≤s[i].toNat
  ·have e1:((s[i].toNat:Int) ≥ 65):=by omega
   by_cases h2:s[i].toNat≤90
   ·have e2:((s[i].toNat:Int)≤90):=by omega
    have hlow:dz s[i]=UInt8.ofNat (s[i].toNat + 32):=by rw[dz,if_pos ⟨h1,h2⟩]
    have wv:N IntKind.u8 (IntKind.u8.wrap (IntKind.u8.wrap ((s[i].toNat:Int) + 97) - 65))=By (dz s[i]):=by
     rw[hlow,By,Pg,Nat.mod_eq_of_lt (by omega)]
     congr 1
     rw[show IntKind.u8.wrap ((s[i].toNat:Int) + 97)=(s[i].toNat:Int) + 97 from nC (by omega) (by omega)]
     rw[nC (by omega) (by omega)]; omega
    obtain⟨hs,hR'⟩:=hR.Jw hlen (dz s[i])
    simp only[e1,e2,decide_true,go_sem]
    rw[Py hlt] at hs hR'
    refine⟨by omega,_,(congrArg (fun x=>M3.stores M.next i [x]) wv).trans hs, ?_⟩
    refine hnext _ _ _ (by omega) ⟨i + 1,rfl,rfl,by omega, ?_,hK.put _ (.inl (Nat.le_refl _))⟩
    rw[CS hlt]
    exact hR'
   ·have e2:¬ ((s[i].toNat:Int)≤90):=by omega
    simp only[e1,e2,decide_true,decide_false,go_sem]
    exact same (by rw[dz,if_neg (by omega)])
  ·have e1:¬ ((s[i].toNat:Int) ≥ 65):=by omega
   simp only[e1,decide_false,go_sem]
   exact same (by rw[dz,if_neg (by omega)])
 ·have:i=s.length:=by simp at hge; omega
  subst this
  rw[List.take_length,List.drop_length,List.append_nil] at hR
  have:=hR.sl (cap:=.op 1)
  rw[List.length_map] at this
  rw[Sl.str this]
  exact hQ M3 hK
theorem Rx (s:List UInt8) (h:s≠[]) : Lib.decodeL s=dec s:=by
 have hp:=List.length_pos_iff.2 h
 have g:∀ i,((⟨⟨s⟩⟩ : ByteArray).get! i).toNat=bt s i:=fun i=>by
  simp only[ByteArray.get!,bt,List.getD_eq_getElem?_getD]
  simp[getElem!_def]
  cases s[i]? <;> rfl
 first
  | (rw[Lib.decodeL]; rw[Lib.decode_at,g,g,g,g]; rfl)
  | (simp only[Lib.decodeL,dec,bt])
theorem Kr:∀ (n:Nat) (s:List UInt8),s.length≤n→Lib.validD s=iL s
 | n,s,hn=>by
   by_cases hne:s=[]
   ·subst hne; rw[Lib.validD_nil,Le]
   have hrk:rk s=if dec s=(65533,1) then 0 else(dec s).2:=by rw[rk,if_neg hne]; rfl
   rw[Lib.validD_step s hne,Rx s hne]
   have h1:=xA s
   by_cases hb:(dec s).1=65533∧(dec s).2=1
   ·rw[if_pos hb,Lp hne (by rw[hrk,if_pos (Prod.ext hb.1 hb.2)])]
   ·rw[if_neg hb]
    have h0:rk s=(dec s).2:=by
     rw[hrk,if_neg]
     intro e; rw[e] at hb; exact hb ⟨rfl,rfl⟩
    rw[yG (by omega),h0]
    cases n with
    | zero=>exact absurd (List.eq_nil_of_length_eq_zero (by omega)) hne
    | succ n =>
      refine Kr n _ ?_
      have:=wJ hne h1
      omega
def OW (B:Base) (c:au) : Prop:=∀ {M:RM} {s:List UInt8} {Q:ak},M.base=B→s.length≤1000000000→Q (Bo (iL s)) M→c [St s] M Q
def okB (x:List UInt8) (c:UInt8) : Bool:=gW c && !(decide (c∈x))
def iE (x s:List UInt8) : Bool:=s.all (okB x) && iL s
def pg (B:Base) (c:au) : Prop:=∀ {M:RM} {s x:List UInt8} {Q:ak},M.base=B→s.length≤1000000000→(∀ M',ag [] M M'→Q (Bo (iE x s)) M')→c [St s,St x] M Q
theorem LA {B:Base} {T8:Nat} {cp ci cv:au} (hp:xI cp) (hi:sP ci) (hv:OW B cv) : pg B fun args M Q=>∃ a0 a1,args=[a0,a1]∧pO T8 cp ci cv a0 a1 M Q:=by
 intro M s x Q hM hl hQ
 refine⟨_,_,rfl, ?_⟩
 unfold pO
 simp only[dN,aG,qV,oM]
 have hk1:ag [] M (M.push (.row (BY.row s) true T8 0)):=(ag.refl _ _).push _
 have hr1:Rw BY (M.push (.row (BY.row s) true T8 0)) M.next true T8 s:=Rw.new M s
 generalize M.push (.row (BY.row s) true T8 0)=M1 at *
 refine aI (fun m ys M3=>M3=M1∧∃ i:Nat,m=s.length - i∧ys=[N .i64 i]∧i≤s.length∧(s.take i).all (okB x)=true) _
  ⟨rfl,0,rfl,rfl,Nat.zero_le _,by simp⟩ ?_
 rintro next m ys M3 hnext ⟨hM3,i,rfl,rfl,hile,hall⟩
 subst hM3
 simp only[go_sem]
 refine⟨fun hlt=>?_,fun hge=>?_⟩
 ·have hlt:i<s.length:=by simpa using hlt
  have hc:=hr1.ah hlt
  have htk:=List.take_succ_eq_append_getElem hlt
  have hmem:=List.getElem_mem hlt
  generalize s[i]=c at *
  have w1:=eO (show i<9223372036854775807 by omega)
  have bad:okB x c=false→Q (Bo false) M3:=fun h=>by
   have:iE x s=false:=by
    have h2:s.all (okB x)=false:=by
     rw[List.all_eq_false]
     exact⟨c,hmem,by rw[h]; simp⟩
    rw[iE,h2]; rfl
   rw[← this]; exact hQ M3 hk1
  have good:okB x c=true→next [N .i64 ((i + 1:Nat) : Int)] M3:=fun h=>by
   refine hnext _ _ _ (by omega) ⟨rfl,i + 1,rfl,rfl,by omega, ?_⟩
   rw[htk,List.all_append,hall]
   simp[h]
  refine⟨by omega,By c,hc,hp ?_⟩
  cases hpl:gW c with
  | false =>
    simp only[go_sem]
    exact bad (by simp[okB,hpl])
  | true =>
    simp only[go_sem]
    refine hi ?_
    have hge:=tJ x c
    by_cases hcx:c∈x
    ·have e1:decide (Lib.indexByte x c ≥ 0)=true:=decide_eq_true (hge.2 hcx)
     simp only[go_sem,e1]
     exact bad (by simp[okB,hcx])
    ·have e1:decide (Lib.indexByte x c ≥ 0)=false:=decide_eq_false fun h=>hcx (hge.1 h)
     simp only[go_sem,e1,w1]
     exact good (by simp[okB,hcx,hpl])
 ·have:i=s.length:=by simp at hge; omega
  subst this
  rw[List.take_length] at hall
  refine hv (by rw[hk1.base,hM]) hl ?_
  have:=hQ M3 hk1
  rw[iE,hall,Bool.true_and] at this
  exact this
def EC (x:UInt8) (s:List UInt8) : AV:=if bn x s then .tup [St (s.drop 1),Bo true] else .tup [St s,Bo false]
def lu (c:au) : Prop:=∀ {M:RM} {s:List UInt8} {x:UInt8} {Q:ak},s.length≤1000000000→Q (EC x s) M→c [St s,St [x]] M Q
theorem Ec {ch:au} (hh:pu ch) : lu fun args M Q=>∃ a0 a1,args=[a0,a1]∧eZ ch a0 a1 M Q:=by
 intro M s x Q hl hQ
 refine⟨_,_,rfl, ?_⟩
 unfold eZ
 refine hh hl ?_
 unfold EC at hQ
 cases h:bn x s with
 | false =>
   simp only[h,Bool.false_eq_true,if_false] at hQ
   simp only[go_sem]
   exact hQ
 | true =>
   simp only[h,if_true] at hQ
   have hne:s≠[]:=by intro e; subst e; cases h
   have hp:=List.length_pos_iff.2 hne
   simp only[go_sem]
   rw[show aR (St s) (some (N .i64 ((1:Nat) : Int))) none=some (St (s.drop 1)) from bB (by omega) .i64]
   simp only[go_sem]
   exact hQ
theorem Mv {ch:au} (hh:lu ch) : lu fun args M Q=>∃ a0 a1,args=[a0,a1]∧jk ch a0 a1 M Q:=by
 intro M s x Q hl hQ
 refine⟨_,_,rfl, ?_⟩
 unfold jk
 refine hh hl ?_
 unfold EC at hQ ⊢
 cases h:bn x s with
 | false=>rw[h] at hQ; simpa only[go_sem,Bool.false_eq_true,if_false] using hQ
 | true=>rw[h] at hQ; simpa only[go_sem,if_true] using hQ
def fD:List UInt8:=[97,98,99,100,101,102,103,104,105,106,107,108,109,110,111,112,113,114,115,116,117,118,119,120,121,122,48,49,50,51,52,53,54,55,56,57,45]
def OZ (B:Base) (c:au) : Prop:=∀ {M:RM} {s:List UInt8} {Q:ak},M.base=B→s.length≤1000000000→(∀ M',ag [] M M'→Q (St (s.dropWhile (fD.contains ·))) M')→c [St s,St fD] M Q
theorem nR {α:Type} (p:α→Bool) : ∀ l:List α,(l.dropWhile p).length≤l.length
 | []=>by simp
 | x :: l=>by
   rw[List.dropWhile_cons]
   have:=nR p l
   split
   ·simp; omega
   ·exact Nat.le_refl _
def wk (s:List UInt8) : Nat:=s.length - ((s.map dz).dropWhile (fD.contains ·)).length
theorem zD (s:List UInt8) : wk s≤s.length:=Nat.sub_le _ _
def Uw (s:List UInt8) : AV:=.tup [St ((s.take (wk s)).map dz),St (s.drop (wk s))]
def Oy (B:Base) (c:au) : Prop:=∀ {M:RM} {s:List UInt8} {Q:ak},M.base=B→s.length≤1000000000→(∀ M',ag [] M M'→Q (Uw s) M')→c [St s] M Q
theorem Ws {B:Base} {cs ct:au} (hs:xN cs) (ht:OZ B ct) : Oy B fun args M Q=>∃ a0,args=[a0]∧yJ cs ct a0 M Q:=by
 intro M s Q hM hl hQ
 refine⟨_,rfl, ?_⟩
 unfold yJ
 rw[bi]
 refine hs hl fun M1 k1=>?_
 refine ht (by rw[k1.base,hM]) (by simpa using hl) fun M2 k2=>?_
 have hd:=nR (fD.contains ·) (s.map dz)
 rw[List.length_map] at hd
 rw[bi,gB]
 rw[show IntKind.wrap .i64 ((s.length:Int) - (((s.map dz).dropWhile (fD.contains ·)).length:Int))=((wk s:Nat) : Int) by rw[mV (by omega) (by omega)]; unfold wk; omega]
 rw[fO (zD s),bB (zD s)]
 simp only[go_sem]
 have:=zD s
 refine hs (by simp; omega) fun M3 k3=>?_
 exact hQ M3 ((k1.trans k2).trans k3)
def O3 (B:Base) (f:List UInt8→List UInt8) (c:au) : Prop:=∀ {M:RM} {s:List UInt8} {Q:ak},M.base=B→s.length≤1000000000→(∀ M',ag [] M M'→Q (St (f s)) M')→c [St s,St fD] M Q
def iP (f:List UInt8→List UInt8) (s:List UInt8) : Bool:=decide (1≤s.length) && decide (s.length≤20) && (f s == [])
def uy (B:Base) (f:List UInt8→List UInt8) (c:au) : Prop:=∀ {M:RM} {s:List UInt8} {Q:ak},M.base=B→s.length≤1000000000→(∀ M',ag [] M M'→Q (Bo (iP f s)) M')→c [St s] M Q
theorem NQ {B:Base} {f:List UInt8→List UInt8} {ct:au} (ht:O3 B f ct) : uy B f fun args M Q=>∃ a0,args=[a0]∧qJ ct a0 M Q:=by
 intro M s Q hM hl hQ
 refine⟨_,rfl, ?_⟩
 unfold qJ
 simp only[dN]
 rw[bi,dL]
 unfold iP at hQ
 by_cases h1:1≤s.length
 ·have e1:decide ((s.length:Int) ≥ 1)=true:=by simp; omega
  rw[e1]
  by_cases h2:s.length≤20
  ·have e2:decide ((s.length:Int)≤20)=true:=by simp; omega
   simp only[go_sem,e2]
   refine ht hM hl fun M1 k1=>?_
   simp only[go_sem]
   have:=hQ M1 k1
   simpa [h1,h2] using this
  ·have e2:decide ((s.length:Int)≤20)=false:=by simp; omega
   simp only[go_sem,e2]
   simpa [h1,h2] using hQ M (ag.refl _ _)
 ·have e1:decide ((s.length:Int) ≥ 1)=false:=by simp; omega
  rw[e1]
  simp only[go_sem]
  simpa [h1] using hQ M (ag.refl _ _)
def brk (x:UInt8) : List UInt8→Option (List UInt8 × List UInt8)
 | []=>none
 | c :: t=>if c=x then some ([],t) else(brk x t).map fun p=>(c :: p.1,p.2)
theorem sW (x:UInt8) : ∀ s:List UInt8,(brk x s=none∧Lib.indexByte s x=-1∧x ∉ s)∨∃ a b,brk x s=some (a,b)∧Lib.indexByte s x=(a.length:Int)∧s=a++x :: b∧x ∉ a
 | []=>.inl ⟨rfl,rfl,by simp⟩
 | c :: t=>by
   by_cases h:c=x
   ·subst h
    exact .inr ⟨[],t,by simp[brk],by simp[Lib.indexByte],rfl,by simp⟩
   ·have hc:(c == x)=false:=by simpa using h
    rcases sW x t with⟨h1,h2,h4⟩ | ⟨a,b,h1,h2,h3,h4⟩
    ·exact .inl ⟨by simp[brk,h,h1],by simp[Lib.indexByte,hc,h2],by simp[h4,Ne.symm h]⟩
    ·refine .inr ⟨c :: a,b,by simp[brk,h,h1], ?_,by rw[h3]; rfl,by simp[h4,Ne.symm h]⟩
     have:((a.length:Int) == -1)=false:=by simp
     simp[Lib.indexByte,hc,h2,this]
def K4 (x:UInt8) (c:au) : Prop:=∀ {M:RM} {s:List UInt8} {Q:ak},Q (N .i64 (Lib.indexByte s x)) M→c [St s,St [x]] M Q
def JM (x:UInt8) (s:List UInt8) : AV:=match brk x s with
 | some (a,b)=>.tup [St a,St b,Bo true]
 | none=>.tup [St s,St [],Bo false]
def De (x:UInt8) (c:au) : Prop:=∀ {M:RM} {s:List UInt8} {Q:ak},s.length≤1000000000→Q (JM x s) M→c [St s,St [x]] M Q
theorem KT {x:UInt8} {ci:au} (hi:K4 x ci) : De x fun args M Q=>∃ a0 a1,args=[a0,a1]∧gJ ci a0 a1 M Q:=by
 intro M s Q hl hQ
 refine⟨_,_,rfl, ?_⟩
 unfold gJ
 refine hi ?_
 unfold JM at hQ
 rcases sW x s with⟨h1,h2,_⟩ | ⟨a,b,h1,h2,h3,_⟩
 ·rw[h1] at hQ
  simp only[go_sem,h2]
  exact⟨fun h=>absurd h (by decide),fun _=>hQ⟩
 ·rw[h1] at hQ
  have hsl:=congrArg List.length h3
  simp at hsl
  rw[h2,dL,show decide ((a.length:Int) ≥ 0)=true by simp]
  refine⟨fun _=>?_,fun h=>by cases h⟩
  rw[fO (by omega)]
  simp only[go_sem]
  rw[show IntKind.wrap .i64 ((a.length:Int) + ((1:Nat) : Int))=((a.length + 1:Nat) : Int) by rw[mV (by omega) (by omega)]; omega]
  rw[bB (by omega)]
  simp only[go_sem]
  rw[h3]
  rw[show(a++x :: b).take a.length=a by simp,show(a++x :: b).drop (a.length + 1)=b by rw[← List.drop_drop]; simp]
  exact hQ
theorem VO {x:UInt8} {ci:au} (hi:De x ci) : De x fun args M Q=>∃ a0 a1,args=[a0,a1]∧nQ ci a0 a1 M Q:=by
 intro M s Q hl hQ
 refine⟨_,_,rfl, ?_⟩
 unfold nQ
 refine hi hl ?_
 unfold JM at hQ ⊢
 cases h:brk x s with
 | none=>rw[h] at hQ; simpa only[go_sem] using hQ
 | some p=>rw[h] at hQ; simpa only[go_sem] using hQ
theorem get_bt (s:List UInt8) (i:Nat) : ((⟨⟨s⟩⟩ : ByteArray).get! i).toNat=bt s i:=by
 unfold bt
 show((⟨s⟩ : Array UInt8)[i]!).toNat=_
 simp only[getElem!_def]
 rw[List.getElem?_toArray]
 cases h:s[i]? with
 | none=>simp only[List.getD_eq_getElem?_getD,h]; rfl
 | some x=>simp[List.getD_eq_getElem?_getD,h]
theorem xW {s:List UInt8} {i:Nat} (hi:i<s.length) :
  (bt s i<128∧Utf8.decode ⟨⟨s⟩⟩ i=(bt s i,1))∨(128≤bt s i∧128≤(Utf8.decode ⟨⟨s⟩⟩ i).1∧(Utf8.decode ⟨⟨s⟩⟩ i).1<2147483648∧1≤(Utf8.decode ⟨⟨s⟩⟩ i).2∧i + (Utf8.decode ⟨⟨s⟩⟩ i).2≤s.length∧∀ k,i≤k→k<i + (Utf8.decode ⟨⟨s⟩⟩ i).2→128≤bt s k):=by
 have hs:(⟨⟨s⟩⟩ : ByteArray).size=s.length:=rfl
 unfold Utf8.decode
 simp only[get_bt,hs,Nat.add_zero,Utf8.runeError]
 by_cases h0:bt s i<128
 ·exact .inl ⟨h0,by rw[if_pos h0]⟩
 right
 have h8:bt s i<256:=by unfold bt; exact(s.getD i 0).toNat_lt
 refine⟨by omega, ?_⟩
 rw[if_neg h0]
 have one:∀ k,i≤k→k<i + 1→128≤bt s k:=fun k h1 h2=>by
  have:k=i:=by omega
  subst this; omega
 split
 ·rename_i h2
  simp only[Bool.and_eq_true,beq_iff_eq,decide_eq_true_eq] at h2
  split
  ·refine⟨by simpa using ‹_›,by simp; omega,by simp,by simp; omega,fun k h3 h4=>?_⟩
   simp at h4
   rcases Nat.lt_or_ge k (i + 1) with h5 | h5
   ·exact one k h3 h5
   ·have:k=i + 1:=by omega
    subst this; omega
  ·exact⟨by simp,by simp,by simp,by simp; omega,fun k h3 h4=>one k h3 (by simpa using h4)⟩
 ·split
  ·rename_i h3
   simp only[Bool.and_eq_true,beq_iff_eq,decide_eq_true_eq] at h3
   split
   ·rename_i h4
    simp only[Bool.and_eq_true,decide_eq_true_eq,ge_iff_le] at h4
    refine⟨by simp; omega,by simp; omega,by simp,by simp; omega,fun k h5 h6=>?_⟩
    simp at h6
    rcases Nat.lt_or_ge k (i + 1) with h7 | h7
    ·exact one k h5 h7
    ·rcases Nat.lt_or_ge k (i + 2) with h7 | h7
     ·have:k=i + 1:=by omega
      subst this; omega
     ·have:k=i + 2:=by omega
      subst this; omega
   ·exact⟨by simp,by simp,by simp,by simp; omega,fun k h3 h4=>one k h3 (by simpa using h4)⟩
  ·split
   ·rename_i h3
    simp only[Bool.and_eq_true,beq_iff_eq,decide_eq_true_eq] at h3
    split
    ·rename_i h4
     simp only[Bool.and_eq_true,decide_eq_true_eq,ge_iff_le] at h4
     refine⟨by simp; omega,by simp; omega,by simp,by simp; omega,fun k h5 h6=>?_⟩
     simp at h6
     rcases Nat.lt_or_ge k (i + 1) with h7 | h7
     ·exact one k h5 h7
     ·rcases Nat.lt_or_ge k (i + 2) with h7 | h7
      ·have:k=i + 1:=by omega
       subst this; omega
      ·rcases Nat.lt_or_ge k (i + 3) with h7 | h7
       ·have:k=i + 2:=by omega
        subst this; omega
       ·have:k=i + 3:=by omega
        subst this; omega
    ·exact⟨by simp,by simp,by simp,by simp; omega,fun k h3 h4=>one k h3 (by simpa using h4)⟩
   ·exact⟨by simp,by simp,by simp,by simp; omega,fun k h3 h4=>one k h3 (by simpa using h4)⟩
theorem Ra {r:Nat} (h:128≤r) : ∃ a x,(Utf8.encode (r:Int)).data.toList=a++[x]∧128≤x.toNat∧1≤a.length∧a.length≤3:=by
 have key:∀ c:Nat,128≤c→∃ a x,(if c<0x80 then(⟨#[UInt8.ofNat c]⟩ : ByteArray) else if c<0x800 then⟨#[UInt8.ofNat (0xC0 + c / 64),UInt8.ofNat (0x80 + c % 64)]⟩
   else if c<0x10000 then⟨#[UInt8.ofNat (0xE0 + c / 4096),UInt8.ofNat (0x80 + c / 64 % 64),UInt8.ofNat (0x80 + c % 64)]⟩
   else⟨#[UInt8.ofNat (0xF0 + c / 262144),UInt8.ofNat (0x80 + c / 4096 % 64),UInt8.ofNat (0x80 + c / 64 % 64),UInt8.ofNat (0x80 + c % 64)]⟩).data.toList=a++[x]∧128≤x.toNat∧1≤a.length∧a.length≤3:=by
  intro c hc
  rw[if_neg (by omega)]
  have hx:128≤(UInt8.ofNat (0x80 + c % 64)).toNat:=by simp; omega
  split
  ·exact⟨[_],_,rfl,hx,by simp,by simp⟩
  ·split
   ·exact⟨[_,_],_,rfl,hx,by simp,by simp⟩
   ·exact⟨[_,_,_],_,rfl,hx,by simp,by simp⟩
 have h2:128≤(if Utf8.valid (r:Int)=true then(r:Int).toNat else Utf8.runeError):=by
  split
  ·simpa using h
  ·decide
 simp only[Utf8.encode]
 generalize (if Utf8.valid (r:Int)=true then(r:Int).toNat else Utf8.runeError)=c at h2 ⊢
 exact key c h2
theorem NN {s:List UInt8} {x:UInt8} (h:x ∉ s) : Lib.indexByte s x=-1:=by
 rcases sW x s with⟨_,h2,_⟩ | ⟨a,b,_,_,h3,_⟩
 ·exact h2
 ·exact absurd (by rw[h3]; simp) h
def Asc (cs:List UInt8) : Prop:=∀ x∈cs,x.toNat<128
theorem Asc.bt {cs:List UInt8} (h:Asc cs) {i:Nat} (hi:i<cs.length) : bt cs i<128:=by
 rw[← GL hi]; exact h _ (List.getElem_mem hi)
def Di (c:au) : Prop:=∀ {M:RM} {r:Nat} {Q:ak},(∀ b,Q (Bo b) M)→c [N .i32 (r:Int)] M Q
theorem Mi:Di fun args M Q=>∃ a0,args=[a0]∧kS a0 M Q:=by
 intro M r Q hQ
 refine⟨_,rfl, ?_⟩
 unfold kS
 simp only[dN,il]
 simp only[go_sem,decide_true]
 refine⟨fun _=>hQ _,fun _=>?_⟩
 cases decide ((57343:Int)<(r:Int)) with
 | true=>simp only[go_sem]; exact⟨fun _=>hQ _,fun _=>hQ _⟩
 | false=>simp only[go_sem]; exact hQ _
def GI (cs:List UInt8) (r:Nat) : Int:=if r<128 then Lib.indexByte cs (UInt8.ofNat r) else -1
def BZ (cs:List UInt8) (c:au) : Prop:=∀ {M:RM} {r:Nat} {Q:ak},r<2147483648→(∀ M',ag [] M M'→Q (N .i64 (GI cs r)) M')→c [St cs,N .i32 (r:Int)] M Q
def oH (cs:List UInt8) (B:Base) (c:au) : Prop:=∀ {M:RM} {s:List UInt8} {Q:ak},M.base=B→s.length≤1000000000→(∀ M',ag [] M M'→Q (N .i64 (Lib.indexAny s cs)) M')→c [St s,St cs] M Q
theorem Mh {cs:List UInt8} {T:Nat} {cr cu cm ct:au} {M:RM} {s:List UInt8} {Q:ak} (hcs:Asc cs) (h2:2≤cs.length) (hl:cs.length≤1000) (hs:s.length≤8) (hr:BZ cs cr)
  (hu:∀ {M:RM} {n:Nat} {Q:ak},Q (Bo (decide (8<n))) M→cu [N .i64 (n:Int)] M Q) (hQ:∀ M',ag [] M M'→Q (N .i64 (Lib.indexAny s cs)) M') : oI cr cu cm T ct (St s) (St cs) M Q:=by
 unfold oI
 have e0:(cs == ([] : List UInt8))=false:=by
  cases cs with
  | nil=>simp at h2
  | cons=>rfl
 have e1:((cs.length:Int) == 1)=false:=by simp; omega
 simp only[bL,go_sem,e0,e1]
 refine Cu ?_
 refine hu ?_
 rw[show decide (8<s.length)=false by simp; omega]
 simp only[go_sem]
 refine⟨s,rfl, ?_⟩
 simp only[go_sem]
 refine aI (fun m ys M3=>∃ pos:Nat,m=s.length - pos∧ys=[]∧M3.heap M.next=some (.iU s pos)∧ag [] M M3∧M.next<M3.next∧pos≤s.length∧Lib.NoAny s cs pos) _
  ⟨0,rfl,rfl,RM.aV _,(ag.refl _ _).push _,by simp[RM.push],Nat.zero_le _,Lib.NoAny.zero _ _⟩ ?_
 rintro next m ys M3 hnext ⟨pos,rfl,rfl,hh,hk,hlt,hple,hno⟩
 refine⟨_,_,_,rfl,hh, ?_⟩
 have YM:∀ y,ag [] M (M3.put M.next y):=fun y=>hk.put y (.inl (Nat.le_refl _))
 split
 ·rename_i hp
  rcases xW hp with⟨d1,d2⟩ | ⟨d1,d2,d3,d4,d5,d6⟩
  ·rw[d2]
   simp only[go_sem]
   refine hr (by omega) fun M4 k4=>?_
   rw[GI,if_pos d1]
   have hx:UInt8.ofNat (bt s pos)=s[pos]:=by rw[← GL hp]; simp
   rw[hx]
   have hc:=Lib.contains_iff_indexByte cs s[pos]
   simp only[go_sem]
   refine⟨fun h=>?_,fun h=>?_⟩
   ·have h:(0:Int)≤Lib.indexByte cs s[pos]:=by simpa using h
    rw[decide_eq_true h] at hc
    have:=hQ M4 ((YM _).trans k4)
    rw[Lib.indexAny_hit hno (List.getElem?_eq_getElem hp) hc] at this
    exact this
   ·have h:¬ (0:Int)≤Lib.indexByte cs s[pos]:=by simpa using h
    rw[decide_eq_false h] at hc
    refine hnext _ _ _ (by omega) ⟨pos + 1,rfl,rfl,k4.ay (RM.lU _ _) (by simpa [RM.ql] using hlt) (by simp),(YM _).trans k4, ?_,by omega,hno.succ (List.getElem?_eq_getElem hp) hc⟩
    have:=k4.next
    simp[RM.ql] at this; omega
  ·generalize Utf8.decode ⟨⟨s⟩⟩ pos=d at *
   obtain⟨r,n⟩:=d
   simp only at d2 d3 d4 d5 d6
   simp only[go_sem]
   refine hr d3 fun M4 k4=>?_
   rw[GI,if_neg (by omega)]
   simp only[go_sem,show decide ((-1:Int) ≥ 0)=false from rfl]
   refine hnext _ _ _ (by omega) ⟨pos + n,rfl,rfl,k4.ay (RM.lU _ _) (by simpa [RM.ql] using hlt) (by simp),(YM _).trans k4, ?_,by omega,fun j b hj hb=>?_⟩
   ·have:=k4.next
    simp[RM.ql] at this; omega
   ·rcases Nat.lt_or_ge j pos with h | h
    ·exact hno j b h hb
    ·have hjl:j<s.length:=(List.getElem?_eq_some_iff.1 hb).1
     have h7:=d6 j h hj
     rw[← GL hjl] at h7
     have h8:s[j]=b:=(List.getElem?_eq_some_iff.1 hb).2
     rw[h8] at h7
     cases hcb:cs.contains b with
     | false=>rfl
     | true =>
       have:=hcs b (by simpa using hcb)
       omega
 ·simp only[go_sem]
  have:pos=s.length:=by omega
  subst this
  rw[Lib.indexAny_none hno] at hQ
  exact hQ M3 hk
def mi:List UInt8:=[44,59,58]
def jl (s:List UInt8) : List UInt8 × List UInt8 × Bool :=
 if bn 34 s then match brk 34 (s.drop 1) with
  | some (a,b)=>(a,b,iE [] a)
  | none=>(s.drop 1,[],false)
 else if Lib.indexAny s mi<0 then([],[],false)
 else(s.take (Lib.indexAny s mi).toNat,s.drop (Lib.indexAny s mi).toNat,iE [34] (s.take (Lib.indexAny s mi).toNat))
theorem Am:∀ (s cs:List UInt8),Lib.indexAny s cs<(s.length:Int)∨Lib.indexAny s cs=-1
 | [],cs=>.inr rfl
 | b :: s,cs=>by
   have:=Am s cs
   rw[Lib.indexAny]
   split
   ·left; simp only[List.length_cons]; omega
   ·split
    ·right; rfl
    ·rename_i h1 h2
     left
     rcases this with h | h
     ·simp only[List.length_cons]; omega
     ·rw[h] at h2; simp at h2
theorem yX (s:List UInt8) : (jl s).1.length≤s.length∧(jl s).2.1.length≤s.length:=by
 unfold jl
 split
 ·rcases sW 34 (s.drop 1) with⟨h1,_⟩ | ⟨a,b,h1,_,h3,_⟩
  ·rw[h1]; simp
  ·rw[h1]
   have:=congrArg List.length h3
   simp at this ⊢; omega
 ·split
  ·simp
  ·simp; omega
def Q5 (B:Base) (c:au) : Prop:=∀ {M:RM} {s:List UInt8} {Q:ak},M.base=B→s.length≤1000000→(∀ M',ag [] M M'→Q (.tup [St (jl s).1,St (jl s).2.1,Bo (jl s).2.2]) M')→c [St s] M Q
theorem Vp {B:Base} {cp cc cg ci:au} (hp:lu cp) (hc:De 34 cc) (hg:pg B cg) (hi:oH mi B ci) : Q5 B fun args M Q=>∃ a0,args=[a0]∧u7 cp cc cg ci a0 M Q:=by
 intro M s Q hM hl hQ
 refine⟨_,rfl, ?_⟩
 unfold u7
 refine hp (by omega) ?_
 unfold EC
 unfold jl at hQ
 cases hh:bn 34 s with
 | true =>
   simp only[hh,if_true] at hQ
   simp only[go_sem,dN]
   refine hc (by simp; omega) ?_
   unfold JM
   cases hb:brk 34 (s.drop 1) with
   | none =>
     simp only[hb] at hQ
     simp only[go_sem]
     exact hQ M (ag.refl _ _)
   | some p =>
     obtain⟨a,b⟩:=p
     simp only[hb] at hQ
     have:=yX s
     unfold jl at this
     simp only[hh,if_true,hb] at this
     simp only[go_sem]
     refine hg hM (by omega) fun M1 k1=>?_
     exact hQ M1 k1
 | false =>
   simp only[hh,Bool.false_eq_true,if_false] at hQ
   simp only[go_sem,Bool.false_eq_true,if_false]
   refine hi hM (by omega) fun M1 k1=>?_
   have hlt:=Am s mi
   generalize Lib.indexAny s mi=n at *
   simp only[go_sem]
   refine⟨fun h=>?_,fun h=>?_⟩
   ·have h:n<0:=by simpa using h
    simp only[h,if_true] at hQ
    exact hQ M1 k1
   ·have h:¬ n<0:=by simpa using h
    simp only[h,if_false] at hQ
    obtain⟨k,rfl⟩ : ∃ k:Nat,n=(k:Int):=⟨n.toNat,by omega⟩
    simp only[Int.toNat_natCast] at hQ
    have hk:k≤s.length:=by omega
    rw[fO hk,bB hk]
    simp only[go_sem]
    refine hg (by rw[k1.base,hM]) (by simp; omega) fun M2 k2=>?_
    exact hQ M2 (k1.trans k2)
abbrev jh:=List UInt8 × List (List UInt8)
def iI:lG jh:=lG.pre gH gH.kG.slice
theorem Dc {M:RM} {n:List UInt8} {v:AV} {vs:List (List UInt8)} {S:Nat→Prop} (h:cB gH.kG M v vs S) : iI.rel M [St n,v] (n,vs) S:=⟨[v],rfl,v,rfl,h⟩
def iN:Nat→List UInt8→List (List UInt8)→Option (List (List UInt8) × List UInt8)
 | 0,_,_=>none
 | k + 1,s,acc=>match jl (s.drop 1) with
   | (v,after,ok)=>if ok then(if bn 44 after then iN k after (acc++[v]) else some (acc++[v],after)) else none
def nD (f:List UInt8→List UInt8) : Nat→List UInt8→List jh→Option (List jh × List UInt8)
 | 0,_,_=>none
 | k + 1,s,acc=>if bn 59 s then
     (if iP f (((s.drop 1).take (wk (s.drop 1))).map dz) && bn 61 ((s.drop 1).drop (wk (s.drop 1))) then
      match iN ((s.drop 1).drop (wk (s.drop 1))).length ((s.drop 1).drop (wk (s.drop 1))) [] with
      | some (vs,s3)=>nD f k s3 (acc++[(((s.drop 1).take (wk (s.drop 1))).map dz,vs)])
      | none=>none
     else none)
   else some (acc,s)
theorem bu {x:UInt8} {s:List UInt8} (h:bn x s=true) : 1≤s.length:=by
 cases s with
 | nil=>cases h
 | cons=>simp
theorem uJ:∀ (k:Nat) (s:List UInt8) (acc vs:List (List UInt8)) (r:List UInt8),1≤s.length→iN k s acc=some (vs,r)→r.length + vs.length≤s.length + acc.length
 | 0,_,_,_,_,_,h=>by cases h
 | k + 1,s,acc,vs,r,h1,h=>by
   rw[iN] at h
   have hl:=yX (s.drop 1)
   generalize jl (s.drop 1)=x at *
   obtain⟨v,after,ok⟩:=x
   simp only[List.length_drop] at hl h
   split at h
   ·split at h
    ·rename_i hh
     have:=uJ k after _ vs r (bu hh) h
     simp at this; omega
    ·cases h; simp; omega
   ·cases h
theorem BQ:∀ (n:Nat) (s:List UInt8) (acc:List (List UInt8)) (k:Nat),s.length≤n→1≤s.length→s.length≤k→iN k s acc=iN s.length s acc
 | 0,s,acc,k,h1,h2,h3=>by omega
 | n + 1,s,acc,k,h1,h2,h3=>by
   obtain⟨j,hj⟩ : ∃ j,s.length=j + 1:=⟨s.length - 1,by omega⟩
   obtain⟨i,rfl⟩ : ∃ i,k=i + 1:=⟨k - 1,by omega⟩
   rw[hj,iN,iN]
   have hl:=yX (s.drop 1)
   generalize jl (s.drop 1)=x at *
   obtain⟨v,after,ok⟩:=x
   simp only[List.length_drop] at hl ⊢
   split
   ·split
    ·rename_i hh
     have h4:=bu hh
     rw[BQ n after _ i (by omega) h4 (by omega),BQ n after _ j (by omega) h4 (by omega)]
    ·rfl
   ·rfl
theorem Fe (f:List UInt8→List UInt8) : ∀ (n:Nat) (s:List UInt8) (acc:List jh) (k:Nat),s.length≤n→s.length + 1≤k→nD f k s acc=nD f (s.length + 1) s acc
 | n,s,acc,k,h1,h3=>by
   obtain⟨i,rfl⟩ : ∃ i,k=i + 1:=⟨k - 1,by omega⟩
   rw[nD,nD]
   split
   ·rename_i h59
    have hpos:=bu h59
    split
    ·rename_i hc
     simp only[Bool.and_eq_true] at hc
     have h61:=bu hc.2
     cases hv:iN ((s.drop 1).drop (wk (s.drop 1))).length ((s.drop 1).drop (wk (s.drop 1))) [] with
     | none=>rfl
     | some p =>
       obtain⟨vs,s3⟩:=p
       have:=uJ _ _ _ _ _ h61 hv
       simp at this
       simp only
       cases n with
       | zero=>omega
       | succ n =>
         rw[Fe f n s3 _ i (by omega) (by omega),Fe f n s3 _ s.length (by omega) (by omega)]
    ·rfl
   ·rfl
def rf (f:List UInt8→List UInt8) (s:List UInt8) : Option (List jh × List UInt8):=nD f (s.length + 1) s []
def Lm (B:Base) (f:List UInt8→List UInt8) (TP:Nat) (c:au) : Prop:=∀ {M:RM} {s:List UInt8} {Q:ak},M.base=B→s.length≤100000 →
 (∀ M',ag [] M M'→rf f s=none→Q (.tup [aJ,St [],Bo false]) M') →
 (∀ v M' ps r,ag [] M M'→rf f s=some (ps,r)→cB iI M' v ps (fun b=>M.next≤b)→ps.length + r.length≤s.length→Q (.tup [v,St r,Bo true]) M')→c [St s] M Q
theorem Rz {B:Base} {f:List UInt8→List UInt8} {TP TS:Nat} {ch cw cg cv:au} (hh:pu ch) (hw:Oy B cw) (hg:uy B f cg) (hv:Q5 B cv) :
  Lm B f TP fun args M Q=>∃ a0,args=[a0]∧sM ch TP cw cg cv TS a0 M Q:=by
 intro M s Q hM hl hN hS
 refine⟨_,rfl, ?_⟩
 unfold sM
 simp only[dN,bL]
 refine aI (fun m ys M3=>∃ (t:List UInt8) (v:AV) (acc:List jh),m=t.length∧ys=[St t,v]∧acc.length + t.length≤s.length∧ag [] M M3 ∧
   eX iI M3 M.next TP v acc (fun b=>M.next≤b∧b<M3.next∧b ∉ aH v)∧nD f (t.length + 1) t acc=rf f s) _
  ⟨s,aJ,[],rfl,rfl,by simp,ag.refl _ _,.nil,rfl⟩ ?_
 rintro next m ys M3 hnext ⟨t,v,acc,rfl,rfl,hal,hK,ho,hp⟩
 have hM3:M3.base=B:=by rw[hK.base,hM]
 rw[nD] at hp
 dsimp only[ae]
 refine hh (by omega) ?_
 cases h59:bn 59 t with
 | false =>
   simp only[h59,Bool.false_eq_true,if_false] at hp
   rw[bq]
   refine hS v M3 acc t hK hp.symm ((ho.mono (fun b h=>h.1)).zL (fun b hb _=>hb)) hal
 | true =>
   simp only[h59,if_true] at hp
   have htl:=bu h59
   rw[bC,aG,show aR (St t) (some (N .i64 1)) none=some (St (t.drop 1)) from bB (l:=1) (by omega) .i64,bK]
   have hb5:(M3.push (.row [St [],aJ] false TP 0)).heap M3.next=some (.row [St [],aJ] false TP 0):=RM.aV _
   refine hw (by rw[RM.WU,hM3]) (by simp; omega) fun M4 k4=>?_
   have hb5:=k4.ay hb5 (by simp[RM.push]) (by simp)
   have hn4:M3.next<M4.next:=by have:=k4.next; simp[RM.push] at this; omega
   have kk4:ag [] M3 M4:=((ag.refl _ _).push _).trans k4
   unfold Uw
   rw[cO,df,dM,Nat.zero_add,zM hb5 (by decide) rfl rfl,dM,Nat.zero_add,aA (aB _) rfl]
   generalize ht1:t.drop 1=t1 at *
   have ht1l:t1.length + 1=t.length:=by rw[← ht1]; simp; omega
   have hwk:=zD t1
   generalize wk t1=k at *
   refine hg (by rw[RM.Y0,kk4.base,hM3]) (by simp; omega) fun M5 k5=>?_
   rw[bX]
   have fail:rf f s=none→Q (.tup [aJ,St [],Bo false]) M5:=fun h=>hN M5 ((hK.trans kk4).new _ hK.next |>.trans k5) h
   cases hgn:iP f ((t1.take k).map dz) with
   | false =>
     simp only[hgn,Bool.false_and,Bool.false_eq_true,if_false] at hp
     rw[Bool.not_false,bU]
     dsimp only
     rw[dh,bC]
     exact fail hp.symm
   | true =>
   rw[Bool.not_true,cz]
   refine hh (by simp; omega) ?_
   rw[bX]
   cases h61:bn 61 (t1.drop k) with
   | false =>
     simp only[h61,Bool.and_false,Bool.false_eq_true,if_false] at hp
     rw[Bool.not_false,dJ,bC]
     exact fail hp.symm
   | true =>
   simp only[hgn,h61,Bool.and_self,if_true] at hp
   rw[Bool.not_true,dJ,bq]
   generalize ht2:t1.drop k=t2 at *
   have ht2l:t2.length≤t1.length:=by rw[← ht2]; simp
   generalize hnm:(t1.take k).map dz=nm at *
   -- the block of this parameter
   have hb5:M5.heap M3.next=some (.row [St nm,aJ] false TP 0):=k5.ay (aB _) (by rw[iq]; exact hn4) (by simp)
   have kk5:ag [] M3 M5:=(kk4.new _ (Nat.le_refl _)).trans k5
   have hn5:M3.next<M5.next:=by have:=k5.next; rw[iq] at this; omega
   refine aI (fun m zs M6=>∃ (u:List UInt8) (vs:List (List UInt8)) (w:AV) (more:Bool),m=2 * u.length + (if more then 1 else 0)∧zs=[St u,v,Bo more]∧u.length + vs.length≤t2.length∧ag [] M3 M6∧M5.next≤M6.next ∧
     M6.heap M3.next=some (.row [St nm,w] false TP 0)∧eX gH.kG M6 M5.next TS w vs (fun _=>False) ∧
     (more=true→1≤u.length∧iN u.length u vs=iN t2.length t2 [])∧(more=false→iN t2.length t2 []=some (vs,u))) _
    ⟨t2,[],aJ,true,rfl,rfl,by simp,kk5,Nat.le_refl _,hb5,.nil,fun _=>⟨bu h61,rfl⟩,fun h=>by cases h⟩ ?_
   rintro pJ m zs M6 gm ⟨u,vs,w,more,rfl,rfl,hul,hk6,hn6,hb6,how,hm1,hm2⟩
   dsimp only[ae]
   have hM6:M6.base=B:=by rw[hk6.base,hM3]
   cases more with
   | true =>
     obtain⟨hu1,hvf⟩:=hm1 rfl
     obtain⟨j,hj⟩ : ∃ j,u.length=j + 1:=⟨u.length - 1,by omega⟩
     rw[hj,iN] at hvf
     rw[bC,show aR (St u) (some (N .i64 1)) none=some (St (u.drop 1)) from bB (l:=1) (by omega) .i64,bK]
     have hvl:=yX (u.drop 1)
     refine hv hM6 (by simp; omega) fun M7 k7=>?_
     generalize jl (u.drop 1)=x at *
     obtain⟨a,after,ok⟩:=x
     simp only[List.length_drop] at hvl hvf
     rw[cO,df,iO,bX]
     dsimp only
     cases ok with
     | false =>
       simp only[Bool.false_eq_true,if_false] at hvf
       rw[Bool.not_false,bC]
       refine hN M7 (hK.trans (hk6.trans k7)) ?_
       rw[← hp,← hvf]
     | true =>
     simp only[if_true] at hvf
     have hb7:=k7.ay hb6 (by omega) (by simp)
     rw[Bool.not_true,bq,dM,Nat.zero_add,aA hb7 rfl,gD (x:=St a) (size:=1) rfl rfl rfl,aG]
     have afO:=how.keep k7 (by simp) (by simp)
     refine eX.app (R:=gH.kG) (a:=a) (cs:=[St a]) afO rfl (by have:=k7.next; omega) (Nat.le_refl _) (by simp) (by simp) (by omega) (by omega) ?_
     intro w' M8 o8 k8 n8 hw8 _
     have hwb:∀ b∈aH w,M5.next≤b:=fun b hb=>(how.blk b hb).1
     have hb8:=k8.ay hb7 (by have:=k7.next; omega) (fun h=>by have:=hwb _ h; omega)
     have YY:∀ b∈aH w',M5.next≤b:=fun b hb=>(o8.blk b hb).1
     rw[dM,Nat.zero_add,zM hb8 (by simp) o8.cells o8.one]
     refine hh (by omega) ?_
     have k9:ag [] M3 (M8.put M3.next (.row [St nm,w'] false TP 0)):=ag.new ((hk6.trans k7).dH k8 fun c hc=>.inl (by have:=hwb c hc; omega)) _ (Nat.le_refl _)
     refine gm _ _ _ ?_ ⟨after,vs++[a],w',bn 44 after,rfl,rfl,by simp; omega,k9,by rw[iq]; have:=k7.next; omega,aB _, ?_, ?_, ?_⟩
     ·split <;> simp <;> omega
     ·refine o8.keep (bs:=[M3.next]) ((ag.refl _ _).put _ (.inr (by simp))) (by simp) fun b hb=>?_
      have:=YY b hb
      simp; omega
     ·intro hmo
      rw[if_pos hmo] at hvf
      refine⟨bu hmo, ?_⟩
      rw[← hvf,BQ after.length after _ j (Nat.le_refl _) (bu hmo) (by omega)]
     ·intro hmo
      rw[hmo] at hvf
      simp only[Bool.false_eq_true,if_false] at hvf
      exact hvf.symm
   | false =>
     rw[hm2 rfl] at hp
     simp only at hp
     rw[bq,aP (n:=2) hb6 rfl,gD (x:=.agg [St nm,w]) (size:=2) rfl (by simp[AV.cells,how.one]; rfl) rfl,aG]
     have hvl:=ho.blk
     let S' : Nat→Prop:=fun b=>M.next≤b∧b<M6.next∧b ∉ aH v
     have ho6:eX iI M6 M.next TP v acc S':=(ho.keep hk6 (by simp) (by simp)).mono fun b h=>⟨h.1,by have:=hk6.next; omega,h.2.2⟩
     have hel:iI.rel M6 [St nm,w] (nm,vs) S':=Dc ((how.mono (S':=S') (fun _ h=>h.elim)).zL (fun b h1 h2=>⟨by have:=hK.next; omega,h2,fun hb=>by have:=(hvl b hb).2; omega⟩))
     refine eX.app (R:=iI) ho6 hel (by have:=hK.next; have:=hk6.next; omega) (by decide) (fun b hb h=>h.2.2 hb) (fun b h=>h.2.1) (by omega) (by omega) ?_
     intro v' M7 o7 k7 n7 hv7 hd7
     have hvs:=uJ _ _ _ _ _ (bu h61) (hm2 rfl)
     simp at hvs
     refine hnext _ _ _ (by omega) ⟨u,v',acc++[(nm,vs)],rfl,rfl,by simp; omega, ?_, ?_, ?_⟩
     ·exact(hK.trans hk6).dH k7 fun c hc=>.inl (hvl c hc).1
     ·exact o7.mono fun b h=>⟨h.1,by omega,fun hb=>hd7 b hb h⟩
     ·rw[← hp,Fe f u.length u _ t.length (Nat.le_refl _) (by omega)]
structure Ln where
 g:List UInt8
 n:List UInt8
 ps:List jh
 v:List UInt8
 deriving DecidableEq
def gq:lG (Ln × Int) where
 size:=5
 rel M cs a S:=∃ v,cs=[St a.1.g,St a.1.n,v,St a.1.v,N .i64 a.2]∧cB iI M v a.1.ps S
 len h:=by obtain⟨v,rfl,h⟩:=h; rfl
 one h:=by obtain⟨v,rfl,h⟩:=h; simp[h.one,eu]
 mono h hs:=by obtain⟨v,rfl,h⟩:=h; exact⟨v,rfl,h.mono hs⟩
 lt h:=by obtain⟨v,rfl,h⟩:=h; exact⟨v,rfl,h.lt⟩
 keep h hk hb:=by obtain⟨v,rfl,h⟩:=h; exact⟨v,rfl,h.keep hk hb⟩
abbrev lz:List AV:=[St [],St [],aJ,St [],N .i64 0]
def eH (s:List UInt8) : List UInt8:=(s.take (wk s)).map dz
theorem Qf (s:List UInt8) : Uw s=.tup [St (eH s),St (s.drop (wk s))]:=rfl
def tZ (f:List UInt8→List UInt8) (s:List UInt8) : Option (List UInt8 × List UInt8 × List UInt8) :=
 if bn 46 (s.drop (wk s)) then
  (if iP f (eH s) then some (eH s,eH ((s.drop (wk s)).drop 1),((s.drop (wk s)).drop 1).drop (wk ((s.drop (wk s)).drop 1))) else none)
 else some ([],eH s,s.drop (wk s))
def Dz (f:List UInt8→List UInt8) (g n s:List UInt8) : Option Ln :=
 match rf f s with
 | none=>none
 | some (ps,r)=>if iP f n && bn 58 r && iE [] (r.drop 1) then some ⟨g,n,ps,r.drop 1⟩ else none
def lN (f:List UInt8→List UInt8) (s:List UInt8) : Option Ln :=
 if iL s then(match tZ f s with
  | none=>none
  | some (g,n,r)=>Dz f g n r)
 else none
def RdC (B:Base) (f:List UInt8→List UInt8) (c:au) : Prop:=∀ {M:RM} {s:List UInt8} {Q:ak},M.base=B→s.length≤10000 →
 (∀ M',ag [] M M'→lN f s=none→Q (.tup [.agg lz,Bo false]) M') →
 (∀ cs M' L,ag [] M M'→lN f s=some L→gq.rel M' cs (L,0) (fun b=>M.next≤b)→Q (.tup [.agg cs,Bo true]) M')→c [St s] M Q
theorem Vh {M:RM} {b T:Nat} {l:List AV} {Q:ak} (h:M.heap b=some (.row l false T 0)) (hl:l.length=5) (hQ:Q (.tup [.agg lz,Bo false]) (M.put b (.row lz false T 0))) :
  dW lz [] fun t=>aC M (.ptr b 0) t 5 fun M1=>aL M1 (.ptr b 0) 5 fun res=>Q (.tup [res,Bo false]) M1:=by
 rw[gN]
 refine⟨_,rfl, ?_⟩
 rw[bY (n:=5) h rfl hl rfl,aP (n:=5) (aB _) rfl]
 exact hQ
theorem Fg {B:Base} {f:List UInt8→List UInt8} {TP TL:Nat} {cvs cw ch cg cp cv:au} (hvs:OW B cvs) (hw:Oy B cw) (hh:pu ch) (hg:uy B f cg) (hp:Lm B f TP cp) (hv:pg B cv) :
  RdC B f fun args M Q=>∃ a0,args=[a0]∧xL TL cvs cw ch cg cp cv a0 M Q:=by
 intro M s Q hM hl hN hS
 refine⟨_,rfl, ?_⟩
 unfold xL
 simp only[dN,bL]
 rw[aG]
 have h2:(M.push (.row lz false TL 0)).heap M.next=some (.row lz false TL 0):=RM.aV _
 have k1:ag [] M (M.push (.row lz false TL 0)):=(ag.refl _ _).push _
 have n1:(M.push (.row lz false TL 0)).next=M.next + 1:=rfl
 generalize M.push (.row lz false TL 0)=M1 at *
 refine hvs (by rw[k1.base,hM]) (by omega) ?_
 rw[bX]
 unfold lN at hN hS
 cases hf:iL s with
 | false =>
   rw[Bool.not_false,bC]
   exact Vh h2 rfl (hN _ (k1.new _ (Nat.le_refl _)) (by simp[hf]))
 | true =>
 simp only[hf,if_true] at hN hS
 rw[Bool.not_true,bq,aG]
 have h4:(M1.push (.row lz false TL 0)).heap (M.next + 1)=some (.row lz false TL 0):=by rw[← n1]; exact RM.aV _
 have h2:(M1.push (.row lz false TL 0)).heap M.next=some (.row lz false TL 0):=kT h2 (by omega)
 have k2:ag [] M (M1.push (.row lz false TL 0)):=k1.push _
 have n2:(M1.push (.row lz false TL 0)).next=M.next + 2:=by rw[bZ,n1]
 rw[n1]
 generalize M1.push (.row lz false TL 0)=M2 at *
 refine hw (by rw[k2.base,hM]) (by omega) fun M3 k3=>?_
 rw[Qf]
 have h2:=k3.ay h2 (by omega) (by simp)
 have h4:=k3.ay h4 (by omega) (by simp)
 have n3:=k3.next
 rw[cO,df,aT,bQ [St [],St (eH s),aJ,St [],N .i64 0] h4 (by simp) rfl rfl rfl]
 have k4:ag [] M (M3.put (M.next + 1) (.row [St [],St (eH s),aJ,St [],N .i64 0] false TL 0)):=(k2.trans k3).new _ (by omega)
 have h2:=bJ (z:=.row [St [],St (eH s),aJ,St [],N .i64 0] false TL 0) h2 (show M.next≠M.next + 1 by omega)
 have h4:(M3.put (M.next + 1) (.row [St [],St (eH s),aJ,St [],N .i64 0] false TL 0)).heap (M.next + 1)=some (.row [St [],St (eH s),aJ,St [],N .i64 0] false TL 0):=aB _
 have n4:M.next + 2≤(M3.put (M.next + 1) (.row [St [],St (eH s),aJ,St [],N .i64 0] false TL 0)).next:=by rw[iq]; omega
 generalize M3.put (M.next + 1) (.row [St [],St (eH s),aJ,St [],N .i64 0] false TL 0)=M4 at *
 have hdl:=zD s
 refine aW (fun xs M'=>∃ g n r,xs=[St r]∧tZ f s=some (g,n,r)∧r.length≤s.length∧n.length≤s.length∧ag [] M M'∧M.next + 2≤M'.next∧M'.heap M.next=some (.row lz false TL 0) ∧
   M'.heap (M.next + 1)=some (.row [St g,St n,aJ,St [],N .i64 0] false TL 0)) ?_ ?_
 ·rintro _ M5 ⟨g,n,r,rfl,hhd,hrl,hnl,k5,n5,h2,h4⟩
  rw[hhd] at hN hS
  simp only at hN hS
  unfold Dz at hN hS
  dsimp only[ae]
  have stop:∀ M',ag [] M5 M'→rf f r=none∨(∃ ps q,rf f r=some (ps,q)∧(iP f n && bn 58 q && iE [] (q.drop 1))=false)→dW lz [] fun t=>aC M' (.ptr M.next 0) t 5 fun M1=>aL M1 (.ptr M.next 0) 5 fun res=>Q (.tup [res,Bo false]) M1:=by
   intro M' k' hc
   refine Vh (k'.ay h2 (by omega) (by simp)) rfl (hN _ ((k5.trans k').new _ (Nat.le_refl _)) ?_)
   rcases hc with hc | ⟨ps,q,hc,hc2⟩
   ·simp[hc]
   ·rw[hc]; simp only[hc2,Bool.false_eq_true,if_false]
  refine hp (by rw[k5.base,hM]) (by omega) ?_ ?_
  ·intro M6 k6 hpn
   rw[cO,df,iO,bX,Bool.not_false,bU]
   dsimp only
   rw[dh,bU]
   dsimp only
   rw[dh,bU]
   dsimp only
   rw[dh,bC]
   exact stop M6 k6 (.inl hpn)
  ·intro v M6 ps q k6 hps hsl hlen
   have h4:=k6.ay h4 (by omega) (by simp)
   have n6:=k6.next
   rw[cO,df,iO,bX,Bool.not_true,cz,aT,aA h4 rfl]
   refine hg (by rw[k6.base,k5.base,hM]) (by omega) fun M7 k7=>?_
   have h4:=k7.ay h4 (by omega) (by simp)
   have n7:=k7.next
   have k67:=k6.trans k7
   rw[bX]
   dsimp only
   rw[dJ]
   cases hgn:iP f n with
   | false =>
     rw[Bool.not_false,bU]
     dsimp only
     rw[dh,bU]
     dsimp only
     rw[dh,bC]
     exact stop M7 k67 (.inr ⟨ps,q,hps,by rw[hgn]; rfl⟩)
   | true =>
   rw[Bool.not_true,cz]
   refine hh (by omega) ?_
   rw[bX]
   dsimp only
   rw[dJ]
   cases h58:bn 58 q with
   | false =>
     rw[Bool.not_false,bU]
     dsimp only
     rw[dh,bC]
     exact stop M7 k67 (.inr ⟨ps,q,hps,by rw[hgn,h58]; rfl⟩)
   | true =>
   have hq1:=bu h58
   rw[Bool.not_true,cz,show aR (St q) (some (N .i64 1)) none=some (St (q.drop 1)) from bB (l:=1) hq1 .i64,bK]
   refine hv (by rw[k7.base,k6.base,k5.base,hM]) (by simp; omega) fun M8 k8=>?_
   have h4:=k8.ay h4 (by omega) (by simp)
   have n8:=k8.next
   have k68:=k67.trans k8
   rw[bX]
   dsimp only
   rw[dJ]
   cases hgv:iE [] (q.drop 1) with
   | false =>
     rw[Bool.not_false,bC]
     exact stop M8 k68 (.inr ⟨ps,q,hps,by rw[hgn,h58,hgv]; rfl⟩)
   | true =>
   have hs8:=hsl.keep (k7.trans k8) (by simp)
   rw[Bool.not_true,bq,bK,aT,bQ [St g,St n,v,St [],N .i64 0] h4 (by simp) hs8.cells hs8.one rfl,bK]
   refine⟨rfl, ?_⟩
   rw[aT,bQ [St g,St n,v,St (q.drop 1),N .i64 0] (aB _) (by simp) rfl rfl rfl,aP (n:=5) (aB _) rfl]
   have h2:=bJ (z:=.row [St g,St n,v,St (q.drop 1),N .i64 0] false TL 0) (bJ (z:=.row [St g,St n,v,St [],N .i64 0] false TL 0) (k68.ay h2 (by omega) (by simp)) (show M.next≠M.next + 1 by omega)) (show M.next≠M.next + 1 by omega)
   rw[bY (n:=5) h2 rfl rfl (by simp[AV.cells,eu,hs8.one]),aP (n:=5) (aB _) rfl]
   refine hS _ _ ⟨g,n,ps,q.drop 1⟩ ?_ (by rw[hps]; simp only[hgn,h58,hgv,Bool.and_self,if_true]) ⟨v,rfl, ?_⟩
   ·exact(((k5.trans k68).new _ (by omega)).new _ (by omega)).new _ (Nat.le_refl _)
   ·refine(hs8.keep (bs:=[M.next,M.next + 1]) ((((ag.refl _ _).put _ (.inr (by simp))).put _ (.inr (by simp))).put _ (.inr (by simp))) ?_).mono fun b hb=>by omega
    intro b hb h
    simp at hb
    omega
 ·intro J hJ
  refine hh (by simp; omega) ?_
  unfold tZ at hJ hN
  cases h46:bn 46 (s.drop (wk s)) with
  | false =>
    rw[bq]
    simp only[h46,Bool.false_eq_true,if_false] at hJ
    exact hJ _ _ ⟨[],eH s,_,rfl,rfl,by simp,by simp[eH]; omega,k4,n4,h2,h4⟩
  | true =>
    simp only[h46,if_true] at hJ hN
    rw[bC,aT,aA h4 rfl,aT,bQ [St (eH s),St (eH s),aJ,St [],N .i64 0] h4 (by simp) rfl rfl rfl,aT,aA (aB _) rfl]
    have k5:ag [] M (M4.put (M.next + 1) (.row [St (eH s),St (eH s),aJ,St [],N .i64 0] false TL 0)):=k4.new _ (by omega)
    have h2:=bJ (z:=.row [St (eH s),St (eH s),aJ,St [],N .i64 0] false TL 0) h2 (show M.next≠M.next + 1 by omega)
    have h4:(M4.put (M.next + 1) (.row [St (eH s),St (eH s),aJ,St [],N .i64 0] false TL 0)).heap (M.next + 1)=some (.row [St (eH s),St (eH s),aJ,St [],N .i64 0] false TL 0):=aB _
    have n5:M.next + 2≤(M4.put (M.next + 1) (.row [St (eH s),St (eH s),aJ,St [],N .i64 0] false TL 0)).next:=n4
    generalize M4.put (M.next + 1) (.row [St (eH s),St (eH s),aJ,St [],N .i64 0] false TL 0)=M5 at *
    refine hg (by rw[k5.base,hM]) (by simp[eH]; omega) fun M6 k6=>?_
    have h2:=k6.ay h2 (by omega) (by simp)
    have h4:=k6.ay h4 (by omega) (by simp)
    have n6:=k6.next
    rw[bX]
    cases hgn:iP f (eH s) with
    | false =>
      rw[Bool.not_false,bC]
      refine Vh h2 rfl (hN _ ((k5.trans k6).new _ (Nat.le_refl _)) (by simp[hgn]))
    | true =>
      simp only[hgn,if_true] at hJ
      rw[Bool.not_true,bq,show aR (St (s.drop (wk s))) (some (N .i64 1)) none=some (St ((s.drop (wk s)).drop 1)) from bB (l:=1) (bu h46) .i64,bK]
      refine hw (by rw[k6.base,k5.base,hM]) (by simp; omega) fun M7 k7=>?_
      have h2:=k7.ay h2 (by omega) (by simp)
      have h4:=k7.ay h4 (by omega) (by simp)
      have n7:=k7.next
      rw[Qf,cO,df,aT,bQ [St (eH s),St (eH ((s.drop (wk s)).drop 1)),aJ,St [],N .i64 0] h4 (by simp) rfl rfl rfl]
      have ac4:=zD ((s.drop (wk s)).drop 1)
      refine hJ _ _ ⟨eH s,eH ((s.drop (wk s)).drop 1),_,rfl,rfl,by simp,by simp[eH]; omega,((k5.trans k6).trans k7).new _ (by omega),by rw[iq]; omega,bJ h2 (by omega),aB _⟩
inductive Rds where
 | ok (l:List (Ln × Int))
 | bad (k:Int) (e:Int)
def gI (f:List UInt8→List UInt8) : List (List UInt8 × Int)→List (Ln × Int)→Rds
 | [],acc=>.ok acc
 | (s,k) :: r,acc=>if s=[] then gI f r acc else if 912<s.length then .bad k 2 else match lN f s with
   | none=>.bad k 3
   | some L=>gI f r (acc++[(L,k)])
def Qs (s:List UInt8) : List (List UInt8 × Int):=(iD [] [] 1 (eY [] s)).1.zip (iD [] [] 1 (eY [] s)).2
def Ba (f:List UInt8→List UInt8) (s:List UInt8) : Rds:=gI f (Qs s) []
theorem Ru (acc:List (List UInt8)) (x:List UInt8) : (glue acc x).length=if acc≠[]∧isSp x=true then acc.length else acc.length + 1:=by
 unfold glue
 split
 ·rename_i h; simp
 ·rename_i h; simp
theorem DC:∀ (xs:List (List UInt8)) (acc:List (List UInt8)) (ns:List Int) (k:Int),acc.length=ns.length→(iD acc ns k xs).1.length=(iD acc ns k xs).2.length
 | [],acc,ns,k,h=>h
 | x :: xs,acc,ns,k,h=>by
   rw[iD]
   refine DC xs _ _ _ ?_
   rw[Ru]
   split <;> simp[h]
theorem Gj:∀ (xs:List (List UInt8)) (acc:List (List UInt8)) (ns:List Int) (k:Int),(iD acc ns k xs).1.length≤acc.length + xs.length
 | [],acc,ns,k=>by simp[iD]
 | x :: xs,acc,ns,k=>by
   rw[iD]
   have:=Gj xs (glue acc x) (if acc≠[]∧isSp x=true then ns else ns++[k]) (IntKind.i64.wrap (k + 1))
   have h:=Yr acc x
   simp only[List.length_cons]
   omega
def xP (B:Base) (f:List UInt8→List UInt8) (c:au) : Prop:=∀ {M:RM} {s:List UInt8} {Q:ak},M.base=B→s.length≤100000000 →
 (∀ v M' ls,ag [] M M'→Ba f s=.ok ls→cB gq M' v ls (fun b=>M.next≤b)→ls.length≤s.length + 1→Q (.tup [v,N .i64 0,N .i64 0]) M') →
 (∀ M' k e,ag [] M M'→Ba f s=.bad k e→Q (.tup [aJ,N .i64 k,N .i64 e]) M')→c [St s] M Q
theorem QJ {B:Base} {f:List UInt8→List UInt8} {T TI TL:Nat} {cu cr:au} (hu:sU T TI cu) (hr:RdC B f cr) : xP B f fun args M Q=>∃ a0,args=[a0]∧wV cu cr TL a0 M Q:=by
 intro M s Q hM hl hS hN
 refine⟨_,rfl, ?_⟩
 unfold wV
 simp only[dN,bL]
 refine hu (by omega) fun v u M1 ho1 ho2 hd k1=>?_
 have s1:=ho1.jX
 have s2:=ho2.jX
 have hlen:=DC (eY [] s) [] [] 1 rfl
 have hle:=Gj (eY [] s) [] [] 1
 have hrl:=oQ s []
 simp only[List.length_nil,Nat.zero_add] at hle
 unfold Ba Qs at hS hN
 generalize (iD [] [] 1 (eY [] s)).1=xs at *
 generalize (iD [] [] 1 (eY [] s)).2=ns at *
 rw[cO,df,dE.len s1]
 refine aI (fun m ys M3=>∃ (i:Nat) (w:AV) (acc:List (Ln × Int)),m=xs.length - i∧ys=[w,N .i64 i]∧i≤xs.length∧acc.length≤i∧ag [] M1 M3 ∧
   eX gq M3 M1.next TL w acc (fun b=>M1.next≤b∧b<M3.next∧b ∉ aH w)∧gI f ((xs.zip ns).drop i) acc=gI f (xs.zip ns) []) _
  ⟨0,aJ,[],rfl,rfl,Nat.zero_le _,Nat.le_refl _,ag.refl _ _,.nil,rfl⟩ ?_
 rintro next m ys M3 hnext ⟨i,w,acc,rfl,rfl,hi,hal,hK,ho,hp⟩
 dsimp only[ae]
 rw[dO]
 refine aN (fun hlt=>?_) (fun hge=>?_)
 ·have hlt:i<xs.length:=by simpa using hlt
  have t1:=dE.keep s1 hK (by simp)
  have t2:=dE.keep s2 hK (by simp)
  have hz:(xs.zip ns).drop i=(xs[i],ns[i]'(by omega)) :: (xs.zip ns).drop (i + 1):=by
   rw[List.drop_eq_getElem_cons (by simp; omega)]; simp
  rw[hz,gI] at hp
  refine aW (fun zs M'=>∃ (w' : AV) (acc' : List (Ln × Int)),zs=[w']∧acc'.length≤i + 1∧ag [] M1 M'∧eX gq M' M1.next TL w' acc' (fun b=>M1.next≤b∧b<M'.next∧b ∉ aH w')∧gI f ((xs.zip ns).drop (i + 1)) acc'=gI f (xs.zip ns) []) ?_ ?_
  ·rintro _ M4 ⟨w',acc',rfl,h1,h2,h3,h4⟩
   dsimp only[ae]
   rw[bE,eO (by omega)]
   exact hnext _ _ _ (by omega) ⟨i + 1,w',acc',rfl,rfl,by omega,h1,h2,h3,h4⟩
  ·intro J hJ
   obtain⟨b,o,hb,hbm,hidx,hc⟩:=Sl.Hl (E:=gH) t1 (i:Int) hlt
   have hc:=hc _ rfl
   rw[hidx,bT]
   refine⟨_,hc, ?_⟩
   rw[dm]
   obtain⟨b2,o2,hb2,afM,uj,hc2⟩:=Sl.Hl (E:=INT) t2 (i:Int) (show i<ns.length by omega)
   have hc2:=hc2 _ rfl
   generalize hxi:xs[i]=x at *
   generalize hni:ns[i]'(by omega)=k at *
   refine aN (fun he=>?_) (fun hne=>?_)
   ·have he:x=[]:=by simpa using he
    rw[if_pos he] at hp
    exact hJ _ _ ⟨w,acc,rfl,by omega,hK,ho,hp⟩
   ·have hne:¬ x=[]:=by simpa using hne
    rw[if_neg hne] at hp
    rw[bi,gV]
    refine aN (fun hg=>?_) (fun hg=>?_)
    ·have hg:912<x.length:=by simp at hg; omega
     rw[if_pos hg] at hp
     rw[uj,bT]
     exact⟨_,hc2,hN M3 k 2 (k1.trans hK) hp.symm⟩
    ·have hg:¬ 912<x.length:=by simp at hg; omega
     rw[if_neg hg] at hp
     have hM3:M3.base=B:=by rw[hK.base,k1.base,hM]
     refine hr hM3 (by omega) ?_ ?_
     ·intro M4 k4 hrd
      rw[hrd] at hp
      rw[cO,df,aG,bY (n:=5) (RM.aV _) rfl rfl rfl,bX,Bool.not_false,bC,uj,bT]
      have kk:ag [] M3 ((M4.push (.row lz false TL 0)).put M4.next (.row lz false TL 0)):=(k4.push _).new _ k4.next
      exact⟨_,(kk.cell hb2 (by simp)).trans hc2,hN _ k 3 ((k1.trans hK).trans kk) hp.symm⟩
     ·intro cs M4 L k4 hrd hrel
      rw[hrd] at hp
      obtain⟨pv,rfl,hpv⟩:=hrel
      simp only at hpv hp
      have Zo:([St L.g,St L.n,pv,St L.v,N .i64 0] : List AV).all oneCell=true:=by simp[eu,hpv.one]
      have Yn:([St L.g,St L.n,pv,St L.v,N .i64 k] : List AV).all oneCell=true:=by simp[eu,hpv.one]
      rw[cO,df,aG,bY (n:=5) (x:=.agg [St L.g,St L.n,pv,St L.v,N .i64 0]) (l:=lz) (RM.aV _) rfl rfl Zo,bX,Bool.not_true,bq,uj,bT]
      have k45:ag [] M4 (((M4.push (.row lz false TL 0)).put M4.next (.row [St L.g,St L.n,pv,St L.v,N .i64 0] false TL 0)).put M4.next (.row [St L.g,St L.n,pv,St L.v,N .i64 k] false TL 0)) :=
       (((ag.refl _ _).push _).new _ (Nat.le_refl _)).new _ (Nat.le_refl _)
      have k4' : ag [] M3 ((M4.push (.row lz false TL 0)).put M4.next (.row [St L.g,St L.n,pv,St L.v,N .i64 0] false TL 0)):=(k4.push _).new _ k4.next
      refine⟨_,(k4'.cell hb2 (by simp)).trans hc2, ?_⟩
      rw[aT,bQ [St L.g,St L.n,pv,St L.v,N .i64 k] (aB _) (by simp[AV.cells]) rfl rfl rfl,aP (n:=5) (aB _) rfl,gD (x:=.agg [St L.g,St L.n,pv,St L.v,N .i64 k]) (size:=5) rfl Yn rfl,aG]
      have n5:(((M4.push (.row lz false TL 0)).put M4.next (.row [St L.g,St L.n,pv,St L.v,N .i64 0] false TL 0)).put M4.next (.row [St L.g,St L.n,pv,St L.v,N .i64 k] false TL 0)).next=M4.next + 1:=rfl
      have n4:=k4.next
      have n3:=hK.next
      have hvl:=ho.blk
      let S' : Nat→Prop:=fun b=>M1.next≤b∧b<M4.next + 1∧b ∉ aH w
      have ho5:=(ho.keep (k4.trans k45) (by simp) (by simp)).mono (S':=S') fun b h=>⟨h.1,by omega,h.2.2⟩
      have hel:=(show gq.rel _ _ (L,k) _ from⟨pv,rfl,(hpv.lt.keep k45 (by simp)).mono (S':=S') fun b h=>⟨by omega,by omega,fun hb=>by have:=(hvl b hb).2; omega⟩⟩)
      refine eX.app (R:=gq) ho5 hel (show M1.next≤M4.next + 1 by omega) (by decide) (fun b hb h=>h.2.2 hb) (fun b h=>(show b<M4.next + 1 from h.2.1)) (by omega) (by omega) ?_
      intro w' M6 o6 k6 n6 _ hd6
      have n6:M4.next + 1≤M6.next:=n6
      refine hJ _ _ ⟨w',acc++[(L,k)],rfl,by simp; omega, ?_,o6.mono fun b h=>⟨h.1,by have:=h.2.1; omega,fun hb=>hd6 b hb h⟩,hp⟩
      exact(hK.trans (k4.trans k45)).dH k6 fun c hc=>.inl (hvl c hc).1
 ·have hge:i=xs.length:=by simp at hge; omega
  subst hge
  rw[List.drop_of_length_le (by simp; omega)] at hp
  refine hS w M3 acc (k1.trans hK) hp.symm ((ho.mono (fun b h=>h.1)).zL (fun b hb _=>hb) |>.mono fun b hb=>Nat.le_trans k1.next hb) (by omega)
def Wh (c:au) : Prop:=∀ {M:RM} {cs:List AV} {L:Ln} {k:Int} {S:Nat→Prop} {Q:ak},gq.rel M cs (L,k) S→L.ps.length≤1000000000 →
 (∀ cs' M',ag [] M M'→gq.rel M' cs' (L,k) (fun b=>S b∨M.next≤b)→Q (.agg cs') M')→c [.agg cs] M Q
theorem Tn {T1 T2 T3:Nat} : Wh fun args M Q=>∃ a0,args=[a0]∧KN T1 T2 T3 a0 M Q:=by
 intro M cs L k S Q hrel hpl hQ
 refine⟨_,rfl, ?_⟩
 obtain⟨v,rfl,hv⟩:=hrel
 simp only at hv
 have hv0:=hv
 have hall:([St L.g,St L.n,v,St L.v,N .i64 k] : List AV).all oneCell=true:=by simp[eu,hv.one]
 unfold KN
 rw[fU hall (by simp),aG,aG]
 have h1:((M.push (.row [St L.g,St L.n,v,St L.v,N .i64 k] false T1 0)).push (.row lz false T2 0)).heap M.next=some (.row [St L.g,St L.n,v,St L.v,N .i64 k] false T1 0):=kT (RM.aV _) (by simp[RM.push])
 have h2:((M.push (.row [St L.g,St L.n,v,St L.v,N .i64 k] false T1 0)).push (.row lz false T2 0)).heap (M.next + 1)=some (.row lz false T2 0):=RM.aV _
 have kk:ag [] M ((M.push (.row [St L.g,St L.n,v,St L.v,N .i64 k] false T1 0)).push (.row lz false T2 0)):=((ag.refl _ _).push _).push _
 have nn:((M.push (.row [St L.g,St L.n,v,St L.v,N .i64 k] false T1 0)).push (.row lz false T2 0)).next=M.next + 2:=rfl
 rw[bZ]
 generalize (M.push (.row [St L.g,St L.n,v,St L.v,N .i64 k] false T1 0)).push (.row lz false T2 0)=M1 at *
 rw[aT,aA h1 rfl,aT,aA h1 rfl,aT,aA h1 rfl,aT,aA h1 rfl,gN]
 refine⟨[St L.g,St L.n,aJ,St L.v,N .i64 k],rfl, ?_⟩
 rw[aG,bY (n:=5) (l:=lz) (RM.aV _) rfl rfl rfl]
 have h1:((M1.push (.row lz false T2 0)).put M1.next (.row [St L.g,St L.n,aJ,St L.v,N .i64 k] false T2 0)).heap M.next=some (.row [St L.g,St L.n,v,St L.v,N .i64 k] false T1 0):=bJ (kT h1 (by omega)) (by omega)
 have h2:((M1.push (.row lz false T2 0)).put M1.next (.row [St L.g,St L.n,aJ,St L.v,N .i64 k] false T2 0)).heap (M.next + 1)=some (.row lz false T2 0):=bJ (kT h2 (by omega)) (by omega)
 have h3:((M1.push (.row lz false T2 0)).put M1.next (.row [St L.g,St L.n,aJ,St L.v,N .i64 k] false T2 0)).heap (M.next + 2)=some (.row [St L.g,St L.n,aJ,St L.v,N .i64 k] false T2 0):=by rw[← nn]; exact aB _
 have kk:ag [] M ((M1.push (.row lz false T2 0)).put M1.next (.row [St L.g,St L.n,aJ,St L.v,N .i64 k] false T2 0)):=(kk.push _).new _ (by omega)
 have n3:((M1.push (.row lz false T2 0)).put M1.next (.row [St L.g,St L.n,aJ,St L.v,N .i64 k] false T2 0)).next=M.next + 3:=by rw[iq,bZ,nn]
 change bf _ _ ((M1.push (.row lz false T2 0)).put M1.next (.row [St L.g,St L.n,aJ,St L.v,N .i64 k] false T2 0))
 generalize (M1.push (.row lz false T2 0)).put M1.next (.row [St L.g,St L.n,aJ,St L.v,N .i64 k] false T2 0)=M2 at *
 rw[nn]
 refine aI (fun m ys M3=>∃ (i:Nat) (w:AV),m=L.ps.length - i∧ys=[N .i64 i]∧i≤L.ps.length∧ag [] M M3∧M.next + 3≤M3.next∧M3.heap M.next=some (.row [St L.g,St L.n,v,St L.v,N .i64 k] false T1 0) ∧
   M3.heap (M.next + 1)=some (.row lz false T2 0)∧M3.heap (M.next + 2)=some (.row [St L.g,St L.n,w,St L.v,N .i64 k] false T2 0)∧eX iI M3 (M.next + 3) T3 w (L.ps.take i) (fun b=>S b∧b<M.next)) _
  ⟨0,aJ,rfl,rfl,Nat.zero_le _,kk,by omega,h1,h2,h3,.nil⟩ ?_
 rintro next m ys M3 hnext ⟨i,w,rfl,rfl,hi,hK,n3,h1,h2,h3,ho⟩
 have hv3:=hv0.lt.keep hK (by simp)
 dsimp only[ae]
 rw[aT,aA h1 rfl,hv3.len,dO]
 refine aN (fun hlt=>?_) (fun hge=>?_)
 ·have hlt:i<L.ps.length:=by simpa using hlt
  rw[aT,aA h3 rfl,aT,aA h1 rfl]
  obtain⟨b,o,cs,hb,hbm,hidx,hld,hrel⟩:=cB.at hv3 2 (i:Int) hlt
  obtain⟨ds,rfl,pv,rfl,hpv⟩:=hrel
  rw[hidx,dM,bT]
  refine⟨St L.ps[i].1,dU hld (j:=0) rfl, ?_⟩
  rw[aT,aA h1 rfl,hidx,dM,bT]
  refine⟨pv,dU hld (j:=1) rfl, ?_⟩
  rw[gN]
  refine⟨[St L.ps[i].1,pv],acK rfl rfl hpv.known hpv.cells, ?_⟩
  rw[gD (x:=.agg [St L.ps[i].1,pv]) (size:=2) rfl (by simp[eu,AV.cells,hpv.one]) rfl,qL]
  have hvl:=ho.blk
  refine eX.app (R:=iI) (a:=L.ps[i]) ho (Dc hpv) n3 (by decide) (fun b hb h=>by have:=hvl b hb; omega) (fun b h=>by omega) (by simp; omega) (by simp; omega) ?_
  intro w' M4 o4 k4 n4 _ _
  have g3:=k4.ay h3 (by omega) (fun h=>by have:=hvl _ h; omega)
  rw[aT,bQ [St L.g,St L.n,w',St L.v,N .i64 k] g3 (by simp) o4.cells o4.one rfl,bE,eO (by omega)]
  refine hnext _ _ _ (by omega) ⟨i + 1,w',rfl,rfl,by omega, ?_,by rw[iq]; omega, ?_, ?_,aB _, ?_⟩
  ·exact(hK.dH k4 fun c hc=>.inl (by have:=hvl c hc; omega)).new _ (by omega)
  ·exact bJ (k4.ay h1 (by omega) (fun h=>by have:=hvl _ h; omega)) (by omega)
  ·exact bJ (k4.ay h2 (by omega) (fun h=>by have:=hvl _ h; omega)) (by omega)
  ·rw[List.take_succ_eq_append_getElem hlt]
   refine o4.keep (bs:=[M.next + 2]) ((ag.refl _ _).put _ (.inr (by simp))) (fun b hb h=>by simp at hb; omega) fun b hb h=>?_
   have:=o4.blk b hb
   simp at h; omega
 ·have hge:i=L.ps.length:=by simp at hge; omega
  subst hge
  rw[List.take_length] at ho
  have hw:=ho.one
  rw[aP (n:=5) h3 rfl,bY (n:=5) (x:=.agg [St L.g,St L.n,w,St L.v,N .i64 k]) h2 rfl rfl (by simp[eu,AV.cells,hw]),aP (n:=5) (aB _) rfl]
  refine hQ _ _ (hK.new _ (by omega)) ⟨w,rfl, ?_⟩
  have hk1:=ho.keep (bs:=[M.next + 1]) ((ag.refl _ M3).put (b:=M.next + 1) (.row (AV.agg [St L.g,St L.n,w,St L.v,N .i64 k]).cells false T2 0) (.inr (by simp))) (fun b hb h=>by simp at hb; omega) (fun b hb h=>by have:=ho.blk b hb; simp at h; omega)
  exact(hk1.mono (S':=fun b=>S b∨M.next≤b) fun b h=>.inl h.1).zL fun b h1 _=>.inr (by omega)
theorem NP:xI fun args M Q=>∃ a0,args=[a0]∧uT a0 M Q:=by
 intro M x Q hQ
 refine⟨_,rfl, ?_⟩
 unfold uT
 simp only[dN]
 unfold gW at hQ
 by_cases h9:x.toNat=9
 ·have e9:((x.toNat:Int) == 9)=true:=by simp[h9]
  simp only[go_sem,e9]
  simpa [h9] using hQ
 ·have e9:((x.toNat:Int) == 9)=false:=by simp; omega
  by_cases h1:32≤x.toNat
  ·have e1:decide ((x.toNat:Int) ≥ 32)=true:=by simp; omega
   by_cases h2:x.toNat=127
   ·have e2:((x.toNat:Int) != 127)=false:=by simp[h2]
    simp only[go_sem,e9,e1,e2]
    simpa [h2] using hQ
   ·have e2:((x.toNat:Int) != 127)=true:=by simp; omega
    simp only[go_sem,e9,e1,e2]
    simpa [h1,h2,h9] using hQ
  ·have e1:decide ((x.toNat:Int) ≥ 32)=false:=by simp; omega
   simp only[go_sem,e9,e1]
   simpa [h1,h9] using hQ
def qb (c:UInt8) : Bool:=(decide (97≤c.toNat) && decide (c.toNat≤122)) || (decide (65≤c.toNat) && decide (c.toNat≤90)) || (decide (48≤c.toNat) && decide (c.toNat≤57)) || decide (c.toNat=45)
def wn (s:List UInt8) : Nat:=(s.takeWhile qb).length
theorem Ox (s:List UInt8) : wn s≤s.length:=by
 unfold wn
 induction s with
 | nil=>simp
 | cons c s ih =>
   rw[List.takeWhile_cons]
   split <;> simp <;> omega
def QZ (c:au) : Prop:=∀ {M:RM} {s:List UInt8} {Q:ak},s.length≤1000000000→Q (N .i64 ((wn s:Nat) : Int)) M→c [St s] M Q
theorem nL {α:Type} {p:α→Bool} : ∀ {s:List α} {i:Nat},i≤s.length→(s.take i).all p=true→(i=s.length∨∃ c,s[i]?=some c∧p c=false)→(s.takeWhile p).length=i
 | [],i,h,_,_=>by simp at h; simp[h]
 | c :: s,0,_,_,h=>by
   rcases h with h | ⟨d,h1,h2⟩
   ·simp at h
   ·simp at h1; subst h1
    simp[List.takeWhile_cons,h2]
 | c :: s,i + 1,h,ha,hs=>by
   simp only[List.take_succ_cons,List.all_cons,Bool.and_eq_true] at ha
   rw[List.takeWhile_cons,if_pos ha.1,List.length_cons,nL (i:=i) (by simpa using h) ha.2 (by simpa using hs)]
theorem Qo:QZ fun args M Q=>∃ a0,args=[a0]∧xS a0 M Q:=by
 intro M s Q hl hQ
 refine⟨_,rfl, ?_⟩
 unfold xS
 simp only[dN]
 refine aI (fun m ys M3=>M3=M∧∃ i:Nat,m=s.length - i∧ys=[N .i64 i]∧i≤s.length∧(s.take i).all qb=true) _ ⟨rfl,0,rfl,rfl,Nat.zero_le _,rfl⟩ ?_
 rintro next m ys M3 hnext ⟨rfl,i,rfl,rfl,hi,ha⟩
 dsimp only[ae]
 rw[bi,dO]
 by_cases hlt:i<s.length
 ·have e1:decide ((i:Int)<(s.length:Int))=true:=by simpa using hlt
  have hg:s[i]?=some s[i]:=List.getElem?_eq_getElem hlt
  have htk:=List.take_succ_eq_append_getElem hlt
  generalize s[i]=c at *
  have w1:=eO (show i<9223372036854775807 by omega)
  have fin:qb c=true→next [N .i64 ((i + 1:Nat) : Int)] M3:=fun h=>hnext _ _ _ (by omega) ⟨rfl,i + 1,rfl,rfl,by omega,by rw[htk,List.all_append,ha]; simp[h]⟩
  have stop:qb c=false→Q (N .i64 (i:Int)) M3:=fun h=>by
   have:=nL hi ha (.inr ⟨c,hg,h⟩)
   have h2:=hQ
   unfold wn at h2
   rw[this] at h2
   exact h2
  have h8:=ug c
  have idx:∀ K:AV→Prop,bA (St s) (N .i64 (i:Int)) K=K (N .u8 c.toNat):=fun K=>by
   rw[Lv]
   apply propext
   constructor
   ·rintro⟨_,b,hb,hk⟩; rw[Int.toNat_natCast,hg] at hb; cases hb; exact hk
   ·intro hk; exact⟨by omega,c,by rw[Int.toNat_natCast]; exact hg,hk⟩
  rw[e1]
  by_cases a:97≤c.toNat
  ·have ea:decide ((c.toNat:Int) ≥ 97)=true:=by simp; omega
   by_cases b:c.toNat≤122
   ·have eb:decide ((c.toNat:Int)≤122)=true:=by simp; omega
    simp only[gP,bV,bU,dF,cz,dh,dJ,bC,bq,idx,dL,il,bH,ea,eb]
    rw[bE,w1]
    exact fin (by simp[qb,a,b])
   ·have eb:decide ((c.toNat:Int)≤122)=false:=by simp; omega
    have e2:decide ((c.toNat:Int) ≥ 65)=true:=by simp; omega
    have e3:decide ((c.toNat:Int)≤90)=false:=by simp; omega
    have e4:decide ((c.toNat:Int) ≥ 48)=true:=by simp; omega
    have e5:decide ((c.toNat:Int)≤57)=false:=by simp; omega
    have e6:((c.toNat:Int) == 45)=false:=by simp; omega
    simp only[gP,bV,bU,dF,cz,dh,dJ,bC,bq,idx,dL,il,bH,ea,eb,e2,e3,e4,e5,e6]
    exact stop (by simp[qb]; omega)
  ·have ea:decide ((c.toNat:Int) ≥ 97)=false:=by simp; omega
   by_cases b:65≤c.toNat
   ·have eb:decide ((c.toNat:Int) ≥ 65)=true:=by simp; omega
    by_cases d:c.toNat≤90
    ·have ed:decide ((c.toNat:Int)≤90)=true:=by simp; omega
     simp only[gP,bV,bU,dF,cz,dh,dJ,bC,bq,idx,dL,il,bH,ea,eb,ed]
     rw[bE,w1]
     exact fin (by simp[qb,b,d])
    ·have ed:decide ((c.toNat:Int)≤90)=false:=by simp; omega
     have e4:decide ((c.toNat:Int) ≥ 48)=true:=by simp; omega
     have e5:decide ((c.toNat:Int)≤57)=false:=by simp; omega
     have e6:((c.toNat:Int) == 45)=false:=by simp; omega
     simp only[gP,bV,bU,dF,cz,dh,dJ,bC,bq,idx,dL,il,bH,ea,eb,ed,e4,e5,e6]
     exact stop (by simp[qb]; omega)
   ·have eb:decide ((c.toNat:Int) ≥ 65)=false:=by simp; omega
    by_cases d:48≤c.toNat
    ·have ed:decide ((c.toNat:Int) ≥ 48)=true:=by simp; omega
     by_cases g:c.toNat≤57
     ·have eg:decide ((c.toNat:Int)≤57)=true:=by simp; omega
      simp only[gP,bV,bU,dF,cz,dh,dJ,bC,bq,idx,dL,il,bH,ea,eb,ed,eg]
      rw[bE,w1]
      exact fin (by simp[qb,d,g])
     ·have eg:decide ((c.toNat:Int)≤57)=false:=by simp; omega
      have e6:((c.toNat:Int) == 45)=false:=by simp; omega
      simp only[gP,bV,bU,dF,cz,dh,dJ,bC,bq,idx,dL,il,bH,ea,eb,ed,eg,e6]
      exact stop (by simp[qb]; omega)
    ·have ed:decide ((c.toNat:Int) ≥ 48)=false:=by simp; omega
     by_cases g:c.toNat=45
     ·have eg:((c.toNat:Int) == 45)=true:=by simp; omega
      simp only[gP,bV,bU,dF,cz,dh,dJ,bC,bq,idx,dL,il,bH,ea,eb,ed,eg]
      rw[bE,w1]
      exact fin (by simp[qb,g])
     ·have eg:((c.toNat:Int) == 45)=false:=by simp; omega
      simp only[gP,bV,bU,dF,cz,dh,dJ,bC,bq,idx,dL,il,bH,ea,eb,ed,eg]
      exact stop (by simp[qb]; omega)
 ·have hge:i=s.length:=by omega
  have e1:decide ((i:Int)<(s.length:Int))=false:=by simp; omega
  rw[e1]
  simp only[gP,bV,bU,dF,cz,dh,dJ,bC,bq]
  have:=nL hi ha (.inl hge)
  have h2:=hQ
  unfold wn at h2
  rw[this] at h2
  exact h2
theorem Rl {T8:Nat} : xN fun args M Q=>∃ a0,args=[a0]∧Af T8 a0 M Q:=by
 intro M s Q hl hQ
 refine⟨_,rfl, ?_⟩
 unfold Af
 simp only[dN,bL]
 rw[qV,aG]
 have hk1:ag [] M (M.push (.row (BY.row s) true T8 0)):=(ag.refl _ _).push _
 have hr1:Rw BY (M.push (.row (BY.row s) true T8 0)) M.next true T8 s:=Rw.new M s
 generalize M.push (.row (BY.row s) true T8 0)=M1 at *
 refine aI (fun m ys M3=>∃ i:Nat,m=s.length - i∧ys=[N .i64 i]∧i≤s.length∧Rw BY M3 M.next true T8 ((s.take i).map dz++s.drop i)∧ag [] M M3) _
  ⟨0,rfl,rfl,Nat.zero_le _,by simpa using hr1,hk1⟩ ?_
 rintro next m ys M3 hnext ⟨i,rfl,rfl,hi,hR,hK⟩
 dsimp only[ae]
 rw[oM,dO]
 refine aN (fun hlt=>?_) (fun hge=>?_)
 ·have hlt:i<s.length:=by simpa using hlt
  have hlen:i<((s.take i).map dz++s.drop i).length:=by simp; omega
  have hc:=hR.ah hlen
  have w1:=eO (show i<9223372036854775807 by omega)
  rw[Si hlt hlen] at hc
  have idx:∀ K:AV→Prop,aM (.slc M.next 0 s.length (.op 1)) (N .i64 (i:Int)) 1 K=K (.ptr M.next i):=fun K=>by
   rw[qK]
   simp only[Int.toNat_natCast,Nat.mul_one,Nat.zero_add]
   exact propext ⟨fun h=>h.2.2,fun h=>⟨by omega,by omega,h⟩⟩
  have ld:∀ K:AV→Prop,ah M3 (.ptr M.next i) K=K (By s[i]):=fun K=>by
   rw[bT,hc]; simp
  refine aW (fun xs M'=>xs=[]∧Rw BY M' M.next true T8 ((s.take (i + 1)).map dz++s.drop (i + 1))∧ag [] M M') ?_ ?_
  ·rintro _ M4 ⟨rfl,h1,h2⟩
   rw[bE,w1]
   exact hnext _ _ _ (by omega) ⟨i + 1,rfl,rfl,by omega,h1,h2⟩
  ·intro J hJ
   have same:dz s[i]=s[i]→J [] M3:=fun h=>by
    refine hJ _ _ ⟨rfl, ?_,hK⟩
    rw[CS hlt,h,← List.drop_eq_getElem_cons hlt]
    exact hR
   have cb:=ug s[i]
   rw[idx,ld,dL]
   by_cases h1:65≤s[i].toNat
   ·have e1:decide ((s[i].toNat:Int) ≥ 65)=true:=by simp; omega
    rw[e1,bV,idx,ld,il]
    dsimp only
    rw[dh]
    by_cases h2:s[i].toNat≤90
    ·have e2:decide ((s[i].toNat:Int)≤90)=true:=by simp; omega
     have hlow:dz s[i]=UInt8.ofNat (s[i].toNat + 32):=by rw[dz,if_pos ⟨h1,h2⟩]
     have wv:N IntKind.u8 (IntKind.u8.wrap ((s[i].toNat:Int) + 32))=By (dz s[i]):=by
      rw[hlow,By,Pg,Nat.mod_eq_of_lt (by omega)]
      congr 1
      rw[nC (by omega) (by omega)]; omega
     obtain⟨hs,hR'⟩:=hR.Jw hlen (dz s[i])
     rw[Py hlt] at hs hR'
     rw[e2,bC,idx,ld,bE,wv,idx,vY]
     refine⟨rfl,_,hs,hJ _ _ ⟨rfl, ?_,hK.put _ (.inl (Nat.le_refl _))⟩⟩
     rw[CS hlt]
     exact hR'
    ·have e2:decide ((s[i].toNat:Int)≤90)=false:=by simp; omega
     rw[e2,bq]
     exact same (by rw[dz,if_neg (by omega)])
   ·have e1:decide ((s[i].toNat:Int) ≥ 65)=false:=by simp; omega
    rw[e1,dF]
    dsimp only
    rw[dJ,bq]
    exact same (by rw[dz,if_neg (by omega)])
 ·have:i=s.length:=by simp at hge; omega
  subst this
  rw[List.take_length,List.drop_length,List.append_nil] at hR
  have:=hR.sl (cap:=.op 1)
  rw[List.length_map] at this
  rw[Sl.str this]
  exact hQ M3 hK
theorem J6 {c:UInt8} {r:List UInt8} {kd:IntKind} {K:AV→Prop} : bA (St (c :: r)) (N kd 0) K=K (By c):=gM (s:=c :: r) (i:=0) (by simp) kd K
theorem uG {a b:UInt8} : (((a.toNat:Int)) != (b.toNat:Int))=(a != b):=by
 by_cases h:a=b
 ·subst h; simp
 ·have:a.toNat≠b.toNat:=fun e=>h (UInt8.toNat_inj.1 e)
  have h2:(a != b)=true:=by simp[h]
  rw[h2]; simp; omega
theorem WB {a b:UInt8} : (((a.toNat:Int)) == (b.toNat:Int))=(a == b):=by
 by_cases h:a=b
 ·subst h; simp
 ·have:a.toNat≠b.toNat:=fun e=>h (UInt8.toNat_inj.1 e)
  have h2:(a == b)=false:=by simp[h]
  rw[h2]; simp; omega
theorem headW {x:UInt8} {n:Int} (hn:(x.toNat:Int)=n) {t:List UInt8} {M:RM} {K:AV→RM→Prop} :
  (aa (Bo (decide ((t.length:Int) > 0))) true (fun k'=>bA (St t) (N .i64 0) fun a=>af .eql a (N .u8 n) fun b=>k' b M) (fun k=>k .undef M) fun b M1=>aD (Bo (decide ((t.length:Int) > 0))) b (Bo false) fun d=>K d M1)=K (Bo (bn x t)) M:=by
 subst hn
 cases t with
 | nil =>
   rw[show decide (((([] : List UInt8).length:Nat) : Int) > 0)=false from rfl,dF]
   dsimp only
   rw[dJ]; rfl
 | cons c r =>
   rw[show decide ((((c :: r).length:Nat) : Int) > 0)=true by simp,bV,J6,bH,WB]
   dsimp only
   rw[dh]; rfl
theorem WN {x:UInt8} {n:Int} (hn:(x.toNat:Int)=n) {t:List UInt8} {M:RM} {K:AV→RM→Prop} :
  (aa (Bo ((t.length:Int) == 0)) false (fun k'=>bA (St t) (N .i64 0) fun a=>af .neq a (N .u8 n) fun b=>k' b M) (fun k=>k .undef M) fun b M1=>aD (Bo ((t.length:Int) == 0)) (Bo true) b fun d=>K d M1)=K (Bo (!bn x t)) M:=by
 subst hn
 cases t with
 | nil =>
   rw[show(((([] : List UInt8).length:Nat) : Int) == 0)=true from rfl,bU]
   dsimp only
   rw[dh]; rfl
 | cons c r =>
   rw[show((((c :: r).length:Nat) : Int) == 0)=false by simp; omega,cz,J6,di,uG]
   dsimp only
   rw[dJ]; rfl
def nM (c:UInt8) : Bool:=c != 34 && gW c
def oN (c:UInt8) : Bool:=gW c && c != 34 && c != 44 && c != 59 && c != 58
def qA (s:List UInt8) : Option (List UInt8 × List UInt8) :=
 if bn 34 s then
  (if bn 34 ((s.drop 1).dropWhile nM) then some ((s.drop 1).takeWhile nM,((s.drop 1).dropWhile nM).drop 1) else none)
 else some (s.takeWhile oN,s.dropWhile oN)
def lY:Nat→List UInt8→List (List UInt8)→Option (List (List UInt8) × List UInt8)
 | 0,_,_=>none
 | k + 1,s,acc=>match qA s with
   | none=>none
   | some (v,r)=>if bn 44 r then lY k (r.drop 1) (acc++[v]) else some (acc++[v],r)
theorem lL {α:Type} (p:α→Bool) : ∀ s:List α,s.drop (s.takeWhile p).length=s.dropWhile p∧s.take (s.takeWhile p).length=s.takeWhile p
 | []=>by simp
 | c :: s=>by
   rw[List.takeWhile_cons,List.dropWhile_cons]
   split
   ·have:=lL p s
    simp[this.1,this.2]
   ·simp
theorem Mw {s v r:List UInt8} (h:qA s=some (v,r)) : r.length≤s.length:=by
 unfold qA at h
 split at h
 ·split at h
  ·cases h
   have:=nR nM (s.drop 1)
   simp at this ⊢; omega
  ·cases h
 ·cases h
  exact nR oN s
theorem Cj:∀ (n:Nat) (s:List UInt8) (acc:List (List UInt8)) (k:Nat),s.length≤n→s.length + 1≤k→lY k s acc=lY (s.length + 1) s acc
 | n,s,acc,k,h1,h3=>by
   obtain⟨i,rfl⟩ : ∃ i,k=i + 1:=⟨k - 1,by omega⟩
   rw[lY,lY]
   cases hv:qA s with
   | none=>rfl
   | some p =>
     obtain⟨v,r⟩:=p
     have hl:=Mw hv
     simp only
     split
     ·rename_i hh
      have h4:=bu hh
      cases n with
      | zero=>omega
      | succ n=>rw[Cj n (r.drop 1) _ i (by simp; omega) (by simp; omega),Cj n (r.drop 1) _ s.length (by simp; omega) (by simp; omega)]
     ·rfl
def PX (s:List UInt8) : Option (List (List UInt8) × List UInt8):=lY (s.length + 1) s []
theorem ET:∀ (k:Nat) (s:List UInt8) (acc vs:List (List UInt8)) (r:List UInt8),lY k s acc=some (vs,r)→r.length + vs.length≤s.length + acc.length + 1
 | 0,_,_,_,_,h=>by cases h
 | k + 1,s,acc,vs,r,h=>by
   rw[lY] at h
   cases hv:qA s with
   | none=>rw[hv] at h; cases h
   | some p =>
     obtain⟨v,t⟩:=p
     have hl:=Mw hv
     rw[hv] at h
     simp only at h
     split at h
     ·rename_i hh
      have h4:=bu hh
      have:=ET k _ _ _ _ h
      simp at this; omega
     ·cases h; simp; omega
def Iy (T:Nat) (c:au) : Prop:=∀ {M:RM} {s:List UInt8} {Q:ak},s.length≤1000000000 →
 (∀ M',ag [] M M'→PX s=none→Q (.tup [aJ,St [],Bo false]) M') →
 (∀ v M' vs r,ag [] M M'→PX s=some (vs,r)→Ow gH M' M.next T v vs→Q (.tup [v,St r,Bo true]) M')→c [St s] M Q
theorem RG {T:Nat} {cp:au} (hp:xI cp) : Iy T fun args M Q=>∃ a0,args=[a0]∧tH cp T a0 M Q:=by
 intro M s Q hl hN hS
 refine⟨_,rfl, ?_⟩
 unfold tH
 simp only[dN,bL]
 refine aI (fun m ys M3=>∃ (t:List UInt8) (v:AV) (acc:List (List UInt8)),m=t.length∧ys=[St t,v]∧t.length + acc.length≤s.length∧ag [] M M3∧Ow gH M3 M.next T v acc∧lY (t.length + 1) t acc=PX s) _
  ⟨s,aJ,[],rfl,rfl,by simp,ag.refl _ _,.nil,rfl⟩ ?_
 rintro next m ys M3 hnext ⟨t,v,acc,rfl,rfl,htl,hK,ho,hrv⟩
 rw[lY] at hrv
 dsimp only[ae]
 refine aW (fun xs M'=>M'=M3∧∃ (k:Nat) (w:List UInt8),xs=[N .i64 (k:Int),St w]∧k≤t.length∧qA t=some (w,t.drop k)) ?_ ?_
 ·rintro _ M4 ⟨rfl,k,w,rfl,hk,hv⟩
  rw[hv] at hrv
  simp only at hrv
  dsimp only[ae]
  refine JH ho hK.next (by omega) fun v' M5 o5 k5 _=>?_
  have kk:ag [] M M5:=hK.dH k5 fun c hc=>.inl (ho.blk c hc).1
  rw[bB hk,bK,bi,bH]
  have hdl:(t.drop k).length≤t.length:=by simp
  generalize t.drop k=r at *
  rw[WN (x:=44) (n:=44) rfl]
  cases hh:bn 44 r with
  | false =>
    rw[Bool.not_false,bC]
    rw[if_neg (by rw[hh]; simp)] at hrv
    exact hS v' M5 _ _ kk hrv.symm o5
  | true =>
    rw[if_pos hh] at hrv
    have hr1:=bu hh
    rw[Bool.not_true,bq,show aR (St r) (some (N .i64 1)) none=some (St (r.drop 1)) from bB (l:=1) hr1 .i64,bK]
    refine hnext _ _ _ (by simp; omega) ⟨r.drop 1,v',acc++[w],rfl,rfl,by simp; omega,kk,o5, ?_⟩
    rw[← hrv,Cj (r.drop 1).length (r.drop 1) _ t.length (Nat.le_refl _) (by simp; omega)]
 ·intro J hJ
  rw[bi,gV,headW (x:=34) (n:=34) rfl]
  unfold qA at hJ hrv
  cases h34:bn 34 t with
  | true =>
    simp only[h34,if_true] at hJ hrv
    rw[bC]
    obtain⟨c,t1,rfl⟩ : ∃ c t1,t=c :: t1:=by
     cases t with
     | nil=>cases h34
     | cons c t1=>exact⟨c,t1,rfl⟩
    simp only[List.drop_succ_cons,List.drop_zero] at hJ hrv
    simp only[List.length_cons] at htl
    refine aI (fun m ys M4=>M4=M3∧∃ n:Nat,m=t1.length - n∧ys=[N .i64 ((n + 1:Nat) : Int)]∧n≤t1.length∧(t1.take n).all nM=true) _ ⟨rfl,0,rfl,rfl,Nat.zero_le _,rfl⟩ ?_
    rintro pJ m ys M4 gm ⟨rfl,n,rfl,rfl,hn,ha⟩
    dsimp only[ae]
    rw[bi,dO]
    have hle:(c :: t1).length=t1.length + 1:=rfl
    have w1:=eO (show n + 1<9223372036854775807 by omega)
    have done:(n=t1.length∨∃ c,t1[n]?=some c∧nM c=false)→n=(t1.takeWhile nM).length∧t1.drop n=t1.dropWhile nM∧t1.take n=t1.takeWhile nM:=fun h=>by
     have h1:=nL hn ha h
     have h2:=lL nM t1
     rw[h1] at h2
     exact⟨h1.symm,h2⟩
    have stop:(n=t1.length∨∃ c,t1[n]?=some c∧nM c=false)→aQ (St (c :: t1)) fun t36=>af .eql (N .i64 ((n + 1:Nat) : Int)) t36 fun t37 =>
      aa t37 false (fun k'=>bA (St (c :: t1)) (N .i64 ((n + 1:Nat) : Int)) fun t41=>af .neq t41 (N .u8 34) fun t42=>k' t42 M4) (fun k=>k .undef M4) fun adl Ub =>
      aD t37 (Bo true) adl fun t43=>aj t43 (Q (.tup [aJ,St [],Bo false]) Ub) (bP (aR (St (c :: t1)) (some (N .i64 1)) (some (N .i64 ((n + 1:Nat) : Int)))) fun t46=>af .add (N .i64 ((n + 1:Nat) : Int)) (N .i64 1) fun t48=>J [t48,t46] Ub):=fun h=>by
     obtain⟨h1,h2,h3⟩:=done h
     rw[bi,bH]
     by_cases he:n=t1.length
     ·rw[show(((n + 1:Nat) : Int) == ((c :: t1).length:Int))=true by simp[he],bU]
      dsimp only
      rw[dh,bC]
      refine hN M4 hK ?_
      rw[he,List.drop_length] at h2
      rw[← hrv,← h2]
      rfl
     ·have hlt:n<t1.length:=by omega
      rw[show(((n + 1:Nat) : Int) == ((c :: t1).length:Int))=false by simp; omega,cz,gM (s:=c :: t1) (i:=n + 1) (by simp; omega) .i64,di]
      dsimp only
      rw[dJ,show(c :: t1)[n + 1]'(by simp; omega)=t1[n] from rfl,show((t1[n].toNat:Int) != 34)=(t1[n] != 34) from uG (b:=34)]
      have hhd:bn 34 (t1.dropWhile nM)=(t1[n] == 34):=by rw[← h2,List.drop_eq_getElem_cons hlt]; rfl
      cases hq:t1[n] == 34 with
      | false =>
        rw[show(t1[n] != 34)=true by rw[bne,hq]; rfl,bC]
        refine hN M4 hK ?_
        rw[hhd,hq] at hrv
        simpa using hrv.symm
      | true =>
        rw[show(t1[n] != 34)=false by rw[bne,hq]; rfl,bq]
        rw[show aR (St (c :: t1)) (some (N .i64 1)) (some (N .i64 ((n + 1:Nat) : Int)))=some (St (t1.take n)) from by
         have:=tX (s:=c :: t1) (l:=1) (h:=n + 1) (by omega) (by simp; omega) .i64 .i64
         simpa using this]
        rw[bK,bE,eO (show n + 1<9223372036854775807 by omega)]
        refine hJ _ _ ⟨rfl,n + 1 + 1,t1.take n,rfl,by simp; omega, ?_⟩
        rw[hhd,hq,if_pos rfl,← h3,← h2]
        simp
    by_cases hlt:n<t1.length
    ·have e1:decide (((n + 1:Nat) : Int)<((c :: t1).length:Int))=true:=by simp; omega
     rw[e1,bV,gM (s:=c :: t1) (i:=n + 1) (by simp; omega) .i64,di]
     dsimp only
     rw[dh,show(c :: t1)[n + 1]'(by simp; omega)=t1[n] from rfl,show((t1[n].toNat:Int) != 34)=(t1[n] != 34) from uG (b:=34)]
     have hg:t1[n]?=some t1[n]:=List.getElem?_eq_getElem hlt
     have htk:=List.take_succ_eq_append_getElem hlt
     cases hq:t1[n] != 34 with
     | false =>
       rw[dF]
       dsimp only
       rw[dJ,bq]
       exact stop (.inr ⟨_,hg,by simp[nM,hq]⟩)
     | true =>
       rw[bV,gM (s:=c :: t1) (i:=n + 1) (by simp; omega) .i64]
       refine hp ?_
       dsimp only
       rw[dh,show(c :: t1)[n + 1]'(by simp; omega)=t1[n] from rfl]
       cases hpl:gW t1[n] with
       | false =>
         rw[bq]
         exact stop (.inr ⟨_,hg,by simp[nM,hpl]⟩)
       | true =>
         rw[bC,bE,w1]
         exact gm _ _ _ (by omega) ⟨rfl,n + 1,rfl,rfl,by omega,by rw[htk,List.all_append,ha]; simp[nM,hq,hpl]⟩
    ·have e1:decide (((n + 1:Nat) : Int)<((c :: t1).length:Int))=false:=by simp; omega
     rw[e1,dF]
     dsimp only
     rw[dJ,dF]
     dsimp only
     rw[dJ,bq]
     exact stop (.inl (by omega))
  | false =>
    simp only[h34,Bool.false_eq_true,if_false] at hJ hrv
    rw[bq]
    refine aI (fun m ys M4=>M4=M3∧∃ n:Nat,m=t.length - n∧ys=[N .i64 (n:Int)]∧n≤t.length∧(t.take n).all oN=true) _ ⟨rfl,0,rfl,rfl,Nat.zero_le _,rfl⟩ ?_
    rintro pJ m ys M4 gm ⟨rfl,n,rfl,rfl,hn,ha⟩
    dsimp only[ae]
    rw[bi,dO]
    have w1:=eO (show n<9223372036854775807 by omega)
    have stop:(n=t.length∨∃ c,t[n]?=some c∧oN c=false)→bP (aR (St t) none (some (N .i64 (n:Int)))) fun t87=>J [N .i64 (n:Int),t87] M4:=fun h=>by
     have h1:=nL hn ha h
     have h2:=lL oN t
     rw[h1] at h2
     rw[fO hn,bK]
     exact hJ _ _ ⟨rfl,n,t.take n,rfl,hn,by rw[h2.1,h2.2]⟩
    by_cases hlt:n<t.length
    ·have e1:decide ((n:Int)<(t.length:Int))=true:=by simpa using hlt
     have hg:t[n]?=some t[n]:=List.getElem?_eq_getElem hlt
     have htk:=List.take_succ_eq_append_getElem hlt
     have idx:∀ K:AV→Prop,bA (St t) (N .i64 (n:Int)) K=K (By t[n]):=fun K=>gM hlt .i64 K
     generalize t[n]=c at *
     rw[e1,bV,idx]
     refine hp ?_
     dsimp only
     rw[dh]
     cases hpl:gW c with
     | false =>
       simp only[gP,bV,bU,dF,cz,dh,dJ,bC,bq]
       exact stop (.inr ⟨_,hg,by simp[oN,hpl]⟩)
     | true =>
       rw[bV,idx,di,show((c.toNat:Int) != 34)=(c != 34) from uG (b:=34)]
       dsimp only
       rw[dh]
       cases h1:c != 34 with
       | false =>
         simp only[gP,bV,bU,dF,cz,dh,dJ,bC,bq]
         exact stop (.inr ⟨_,hg,by simp[oN,h1]⟩)
       | true =>
         rw[bV,idx,di,show((c.toNat:Int) != 44)=(c != 44) from uG (b:=44)]
         dsimp only
         rw[dh]
         cases h2:c != 44 with
         | false =>
           simp only[gP,bV,bU,dF,cz,dh,dJ,bC,bq]
           exact stop (.inr ⟨_,hg,by simp[oN,h2]⟩)
         | true =>
           rw[bV,idx,di,show((c.toNat:Int) != 59)=(c != 59) from uG (b:=59)]
           dsimp only
           rw[dh]
           cases h3:c != 59 with
           | false =>
             simp only[gP,bV,bU,dF,cz,dh,dJ,bC,bq]
             exact stop (.inr ⟨_,hg,by simp[oN,h3]⟩)
           | true =>
             rw[bV,idx,di,show((c.toNat:Int) != 58)=(c != 58) from uG (b:=58)]
             dsimp only
             rw[dh]
             cases h4:c != 58 with
             | false =>
               rw[bq]
               exact stop (.inr ⟨_,hg,by simp[oN,h4]⟩)
             | true =>
               rw[bC,bE,w1]
               exact gm _ _ _ (by omega) ⟨rfl,n + 1,rfl,rfl,by omega,by rw[htk,List.all_append,ha]; simp[oN,hpl,h1,h2,h3,h4]⟩
    ·have e1:decide ((n:Int)<(t.length:Int))=false:=by simp; omega
     rw[e1]
     simp only[gP,bV,bU,dF,cz,dh,dJ,bC,bq]
     exact stop (.inl (by omega))
def bad (n:Nat) : Bool:=decide (n<1) || decide (20<n)
def fZ (n:Nat) (s:List UInt8) : List UInt8:=(s.take n).map dz
def Oc (s:List UInt8) : Option (List UInt8 × List UInt8) :=
 if bn 46 (s.drop (wn s)) then(if bad (wn s) then none else some (fZ (wn s) s,s.drop (wn s + 1))) else some ([],s)
def nG:Nat→List UInt8→List jh→Option (List jh × List UInt8)
 | 0,_,_=>none
 | k + 1,s,acc=>if bn 59 s then
     (if bad (wn (s.drop 1)) then none else if bn 61 ((s.drop 1).drop (wn (s.drop 1))) then
      match PX ((s.drop 1).drop (wn (s.drop 1) + 1)) with
      | some (vs,r)=>nG k r (acc++[(fZ (wn (s.drop 1)) (s.drop 1),vs)])
      | none=>none
     else none)
   else some (acc,s)
def Ob (g s:List UInt8) : Option Ln :=
 if bad (wn s) then none else match nG ((s.drop (wn s)).length + 1) (s.drop (wn s)) [] with
  | none=>none
  | some (ps,r)=>if bn 58 r && (r.drop 1).all gW then some ⟨g,fZ (wn s) s,ps,r.drop 1⟩ else none
def SS (s:List UInt8) : Option Ln :=
 if iL s then(match Oc s with
  | none=>none
  | some (g,r)=>Ob g r)
 else none
theorem vT:∀ (n:Nat) (s:List UInt8) (acc:List jh) (k:Nat),s.length≤n→s.length + 1≤k→nG k s acc=nG (s.length + 1) s acc
 | n,s,acc,k,h1,h3=>by
   obtain⟨i,rfl⟩ : ∃ i,k=i + 1:=⟨k - 1,by omega⟩
   rw[nG,nG]
   split
   ·rename_i h59
    have hpos:=bu h59
    split
    ·rfl
    ·split
     ·rename_i h61
      have hp2:=bu h61
      cases hv:PX ((s.drop 1).drop (wn (s.drop 1) + 1)) with
      | none=>rfl
      | some p =>
        obtain⟨vs,r⟩:=p
        have:=ET _ _ _ _ _ hv
        have hv0:1≤vs.length:=by
         unfold PX at hv
         exact Ep _ _ _ _ _ hv
        simp at this hp2
        simp only
        cases n with
        | zero=>omega
        | succ n=>rw[vT n r _ i (by omega) (by omega),vT n r _ s.length (by omega) (by omega)]
     ·rfl
   ·rfl where
 Ep:∀ (k:Nat) (s:List UInt8) (acc vs:List (List UInt8)) (r:List UInt8),lY k s acc=some (vs,r)→1≤vs.length
 | 0,_,_,_,_,h=>by cases h
 | k + 1,s,acc,vs,r,h=>by
   rw[lY] at h
   cases hv:qA s with
   | none=>rw[hv] at h; cases h
   | some p =>
     obtain⟨v,t⟩:=p
     rw[hv] at h
     simp only at h
     split at h
     ·exact Ep k _ _ _ _ h
     ·cases h; simp
theorem atW {x:UInt8} {n:Int} (hn:(x.toNat:Int)=n) {t:List UInt8} {k:Nat} {M:RM} {K:AV→RM→Prop} :
  (aa (Bo (decide ((k:Int)<(t.length:Int)))) true (fun k'=>bA (St t) (N .i64 (k:Int)) fun a=>af .eql a (N .u8 n) fun b=>k' b M) (fun k=>k .undef M) fun b M1=>aD (Bo (decide ((k:Int)<(t.length:Int)))) b (Bo false) fun d=>K d M1)=K (Bo (bn x (t.drop k))) M:=by
 subst hn
 by_cases h:k<t.length
 ·rw[decide_eq_true (by omega:(k:Int)<(t.length:Int)),bV,gM h,bH,WB]
  dsimp only
  rw[dh,List.drop_eq_getElem_cons h]; rfl
 ·rw[decide_eq_false (by omega:¬ (k:Int)<(t.length:Int)),dF]
  dsimp only
  rw[dJ,List.drop_of_length_le (by omega)]; rfl
theorem ZL {n:Nat} {M:RM} {K:AV→RM→Prop} :
  (aa (Bo (decide ((n:Int)<1))) false (fun k'=>af .gtr (N .i64 (n:Int)) (N .i64 20) fun b=>k' b M) (fun k=>k .undef M) fun b M1=>aD (Bo (decide ((n:Int)<1))) (Bo true) b fun d=>K d M1)=K (Bo (bad n)) M:=by
 by_cases h:n<1
 ·rw[decide_eq_true (by omega:(n:Int)<1),bU]
  dsimp only
  rw[dh]; simp[bad,h]
 ·rw[decide_eq_false (by omega:¬ (n:Int)<1),cz,gV]
  dsimp only
  rw[dJ,show decide ((n:Int) > 20)=bad n by simp[bad,h]; omega]
def ZF (c:au) : Prop:=∀ {M:RM} {s:List UInt8} {Q:ak},s.length≤1000000000 →
 (∀ cs M',ag [] M M'→SS s=none→cs.length=5→cs.all oneCell=true→Q (.tup [.agg cs,Bo false]) M') →
 (∀ cs M' L,ag [] M M'→SS s=some L→gq.rel M' cs (L,0) (fun b=>M.next≤b)→Q (.tup [.agg cs,Bo true]) M')→c [St s] M Q
theorem yP {M:RM} {b b' T:Nat} {l l' : List AV} {Q:ak} {r:Bool} (h:M.heap b=some (.row l false T 0)) (hl:l.length=5) (h' : M.heap b'=some (.row l' false T 0)) (hl' : l'.length=5) (h1:l'.all oneCell=true)
  (hQ:Q (.tup [.agg l',Bo r]) (M.put b (.row l' false T 0))) :
  aL M (.ptr b' 0) 5 fun t=>aC M (.ptr b 0) t 5 fun M1=>aL M1 (.ptr b 0) 5 fun res=>Q (.tup [res,Bo r]) M1:=by
 rw[aP (n:=5) h' hl',bY (n:=5) (x:=.agg l') h hl' hl h1,show(AV.agg l').cells=l' from rfl,aP (n:=5) (aB _) hl']
 exact hQ
theorem TR {TL TP TS:Nat} {cf cw cl cv cp:au} (hf:KV cf) (hw:QZ cw) (hlo:xN cl) (hv:Iy TS cv) (hp:xI cp) :
  ZF fun args M Q=>∃ a0,args=[a0]∧vF TL cf cw cl TP cv cp a0 M Q:=by
 intro M s Q hl hN hS
 refine⟨_,rfl, ?_⟩
 unfold vF
 simp only[dN,bL]
 rw[aG,gN]
 refine⟨lz,rfl, ?_⟩
 rw[aG]
 have h2:((M.push (.row lz false TL 0)).push (.row lz false TL 0)).heap M.next=some (.row lz false TL 0):=kT (RM.aV _) (by simp[RM.push])
 have h4:((M.push (.row lz false TL 0)).push (.row lz false TL 0)).heap (M.next + 1)=some (.row lz false TL 0):=RM.aV _
 have kk:ag [] M ((M.push (.row lz false TL 0)).push (.row lz false TL 0)):=((ag.refl _ _).push _).push _
 have nn:((M.push (.row lz false TL 0)).push (.row lz false TL 0)).next=M.next + 2:=rfl
 rw[bZ]
 generalize (M.push (.row lz false TL 0)).push (.row lz false TL 0)=M1 at *
 rw[bY (n:=5) (x:=.agg lz) h4 rfl rfl rfl]
 have h2:=bJ (z:=.row lz false TL 0) h2 (show M.next≠M.next + 1 by omega)
 have h4:(M1.put (M.next + 1) (.row lz false TL 0)).heap (M.next + 1)=some (.row lz false TL 0):=aB _
 have kk:ag [] M (M1.put (M.next + 1) (.row lz false TL 0)):=kk.new _ (by omega)
 have nn:(M1.put (M.next + 1) (.row lz false TL 0)).next=M.next + 2:=nn
 change cf _ (M1.put (M.next + 1) (.row lz false TL 0)) _
 generalize M1.put (M.next + 1) (.row lz false TL 0)=M2 at *
 refine hf (by omega) ?_
 rw[bX]
 unfold SS at hN hS
 cases hfm:iL s with
 | false =>
   rw[Bool.not_false,bC]
   exact yP h2 rfl h4 rfl rfl (hN _ _ (kk.new _ (Nat.le_refl _)) (by rw[hfm]; rfl) rfl rfl)
 | true =>
 simp only[hfm,if_true] at hN hS
 rw[Bool.not_true,bq]
 refine hw (by omega) ?_
 have hwl:=Ox s
 refine aW (fun xs M'=>∃ g r,xs=[St r,N .i64 ((wn r:Nat) : Int)]∧Oc s=some (g,r)∧r.length≤s.length∧ag [] M M'∧M.next + 2≤M'.next∧M'.heap M.next=some (.row lz false TL 0) ∧
   M'.heap (M.next + 1)=some (.row [St g,St [],aJ,St [],N .i64 0] false TL 0)) ?_ ?_
 ·rintro _ M5 ⟨g,r,rfl,hhd,hrl,k5,n5,h2,h4⟩
  rw[hhd] at hN hS
  simp only at hN hS
  unfold Ob at hN hS
  dsimp only[ae]
  have hrw:=Ox r
  rw[dO,ZL]
  cases hb:bad (wn r) with
  | true =>
    rw[bC]
    exact yP h2 rfl h4 rfl rfl (hN _ _ (k5.new _ (Nat.le_refl _)) (by rw[hb]; rfl) rfl rfl)
  | false =>
  simp only[hb,Bool.false_eq_true,if_false] at hN hS
  rw[bq,fO hrw,bK]
  refine hlo (by simp; omega) fun M6 k6=>?_
  have h2:=k6.ay h2 (by omega) (by simp)
  have h4:=k6.ay h4 (by omega) (by simp)
  have n6:=k6.next
  rw[aT,bQ [St g,St (fZ (wn r) r),aJ,St [],N .i64 0] h4 (by simp) rfl rfl rfl,bB hrw,bK]
  have k7:ag [] M (M6.put (M.next + 1) (.row [St g,St (fZ (wn r) r),aJ,St [],N .i64 0] false TL 0)):=(k5.trans k6).new _ (by omega)
  have h2:=bJ (z:=.row [St g,St (fZ (wn r) r),aJ,St [],N .i64 0] false TL 0) h2 (show M.next≠M.next + 1 by omega)
  have h4:(M6.put (M.next + 1) (.row [St g,St (fZ (wn r) r),aJ,St [],N .i64 0] false TL 0)).heap (M.next + 1)=_:=aB _
  have n7:M.next + 2≤(M6.put (M.next + 1) (.row [St g,St (fZ (wn r) r),aJ,St [],N .i64 0] false TL 0)).next:=by rw[iq]; omega
  generalize M6.put (M.next + 1) (.row [St g,St (fZ (wn r) r),aJ,St [],N .i64 0] false TL 0)=M7 at *
  generalize hnm:fZ (wn r) r=nm at *
  have hdl:(r.drop (wn r)).length≤s.length:=by simp; omega
  generalize r.drop (wn r)=q at *
  refine aI (fun m ys M8=>∃ (t:List UInt8) (v:AV) (acc:List jh),m=t.length∧ys=[St t]∧acc.length + t.length≤s.length∧ag [] M M8∧M.next + 2≤M8.next∧M8.heap M.next=some (.row lz false TL 0) ∧
    M8.heap (M.next + 1)=some (.row [St g,St nm,v,St [],N .i64 0] false TL 0)∧eX iI M8 (M.next + 2) TP v acc (fun b=>M.next + 2≤b∧b<M8.next∧b ∉ aH v)∧nG (t.length + 1) t acc=nG (q.length + 1) q []) _
   ⟨q,aJ,[],rfl,rfl,by simpa using hdl,k7,n7,h2,h4,.nil,rfl⟩ ?_
  rintro next m ys M8 hnext ⟨t,v,acc,rfl,rfl,htl,k8,n8,h2,h4,ho,hpr⟩
  dsimp only[ae]
  rw[bi,gV,headW (x:=59) (n:=59) rfl]
  rw[nG] at hpr
  have hone:([St g,St nm,v,St [],N .i64 0] : List AV).all oneCell=true:=by simp[eu,ho.one]
  cases h59:bn 59 t with
  | false =>
    simp only[h59,Bool.false_eq_true,if_false] at hpr
    rw[← hpr] at hN hS
    simp only at hN hS
    rw[bq,bi,bH,WN (x:=58) (n:=58) rfl]
    cases h58:bn 58 t with
    | false =>
      rw[Bool.not_false,bC]
      exact yP h2 rfl h4 rfl hone (hN _ _ (k8.new _ (Nat.le_refl _)) (by simp[h58]) rfl hone)
    | true =>
    have ht1:=bu h58
    simp only[h58,Bool.true_and] at hN hS
    have ho1:=ho.one
    rw[Bool.not_true,bq,show aR (St t) (some (N .i64 1)) none=some (St (t.drop 1)) from bB (l:=1) ht1 .i64,bK,aT,bQ [St g,St nm,v,St (t.drop 1),N .i64 0] h4 (by simp) rfl rfl rfl]
    have hone' : ([St g,St nm,v,St (t.drop 1),N .i64 0] : List AV).all oneCell=true:=by simp[eu,ho.one]
    have hvl:=ho.blk
    have k9:ag [] M (M8.put (M.next + 1) (.row [St g,St nm,v,St (t.drop 1),N .i64 0] false TL 0)):=k8.new _ (by omega)
    have h2:=bJ (z:=.row [St g,St nm,v,St (t.drop 1),N .i64 0] false TL 0) h2 (show M.next≠M.next + 1 by omega)
    have h4:(M8.put (M.next + 1) (.row [St g,St nm,v,St (t.drop 1),N .i64 0] false TL 0)).heap (M.next + 1)=_:=aB _
    have ho:=ho.keep (bs:=[M.next + 1]) ((ag.refl _ M8).put (b:=M.next + 1) (.row [St g,St nm,v,St (t.drop 1),N .i64 0] false TL 0) (.inr (by simp))) (fun b hb h=>by simp at hb; omega) (fun b hb h=>by have:=hvl b hb; simp at h; omega)
    generalize M8.put (M.next + 1) (.row [St g,St nm,v,St (t.drop 1),N .i64 0] false TL 0)=M9 at *
    have ac4:(t.drop 1).length≤s.length:=by simp; omega
    generalize hu:t.drop 1=u at *
    refine aI (fun m ys M10=>M10=M9∧∃ i:Nat,m=u.length - i∧ys=[N .i64 (i:Int)]∧i≤u.length∧(u.take i).all gW=true) _ ⟨rfl,0,rfl,rfl,Nat.zero_le _,rfl⟩ ?_
    rintro pJ m ys M10 gm ⟨rfl,i,rfl,rfl,hi,ha⟩
    dsimp only[ae]
    rw[aT,aA h4 rfl,bi,dO]
    refine aN (fun hlt=>?_) (fun hge=>?_)
    ·have hlt:i<u.length:=by simpa using hlt
     rw[aT,aA h4 rfl,gM hlt]
     refine hp ?_
     rw[bX]
     cases hpl:gW u[i] with
     | false =>
       rw[Bool.not_false,bC]
       refine yP h2 rfl h4 rfl hone' (hN _ _ (k9.new _ (Nat.le_refl _)) ?_ rfl hone')
       have:u.all gW=false:=by rw[List.all_eq_false]; exact⟨u[i],List.getElem_mem hlt,by simp[hpl]⟩
       rw[this]; rfl
     | true =>
       rw[Bool.not_true,bq,bE,eO (by omega)]
       exact gm _ _ _ (by omega) ⟨rfl,i + 1,rfl,rfl,by omega,by rw[List.take_succ_eq_append_getElem hlt,List.all_append,ha]; simp[hpl]⟩
    ·have hge:i=u.length:=by simp at hge; omega
     subst hge
     rw[List.take_length] at ha
     refine yP h2 rfl h4 rfl hone' (hS _ _ ⟨g,nm,acc,u⟩ (k9.new _ (Nat.le_refl _)) (by rw[ha]; rfl) ⟨v,rfl, ?_⟩)
     have ho:=ho.keep (bs:=[M.next]) ((ag.refl _ M10).put (b:=M.next) (.row [St g,St nm,v,St u,N .i64 0] false TL 0) (.inr (by simp))) (fun b hb h=>by simp at hb; omega) (fun b hb h=>by have:=hvl b hb; simp at h; omega)
     exact(ho.mono (S':=fun b=>M.next≤b) fun b h=>by omega).zL fun b h1 _=>by omega
  | true =>
    simp only[h59,if_true] at hpr
    have ht1:=bu h59
    rw[bC,show aR (St t) (some (N .i64 1)) none=some (St (t.drop 1)) from bB (l:=1) ht1 .i64,bK]
    have ac4:(t.drop 1).length + 1≤t.length:=by simp; omega
    generalize t.drop 1=u at *
    refine hw (by omega) ?_
    have huw:=Ox u
    generalize wn u=k at *
    have fail:nG (q.length + 1) q []=none→∀ M' w,ag [] M8 M'→M'.heap M.next=some (.row lz false TL 0)→M'.heap (M.next + 1)=some (.row [St g,St nm,w,St [],N .i64 0] false TL 0)→oneCell w=true →
      aL M' (.ptr (M.next + 1) 0) 5 fun t=>aC M' (.ptr M.next 0) t 5 fun M1=>aL M1 (.ptr M.next 0) 5 fun res=>Q (.tup [res,Bo false]) M1:=fun h M' w k' g2 g4 hw1=>by
     have hone:([St g,St nm,w,St [],N .i64 0] : List AV).all oneCell=true:=by simp[eu,hw1]
     exact yP g2 rfl g4 rfl hone (hN _ _ ((k8.trans k').new _ (Nat.le_refl _)) (by rw[h]) rfl hone)
    rw[dO,ZL]
    cases hb:bad k with
    | true =>
      simp only[hb,if_true] at hpr
      rw[bU]
      dsimp only
      rw[dh,bU]
      dsimp only
      rw[dh,bC]
      exact fail hpr.symm _ _ (ag.refl _ _) h2 h4 ho.one
    | false =>
    simp only[hb,Bool.false_eq_true,if_false] at hpr
    rw[cz,bi,bH]
    dsimp only
    rw[dJ]
    by_cases hkl:k=u.length
    ·rw[show((k:Int) == (u.length:Int))=true by simp[hkl],bU]
     dsimp only
     rw[dh,bC]
     rw[hkl,List.drop_length] at hpr
     exact fail hpr.symm _ _ (ag.refl _ _) h2 h4 ho.one
    rw[show((k:Int) == (u.length:Int))=false by simp; omega,cz,gM (show k<u.length by omega),di]
    dsimp only
    rw[dJ,show((u[k].toNat:Int) != 61)=(u[k] != 61) from uG (b:=61)]
    have hhd:bn 61 (u.drop k)=(u[k] == 61):=by rw[List.drop_eq_getElem_cons (show k<u.length by omega)]; rfl
    cases h61:u[k] == 61 with
    | false =>
      rw[show(u[k] != 61)=true by rw[bne,h61]; rfl,bC]
      rw[hhd,h61] at hpr
      exact fail (by simpa using hpr.symm) _ _ (ag.refl _ _) h2 h4 ho.one
    | true =>
    rw[show(u[k] != 61)=false by rw[bne,h61]; rfl,bq,fO huw,bK]
    rw[hhd,h61,if_pos rfl] at hpr
    refine hlo (by simp; omega) fun M9 k9=>?_
    have h2:=k9.ay h2 (by omega) (by simp)
    have h4:=k9.ay h4 (by omega) (by simp)
    have n9:=k9.next
    rw[gN]
    refine⟨[St (fZ k u),aJ],rfl, ?_⟩
    rw[aG,bY (n:=2) (x:=.agg [St (fZ k u),aJ]) (l:=[St [],aJ]) (RM.aV _) rfl rfl rfl]
    have k10:ag [] M9 ((M9.push (.row [St [],aJ] false TP 0)).put M9.next (.row [St (fZ k u),aJ] false TP 0)):=((ag.refl _ _).push _).new _ (Nat.le_refl _)
    have h6:((M9.push (.row [St [],aJ] false TP 0)).put M9.next (.row [St (fZ k u),aJ] false TP 0)).heap M9.next=some (.row [St (fZ k u),aJ] false TP 0):=aB _
    have n10:((M9.push (.row [St [],aJ] false TP 0)).put M9.next (.row [St (fZ k u),aJ] false TP 0)).next=M9.next + 1:=rfl
    rw[bE,eO (show k<9223372036854775807 by omega),bB (show k + 1≤u.length by omega),bK]
    change cv _ ((M9.push (.row [St [],aJ] false TP 0)).put M9.next (.row [St (fZ k u),aJ] false TP 0)) _
    generalize (M9.push (.row [St [],aJ] false TP 0)).put M9.next (.row [St (fZ k u),aJ] false TP 0)=M10 at *
    have h2:=k10.ay h2 (by omega) (by simp)
    have h4:=k10.ay h4 (by omega) (by simp)
    have hvl:=ho.blk
    refine hv (by simp; omega) ?_ ?_
    ·intro M11 k11 hnone
     have h2:=k11.ay h2 (by omega) (by simp)
     have h4:=k11.ay h4 (by omega) (by simp)
     have h6:=k11.ay h6 (by omega) (by simp)
     rw[cO,df,iO,aT,bQ [St (fZ k u),aJ] h6 (by simp) rfl rfl rfl,bX,Bool.not_false,bC]
     rw[hnone] at hpr
     exact fail hpr.symm _ _ (((k9.trans k10).trans k11).new _ (by omega)) (bJ h2 (by omega)) (bJ h4 (by omega)) ho.one
    ·intro w M11 vs x k11 hsome how
     have h2:=k11.ay h2 (by omega) (by simp)
     have h4:=k11.ay h4 (by omega) (by simp)
     have h6:=k11.ay h6 (by omega) (by simp)
     have n11:=k11.next
     have hwb:=how.blk
     rw[hsome] at hpr
     simp only at hpr
     have hlen:=ET _ _ _ _ _ hsome
     have hpos:=vT.Ep _ _ _ _ _ hsome
     simp at hlen
     rw[cO,df,iO,aT,bQ [St (fZ k u),w] h6 (by simp) how.cells how.one rfl,bX,Bool.not_true,bq]
     have k12:ag [] M8 (M11.put M9.next (.row [St (fZ k u),w] false TP 0)):=((k9.trans k10).trans k11).new _ (by omega)
     have h2:=bJ (z:=.row [St (fZ k u),w] false TP 0) h2 (show M.next≠M9.next by omega)
     have h4:=bJ (z:=.row [St (fZ k u),w] false TP 0) h4 (show M.next + 1≠M9.next by omega)
     have h6:(M11.put M9.next (.row [St (fZ k u),w] false TP 0)).heap M9.next=_:=aB _
     have how:Ow gH (M11.put M9.next (.row [St (fZ k u),w] false TP 0)) M10.next TS w vs:=Own.keep (bs:=[M9.next]) how ((ag.refl _ M11).put (b:=M9.next) _ (.inr (by simp))) (fun b hb h=>by have:=hwb b hb; simp at h; omega)
     have n12:(M11.put M9.next (.row [St (fZ k u),w] false TP 0)).next=M11.next:=rfl
     generalize M11.put M9.next (.row [St (fZ k u),w] false TP 0)=M12 at *
     have adO:([St (fZ k u),w] : List AV).all oneCell=true:=by simp[eu,how.one]
     rw[aT,aA h4 rfl,aP (n:=2) h6 rfl,gD (x:=.agg [St (fZ k u),w]) (size:=2) rfl adO rfl,aG]
     let S' : Nat→Prop:=fun b=>M.next + 2≤b∧b<M12.next∧b ∉ aH v
     have afA:eX iI M12 (M.next + 2) TP v acc S':=(ho.keep k12 (by simp) (by simp)).mono fun b h=>⟨h.1,by omega,h.2.2⟩
     have afZ:cB gH.kG M12 w vs S':=cB.TH how.jX fun b hb=>⟨by have:=(how.blk b hb).1; omega,(how.blk b hb).2,fun hb2=>by have:=(how.blk b hb).1; have:=(hvl b hb2).2; omega⟩
     refine eX.app (R:=iI) (a:=(fZ k u,vs)) afA (Dc afZ) (by omega) (by decide) (fun b hb h=>h.2.2 hb) (fun b h=>h.2.1) (by omega) (by omega) ?_
     intro v' M13 o13 k13 n13 _ afq
     have h2:=k13.ay h2 (by omega) (fun h=>by have:=hvl _ h; omega)
     have h4:=k13.ay h4 (by omega) (fun h=>by have:=hvl _ h; omega)
     rw[aT,bQ [St g,St nm,v',St [],N .i64 0] h4 (by simp) o13.cells o13.one rfl]
     have aeN:=o13.blk
     refine hnext _ _ _ (by omega) ⟨x,v',acc++[(fZ k u,vs)],rfl,rfl,by simp; omega, ?_,by rw[iq]; omega,bJ h2 (by omega),aB _, ?_, ?_⟩
     ·exact((k8.trans k12).dH k13 fun c hc=>.inl (by have:=hvl c hc; omega)).new _ (by omega)
     ·have o14:=o13.keep (bs:=[M.next + 1]) ((ag.refl _ M13).put (b:=M.next + 1) (.row [St g,St nm,v',St [],N .i64 0] false TL 0) (.inr (by simp))) (fun b hb h=>by simp at hb; have:=h.1; omega) (fun b hb h=>by have:=aeN b hb; simp at h; omega)
      exact o14.mono fun b h=>⟨h.1,by have:=h.2.1; rw[iq]; omega,fun hb=>afq b hb h⟩
     ·rw[← hpr,vT x.length x _ t.length (Nat.le_refl _) (by omega)]
 ·intro J hJ
  rw[bi,dO,atW (x:=46) (n:=46) rfl]
  unfold Oc at hJ hN
  cases h46:bn 46 (s.drop (wn s)) with
  | false =>
    rw[bq]
    simp only[h46,Bool.false_eq_true,if_false] at hJ
    exact hJ _ _ ⟨[],s,rfl,rfl,Nat.le_refl _,kk,by omega,h2,h4⟩
  | true =>
    simp only[h46,if_true] at hJ hN
    have aeG:=bu h46
    simp only[List.length_drop] at aeG
    rw[bC,fO hwl,bK]
    refine hlo (by simp; omega) fun M3 k3=>?_
    have h2:=k3.ay h2 (by omega) (by simp)
    have h4:=k3.ay h4 (by omega) (by simp)
    have n3:=k3.next
    rw[aT,bQ [St (fZ (wn s) s),St [],aJ,St [],N .i64 0] h4 (by simp) rfl rfl rfl,dO,ZL]
    have k4:ag [] M (M3.put (M.next + 1) (.row [St (fZ (wn s) s),St [],aJ,St [],N .i64 0] false TL 0)):=(kk.trans k3).new _ (by omega)
    have h2:=bJ (z:=.row [St (fZ (wn s) s),St [],aJ,St [],N .i64 0] false TL 0) h2 (show M.next≠M.next + 1 by omega)
    have h4:(M3.put (M.next + 1) (.row [St (fZ (wn s) s),St [],aJ,St [],N .i64 0] false TL 0)).heap (M.next + 1)=_:=aB _
    have n4:M.next + 2≤(M3.put (M.next + 1) (.row [St (fZ (wn s) s),St [],aJ,St [],N .i64 0] false TL 0)).next:=by rw[iq]; omega
    generalize M3.put (M.next + 1) (.row [St (fZ (wn s) s),St [],aJ,St [],N .i64 0] false TL 0)=M4 at *
    cases hb:bad (wn s) with
    | true =>
      rw[bC]
      exact yP h2 rfl h4 rfl rfl (hN _ _ (k4.new _ (Nat.le_refl _)) (by simp[hb]) rfl rfl)
    | false =>
      simp only[hb,Bool.false_eq_true,if_false] at hJ
      rw[bq,bE,eO (show wn s<9223372036854775807 by omega),bB (show wn s + 1≤s.length by omega),bK]
      refine hw (by simp; omega) ?_
      exact hJ _ _ ⟨fZ (wn s) s,s.drop (wn s + 1),rfl,rfl,by simp,k4,n4,h2,h4⟩
theorem QP (f:List UInt8→List UInt8) (N:Nat) : ∀ (k:Nat) (s:List UInt8) (acc ps:List jh) (r:List UInt8),s.length≤N→(∀ p∈acc,p.2.length≤N)→nD f k s acc=some (ps,r)→ps.length + r.length≤acc.length + s.length∧∀ p∈ps,p.2.length≤N
 | 0,s,acc,ps,r,_,_,h=>by cases h
 | k + 1,s,acc,ps,r,hN,ha,h=>by
   rw[nD] at h
   split at h
   ·rename_i h59
    have hpos:=bu h59
    split at h
    ·rename_i hc
     simp only[Bool.and_eq_true] at hc
     have h61:=bu hc.2
     generalize hk:((s.drop 1).drop (wk (s.drop 1))).length=kk at h
     cases hv:iN kk ((s.drop 1).drop (wk (s.drop 1))) [] with
     | none=>rw[hv] at h; cases h
     | some p =>
       obtain⟨vs,s3⟩:=p
       rw[hv] at h
       have h2:=uJ _ _ _ _ _ h61 hv
       simp at h2
       simp only at h
       have:=QP f N k s3 _ ps r (by omega) (fun p hp=>by
        rcases List.mem_append.1 hp with hp | hp
        ·exact ha p hp
        ·simp at hp; subst hp; simp; omega) h
       refine⟨?_,this.2⟩
       have h3:=this.1
       simp at h3
       omega
    ·cases h
   ·cases h
    exact⟨Nat.le_refl _,ha⟩
def Small (N:Nat) (L:Ln) : Prop:=L.ps.length≤N∧∀ p∈L.ps,p.2.length≤N
theorem RA {f:List UInt8→List UInt8} {s:List UInt8} {L:Ln} {N:Nat} (hN:s.length≤N) (h:lN f s=some L) : Small N L:=by
 unfold lN at h
 split at h
 ·cases hh:tZ f s with
  | none=>rw[hh] at h; cases h
  | some x =>
    obtain⟨g,n,r⟩:=x
    rw[hh] at h
    simp only[Dz] at h
    have hr:r.length≤N:=by
     unfold tZ at hh
     split at hh
     ·split at hh
      ·cases hh; simp; omega
      ·cases hh
     ·cases hh; simp; omega
    unfold rf at h
    cases hp:nD f (r.length + 1) r [] with
    | none=>rw[hp] at h; cases h
    | some y =>
      obtain⟨ps,q⟩:=y
      rw[hp] at h
      simp only at h
      split at h
      ·cases h
       have:=QP f N _ r [] ps q hr (by simp) hp
       refine⟨?_,this.2⟩
       have h3:=this.1
       simp at h3 ⊢; omega
      ·cases h
 ·cases h
theorem wW {f:List UInt8→List UInt8} : ∀ (l:List (List UInt8 × Int)) (acc ls:List (Ln × Int)),(∀ x∈acc,Small 912 x.1)→gI f l acc=.ok ls→∀ x∈ls,Small 912 x.1
 | [],acc,ls,ha,h=>by cases h; exact ha
 | (s,k) :: r,acc,ls,ha,h=>by
   rw[gI] at h
   split at h
   ·exact wW r acc ls ha h
   ·split at h
    ·cases h
    ·cases hr:lN f s with
     | none=>rw[hr] at h; cases h
     | some L =>
       rw[hr] at h
       refine wW r _ ls (fun x hx=>?_) h
       rcases List.mem_append.1 hx with hx | hx
       ·exact ha x hx
       ·simp at hx; subst hx
        exact RA (by omega) hr
theorem YF {n b0 b1 b2 b3:Nat} (h0:mM n b0 b1 b2 b3≠0) : (2≤mM n b0 b1 b2 b3→128≤b1)∧(3≤mM n b0 b1 b2 b3→128≤b2)∧(4≤mM n b0 b1 b2 b3→128≤b3):=by
 by_cases r1:b0<128
 ·rw[zJ r1]; omega
 by_cases r2:b0<194∨245≤b0
 ·exact absurd (BP (by omega)) h0
 by_cases r3:b0<224
 ·by_cases g:n<2∨b1<128∨191<b1
  ·exact absurd (Dx (by omega) g) h0
  ·rw[Vk (by omega) (by omega) (by omega)]; omega
 by_cases r4:b0<240
 ·by_cases g:n<3∨b1<128∨191<b1∨b2<128∨191<b2
  ·exact absurd (Cy (by omega) g) h0
  ·rw[UM (by omega) (by omega) (by omega) (by omega) rfl]
   split <;> omega
 ·by_cases g:n<4∨b1<128∨191<b1∨b2<128∨191<b2∨b3<128∨191<b3
  ·exact absurd (BN (by omega) g) h0
  ·omega
theorem aaA {s:List UInt8} (h0:rk s≠0) {i:Nat} (h1:1≤i) (hi:i<rk s) : 128≤bt s i:=by
 have hne:s≠[]:=by intro e; subst e; simp[rk] at h0
 have hk:rk s=mM s.length (bt s 0) (bt s 1) (bt s 2) (bt s 3):=by rw[rk,if_neg hne]
 have hl:=(Ur (s:=s)).2
 have:=YF (hk▸h0)
 rw[← hk] at this
 obtain rfl | rfl | rfl:i=1∨i=2∨i=3:=by omega
 ·exact this.1 (by omega)
 ·exact this.2.1 (by omega)
 ·exact this.2.2 (by omega)
theorem Qi {c:UInt8} {s:List UInt8} (h:c.toNat<128) : rk (c :: s)=1:=by
 rw[rk,if_neg (by simp)]
 exact zJ (by simpa [bt] using h)
theorem zU {c:UInt8} {s:List UInt8} (h:c.toNat<128) : iL (c :: s)=iL s:=by
 rw[yG (by rw[Qi h]; omega),Qi h]; rfl
theorem FW {c:UInt8} (hc:c.toNat<128) : ∀ (n:Nat) (a b:List UInt8),a.length≤n→iL (a++c :: b)=true→iL a=true∧iL b=true
 | n,[],b,_,h=>⟨Le,by rwa [List.nil_append,zU hc] at h⟩
 | 0,x :: a,b,hl,h=>by simp at hl
 | n + 1,x :: a,b,hl,h=>by
   have hne:(x :: a)++c :: b≠[]:=by simp
   have h0:=ady hne h
   have hle:rk ((x :: a)++c :: b)≤(x :: a).length:=by
    rcases Nat.lt_or_ge (x :: a).length (rk ((x :: a)++c :: b)) with hlt | hge
    ·have:=aaA h0 (i:=(x :: a).length) (by simp) hlt
     have hb:bt ((x :: a)++c :: b) (x :: a).length=c.toNat:=by simp[bt,List.getD_eq_getElem?_getD]
     omega
    ·exact hge
   have hr:=ac3 (s:=(x :: a)++c :: b) (t:=(x :: a).drop (rk ((x :: a)++c :: b))) h0
   rw[List.take_append_of_le_length hle,List.take_append_drop] at hr
   have hpos:1≤rk ((x :: a)++c :: b):=by omega
   rw[yG h0,List.drop_append_of_le_length hle] at h
   have:=FW hc n ((x :: a).drop (rk ((x :: a)++c :: b))) b (by rw[List.length_drop]; simp only[List.length_cons] at hl ⊢; omega) h
   refine⟨?_,this.2⟩
   rw[yG (s:=x :: a) (by rw[hr]; exact h0),hr]
   exact this.1
theorem Bz:∀ (a b:List UInt8),(∀ c∈a,c.toNat<128)→iL (a++b)=iL b
 | [],b,_=>rfl
 | c :: a,b,h=>by rw[List.cons_append,zU (h c (by simp)),Bz a b (fun d hd=>h d (by simp[hd]))]
theorem Qr (c:UInt8) : fD.contains (dz c)=qb c:=by
 have key:∀ n:Fin 256,fD.contains (dz (UInt8.ofNat n.val))=qb (UInt8.ofNat n.val):=by decide +kernel
 have:=key ⟨c.toNat,c.toNat_lt⟩
 simpa using this
theorem vI:∀ s:List UInt8,((s.map dz).dropWhile (fD.contains ·)).length + wn s=s.length
 | []=>rfl
 | c :: s=>by
   have ih:=vI s
   unfold wn at *
   rw[List.map_cons,List.dropWhile_cons,List.takeWhile_cons,Qr c]
   cases qb c with
   | true=>simp only[if_true,List.length_cons]; omega
   | false=>simp only[Bool.false_eq_true,if_false,List.length_cons,List.length_map,List.length_nil]
theorem CY (s:List UInt8) : wk s=wn s:=by
 have:=vI s
 unfold wk; omega
theorem Tk (s:List UInt8) : s.take (wn s)=s.takeWhile qb:=(lL qb s).2
theorem all_takeWhile {α:Type} (p:α→Bool) : ∀ s:List α,∀ x∈s.takeWhile p,p x=true
 | [],x,hx=>by cases hx
 | c :: s,x,hx=>by
   rw[List.takeWhile_cons] at hx
   split at hx
   ·rcases List.mem_cons.1 hx with rfl | hx
    ·assumption
    ·exact all_takeWhile p s x hx
   ·cases hx
theorem WZ {c:UInt8} (h:qb c=true) : c.toNat<128:=by
 simp[qb] at h; omega
theorem Bt {α:Type} {p:α→Bool} : ∀ {s:List α},(∀ x∈s,p x=true)→s.dropWhile p=[]
 | [],_=>rfl
 | c :: s,h=>by rw[List.dropWhile_cons,if_pos (h c (by simp))]; exact Bt fun x hx=>h x (by simp[hx])
theorem Zm (s:List UInt8) : Lib.trimS (eH s) fD=[]:=by
 have h:∀ x∈eH s,fD.contains x=true:=fun x hx=>by
  unfold eH at hx
  rw[CY,Tk] at hx
  obtain⟨y,hy,rfl⟩:=List.mem_map.1 hx
  rw[Qr]; exact all_takeWhile qb s y hy
 unfold Lib.trimS Lib.trimRightS Lib.trimLeftS
 rw[Bt (s:=(eH s).reverse) fun x hx=>h x (by simpa using hx)]
 rfl
abbrev eG:List UInt8→List UInt8:=fun s=>Lib.trimS s fD
theorem IL (s:List UInt8) : iP eG (eH s)=!bad (wn s):=by
 have hl:(eH s).length=wn s:=by
  unfold eH; rw[CY]; have:=Ox s; simp; omega
 unfold iP bad
 rw[show eG (eH s)=[] from Zm s,hl]
 by_cases h1:1≤wn s <;> by_cases h2:wn s≤20 <;> simp[h1,h2] <;> omega
theorem EA (s:List UInt8) : eH s=fZ (wn s) s:=by unfold eH fZ; rw[CY]
theorem H7 {s:List UInt8} (h:iL s=true) : iL (s.drop (wn s))=true:=by
 have:=Bz (s.take (wn s)) (s.drop (wn s)) (fun c hc=>by rw[Tk] at hc; exact WZ (all_takeWhile qb s c hc))
 rw[List.take_append_drop] at this
 rw[← this]; exact h
theorem HY {x:UInt8} {s:List UInt8} (h:bn x s=true) : s=x :: s.drop 1:=by
 cases s with
 | nil=>cases h
 | cons c s=>simp[bn] at h; subst h; rfl
theorem sJ {x:UInt8} {s:List UInt8} (hx:x.toNat<128) (h:bn x s=true) (hf:iL s=true) : iL (s.drop 1)=true:=by
 rw[HY h,zU hx] at hf; exact hf
theorem nK {α:Type} {p:α→Bool} : ∀ {a b:List α},(∀ x∈a,p x=true)→(∀ x,b.head?=some x→p x=false)→(a++b).takeWhile p=a∧(a++b).dropWhile p=b
 | [],[],_,_=>⟨rfl,rfl⟩
 | [],y :: b,_,h=>by
   have:=h y rfl
   simp[List.takeWhile_cons,List.dropWhile_cons,this]
 | x :: a,b,h,hb=>by
   have ih:=nK (a:=a) (b:=b) (fun y hy=>h y (by simp[hy])) hb
   simp[List.takeWhile_cons,List.dropWhile_cons,h x (by simp),ih.1,ih.2]
theorem rM {α:Type} {p:α→Bool} : ∀ {s:List α},(∃ x∈s,p x=false)→∃ a y b,s=a++y :: b∧(∀ x∈a,p x=true)∧p y=false
 | [],⟨x,hx,_⟩=>by cases hx
 | c :: s,⟨x,hx,hp⟩=>by
   cases hc:p c with
   | false=>exact⟨[],c,s,rfl,by simp,hc⟩
   | true =>
     rcases List.mem_cons.1 hx with rfl | hx
     ·rw[hp] at hc; cases hc
     ·obtain⟨a,y,b,rfl,h1,h2⟩:=rM ⟨x,hx,hp⟩
      exact⟨c :: a,y,b,rfl,fun z hz=>by rcases List.mem_cons.1 hz with rfl | hz; exact hc; exact h1 z hz,h2⟩
theorem BH (c:UInt8) : okB [] c=gW c:=by simp[okB]
def XJ (r:List UInt8) : Prop:=bn 44 r=false∧bn 59 r=false∧bn 58 r=false
theorem Hd {c:UInt8} {r:List UInt8} (h:c≠44∧c≠59∧c≠58) : XJ (c :: r):=by
 refine⟨?_, ?_, ?_⟩ <;> simp[bn,h]
theorem Ql (s:List UInt8) : (Lib.indexAny s mi=-1∧∀ x∈s,x ∉ mi)∨∃ a c b,s=a++c :: b∧Lib.indexAny s mi=(a.length:Int)∧c∈mi∧∀ x∈a,x ∉ mi:=by
 induction s with
 | nil=>exact .inl ⟨rfl,by simp⟩
 | cons d s ih =>
   rw[Lib.indexAny]
   by_cases hd:d∈mi
   ·have:mi.contains d=true:=by simpa using hd
    exact .inr ⟨[],d,s,rfl,by rw[if_pos this]; rfl,hd,by simp⟩
   ·have:¬ mi.contains d=true:=by simpa using hd
    rw[if_neg this]
    rcases ih with⟨h1,h2⟩ | ⟨a,c,b,rfl,h1,h2,h3⟩
    ·exact .inl ⟨by rw[h1]; rfl,fun x hx=>by rcases List.mem_cons.1 hx with rfl | hx; exact hd; exact h2 x hx⟩
    ·refine .inr ⟨d :: a,c,b,rfl, ?_,h2,fun x hx=>by rcases List.mem_cons.1 hx with rfl | hx; exact hd; exact h3 x hx⟩
     rw[h1]
     have:((a.length:Int) == -1)=false:=by simp
     rw[this]; simp
theorem Wp {c:UInt8} (h:c∈mi) : c.toNat<128:=by
 simp[mi] at h
 rcases h with rfl | rfl | rfl <;> decide
theorem Vu {c:UInt8} (h:c∈mi) : gW c=true∧c≠34∧oN c=false:=by
 simp[mi] at h
 rcases h with rfl | rfl | rfl <;> decide
theorem YT {t:List UInt8} (hf:iL t=true) :
  ((jl t).2.2=true→qA t=some ((jl t).1,(jl t).2.1)∧iL (jl t).2.1=true) ∧
  ((jl t).2.2=false→qA t=none∨∃ w r,qA t=some (w,r)∧XJ r):=by
 unfold jl qA
 cases h34:bn 34 t with
 | true =>
   have ht:=HY h34
   have hf1:=sJ (x:=34) (by decide) h34 hf
   generalize t.drop 1=t1 at *
   simp only[if_true]
   rcases sW 34 t1 with⟨h1,_,hn⟩ | ⟨a,b,h1,_,h3,hn⟩
   ·rw[h1]
    refine⟨fun h=>(by cases h),fun _=>.inl ?_⟩
    have:bn 34 (t1.dropWhile nM)=false:=by
     cases hd:t1.dropWhile nM with
     | nil=>rfl
     | cons c r =>
       have hm:c∈t1:=(List.dropWhile_suffix nM).subset (by rw[hd]; simp)
       have:c≠34:=fun e=>hn (e▸hm)
       simpa [bn] using this
    rw[this]; rfl
   ·rw[h1]
    simp only
    rw[h3] at hf1
    have hsp:=FW (c:=34) (by decide) a.length a b (Nat.le_refl _) hf1
    by_cases hp:a.all gW=true
    ·have hq:∀ x∈a,nM x=true:=fun x hx=>by
      have h5:=List.all_eq_true.1 hp x hx
      have h6:x≠34:=fun e=>hn (e▸hx)
      simp[nM,h5,h6]
     have:=nK (p:=nM) (a:=a) (b:=34 :: b) hq (fun x hx=>by simp at hx; subst hx; decide)
     rw[h3,this.1,this.2]
     refine⟨fun _=>⟨by simp[bn],hsp.2⟩,fun h=>?_⟩
     have:iE [] a=true:=by
      unfold iE
      rw[hsp.1,Bool.and_true,List.all_eq_true]
      intro x hx
      rw[BH]; exact List.all_eq_true.1 hp x hx
     rw[this] at h; cases h
    ·have hp:∃ x∈a,gW x=false:=by simpa using hp
     obtain⟨a1,y,a2,rfl,h5,h6⟩:=rM hp
     have hq:∀ x∈a1,nM x=true:=fun x hx=>by
      have h8:x≠34:=fun e=>hn (by subst e; simp[hx])
      simp[nM,h5 x hx,h8]
     have hy:y≠34:=fun e=>hn (by subst e; simp)
     have:=nK (p:=nM) (a:=a1) (b:=y :: (a2++34 :: b)) hq (fun x hx=>by simp at hx; subst hx; simp[nM,h6])
     have he:t1=a1++y :: (a2++34 :: b):=by rw[h3]; simp
     rw[he,this.1,this.2]
     refine⟨fun h=>?_,fun _=>.inl (by simp[bn,hy])⟩
     have:iE [] (a1++y :: a2)=false:=by
      unfold iE
      have:(a1++y :: a2).all (okB [])=false:=by rw[List.all_eq_false]; exact⟨y,by simp,by rw[BH]; simp[h6]⟩
      rw[this]; rfl
     rw[this] at h; cases h
 | false =>
   simp only[Bool.false_eq_true,if_false]
   rcases Ql t with⟨h1,h2⟩ | ⟨a,c,b,rfl,h1,h2,h3⟩
   ·rw[h1]
    refine⟨fun h=>(by cases h),fun _=>.inr ⟨_,_,rfl, ?_⟩⟩
    cases hd:t.dropWhile oN with
    | nil=>exact⟨rfl,rfl,rfl⟩
    | cons d r =>
      have hm:d∈t:=(List.dropWhile_suffix oN).subset (by rw[hd]; simp)
      have:=h2 d hm
      simp[mi] at this
      exact Hd ⟨this.1,this.2.1,this.2.2⟩
   ·rw[h1,if_neg (by omega),Int.toNat_natCast]
    have ht1:(a++c :: b).take a.length=a:=by simp
    have ht2:(a++c :: b).drop a.length=c :: b:=by simp
    rw[ht1,ht2]
    have hca:=Wp h2
    have hsp:=FW hca a.length a b (Nat.le_refl _) hf
    by_cases hp:a.all (okB [34])=true
    ·have hq:∀ x∈a,oN x=true:=fun x hx=>by
      have h5:=List.all_eq_true.1 hp x hx
      have h6:=h3 x hx
      simp[okB] at h5
      simp[mi] at h6
      simp[oN,h5,h6]
     have:=nK (p:=oN) (a:=a) (b:=c :: b) hq (fun x hx=>by simp at hx; subst hx; exact(Vu h2).2.2)
     refine⟨fun _=>⟨by rw[this.1,this.2],by rw[zU hca]; exact hsp.2⟩,fun h=>?_⟩
     have:iE [34] a=true:=by unfold iE; rw[hsp.1,hp]; rfl
     rw[this] at h; cases h
    ·have hp:∃ x∈a,okB [34] x=false:=by simpa using hp
     obtain⟨a1,y,a2,rfl,h5,h6⟩:=rM hp
     have hyn:=h3 y (by simp)
     have hbad:oN y=false:=by
      simp[okB] at h6
      by_cases hpl:gW y=true
      ·have:=h6 hpl
       subst this; decide
      ·simp[oN,hpl]
     have hq:∀ x∈a1,oN x=true:=fun x hx=>by
      have h7:=h5 x hx
      have h8:=h3 x (by simp[hx])
      simp[okB] at h7
      simp[mi] at h8
      simp[oN,h7,h8]
     have:=nK (p:=oN) (a:=a1) (b:=y :: (a2++c :: b)) hq (fun x hx=>by simp at hx; subst hx; exact hbad)
     have he:(a1++y :: a2)++c :: b=a1++y :: (a2++c :: b):=by simp
     refine⟨fun h=>?_,fun _=>.inr ⟨_,_,rfl, ?_⟩⟩
     ·have:iE [34] (a1++y :: a2)=false:=by
       unfold iE
       have:(a1++y :: a2).all (okB [34])=false:=by rw[List.all_eq_false]; exact⟨y,by simp,by simp[h6]⟩
       rw[this]; rfl
      rw[this] at h; cases h
     ·rw[he,this.2]
      simp[mi] at hyn
      exact Hd ⟨hyn.1,hyn.2.1,hyn.2.2⟩
theorem Sy:∀ (n:Nat) (s:List UInt8) (acc:List (List UInt8)) (k k' : Nat),s.length≤n→1≤s.length→s.length≤k→s.length≤k'→iL (s.drop 1)=true →
  (∀ vs r,iN k s acc=some (vs,r)→lY k' (s.drop 1) acc=some (vs,r)∧iL r=true) ∧
  (iN k s acc=none→lY k' (s.drop 1) acc=none∨∃ vs r,lY k' (s.drop 1) acc=some (vs,r)∧bn 59 r=false∧bn 58 r=false)
 | 0,s,acc,k,k',h1,h2,_,_,_=>by omega
 | n + 1,s,acc,k,k',h1,h2,h3,h4,hf=>by
   obtain⟨i,rfl⟩ : ∃ i,k=i + 1:=⟨k - 1,by omega⟩
   obtain⟨j,rfl⟩ : ∃ j,k'=j + 1:=⟨k' - 1,by omega⟩
   rw[iN,lY]
   have hv:=YT hf
   have hlen:=yX (s.drop 1)
   generalize jl (s.drop 1)=x at *
   obtain⟨v,after,ok⟩:=x
   simp only[List.length_drop] at hv hlen ⊢
   cases ok with
   | true =>
     obtain⟨hs,hfa⟩:=hv.1 rfl
     rw[hs]
     simp only[if_true]
     cases h44:bn 44 after with
     | true =>
       simp only[if_true]
       have hp:=bu h44
       exact Sy n after (acc++[v]) i j (by omega) hp (by omega) (by omega) (sJ (x:=44) (by decide) h44 hfa)
     | false =>
       simp only[Bool.false_eq_true,if_false]
       refine⟨fun vs r h=>?_,fun h=>by cases h⟩
       cases h
       exact⟨rfl,hfa⟩
   | false =>
     simp only[Bool.false_eq_true,if_false]
     refine⟨fun vs r h=>(by cases h),fun _=>?_⟩
     rcases hv.2 rfl with h | ⟨w,r,h,hm⟩
     ·rw[h]; exact .inl rfl
     ·rw[h]
      simp only[hm.1,Bool.false_eq_true,if_false]
      exact .inr ⟨_,_,rfl,hm.2.1,hm.2.2⟩
theorem Tz:∀ (n:Nat) (s:List UInt8) (acc:List jh) (k k' : Nat),s.length≤n→s.length + 1≤k→s.length + 1≤k'→iL s=true →
  (∀ ps r,nD eG k s acc=some (ps,r)→nG k' s acc=some (ps,r)∧iL r=true) ∧
  (nD eG k s acc=none→nG k' s acc=none∨∃ ps r,nG k' s acc=some (ps,r)∧bn 58 r=false)
 | n,s,acc,k,k',h1,h3,h4,hf=>by
   obtain⟨i,rfl⟩ : ∃ i,k=i + 1:=⟨k - 1,by omega⟩
   obtain⟨j,rfl⟩ : ∃ j,k'=j + 1:=⟨k' - 1,by omega⟩
   rw[nD,nG]
   cases h59:bn 59 s with
   | false =>
     simp only[Bool.false_eq_true,if_false]
     refine⟨fun ps r h=>?_,fun h=>by cases h⟩
     cases h; exact⟨rfl,hf⟩
   | true =>
     simp only[if_true]
     have hp:=bu h59
     have hf1:=sJ (x:=59) (by decide) h59 hf
     have hul:(s.drop 1).length + 1=s.length:=by simp; omega
     generalize s.drop 1=u at *
     rw[show(u.take (wk u)).map dz=eH u from rfl,IL,EA,CY]
     cases hb:bad (wn u) with
     | true =>
       simp only[Bool.not_true,Bool.false_and,Bool.false_eq_true,if_false,if_true]
       exact⟨fun ps r h=>(by cases h),fun _=>.inl (by simp)⟩
     | false =>
       simp only[Bool.not_false,Bool.true_and,Bool.false_eq_true,if_false]
       have hf2:=H7 hf1
       cases h61:bn 61 (u.drop (wn u)) with
       | false =>
         simp only[Bool.false_eq_true,if_false]
         exact⟨fun ps r h=>(by cases h),fun _=>.inl (by simp)⟩
       | true =>
         simp only[if_true]
         have hp2:=bu h61
         have hf3:=sJ (x:=61) (by decide) h61 hf2
         have hq:=Sy (u.drop (wn u)).length (u.drop (wn u)) [] (u.drop (wn u)).length ((u.drop (wn u + 1)).length + 1) (Nat.le_refl _) hp2 (Nat.le_refl _) (by simp at hp2 ⊢; omega) hf3
         rw[List.drop_drop] at hq
         unfold PX
         have hlen:=uJ (u.drop (wn u)).length (u.drop (wn u)) []
         cases hv:iN (u.drop (wn u)).length (u.drop (wn u)) [] with
         | none =>
           simp only
           refine⟨fun ps r h=>(by cases h),fun _=>?_⟩
           rcases hq.2 hv with h | ⟨vs,r,h,h5,h6⟩
           ·rw[h]; exact .inl rfl
           ·rw[h]
            simp only
            right
            have hr1:1≤j:=by omega
            obtain⟨j',rfl⟩ : ∃ j',j=j' + 1:=⟨j - 1,by omega⟩
            rw[nG]
            simp only[h5,Bool.false_eq_true,if_false]
            exact⟨_,_,rfl,h6⟩
         | some p =>
           obtain⟨vs,r⟩:=p
           obtain⟨h5,h6⟩:=hq.1 vs r hv
           rw[h5]
           simp only
           have h7:=hlen vs r hp2 hv
           simp at h7
           cases n with
           | zero=>omega
           | succ n=>exact Tz n r _ i j (by omega) (by omega) (by omega) h6
theorem Sa {g r:List UInt8} (hf:iL r=true) : Dz eG g (eH r) (r.drop (wk r))=Ob g r:=by
 unfold Dz Ob
 rw[IL,EA,CY]
 have hf1:=H7 hf
 have hq:=Tz (r.drop (wn r)).length (r.drop (wn r)) [] ((r.drop (wn r)).length + 1) ((r.drop (wn r)).length + 1) (Nat.le_refl _) (Nat.le_refl _) (Nat.le_refl _) hf1
 unfold rf
 cases hp:nD eG ((r.drop (wn r)).length + 1) (r.drop (wn r)) [] with
 | none =>
   simp only
   rcases hq.2 hp with h | ⟨ps,q,h,h2⟩
   ·rw[h]; simp
   ·rw[h]; simp[h2]
 | some x =>
   obtain⟨ps,q⟩:=x
   obtain⟨h1,h2⟩:=hq.1 ps q hp
   rw[h1]
   simp only
   cases hb:bad (wn r) with
   | true=>simp
   | false =>
     simp only[Bool.not_false,Bool.true_and,Bool.false_eq_true,if_false]
     cases h58:bn 58 q with
     | false=>simp
     | true =>
       have hf2:=sJ (x:=58) (by decide) h58 h2
       have:iE [] (q.drop 1)=(q.drop 1).all gW:=by
        unfold iE
        rw[hf2,Bool.and_true]
        congr 1
        funext c
        exact BH c
       rw[this]
theorem KZ (s:List UInt8) : lN eG s=SS s:=by
 unfold lN SS
 cases hf:iL s with
 | false=>simp
 | true =>
   simp only[if_true]
   unfold tZ Oc
   rw[CY]
   cases h46:bn 46 (s.drop (wn s)) with
   | false =>
     simp only[Bool.false_eq_true,if_false]
     rw[← CY s]
     exact Sa hf
   | true =>
     simp only[if_true]
     rw[IL]
     cases hb:bad (wn s) with
     | true=>simp
     | false =>
       simp only[Bool.not_false,if_true,Bool.false_eq_true,if_false]
       rw[EA s,List.drop_drop]
       refine Sa ?_
       have:=sJ (x:=46) (by decide) h46 (H7 hf)
       rwa [List.drop_drop] at this
end Go.Ab.Vl
namespace Go.Ab.Vl
open Go Go.Ab Go.Ab.Sm
def ul (c:UInt8) : UInt8:=if 97≤c.toNat∧c.toNat≤122 then UInt8.ofNat (c.toNat - 32) else c
def PV (c:au) : Prop:=∀ {M:RM} {s:List UInt8} {Q:ak},s.length≤1000000000→(∀ M',ag [] M M'→Q (St (s.map ul)) M')→c [St s] M Q
section
variable {f:UInt8→UInt8} {s:List UInt8} {i:Nat}
theorem map_set (hi:i<s.length) (x:UInt8) : ((s.take i).map f++s.drop i).set i x=(s.take i).map f++x :: s.drop (i + 1):=by
 have hl:((s.take i).map f).length=i:=by simp; omega
 rw[List.drop_eq_getElem_cons hi,List.set_append_right _ _ (by omega),hl,Nat.sub_self,List.set_cons_zero]
theorem map_take (hi:i<s.length) : (s.take (i + 1)).map f++s.drop (i + 1)=(s.take i).map f++f s[i] :: s.drop (i + 1):=by
 rw[List.take_succ_eq_append_getElem hi,List.map_append,List.append_assoc]
 rfl
theorem aaE (hi:i<s.length) (h:i<((s.take i).map f++s.drop i).length) : ((s.take i).map f++s.drop i)[i]=s[i]:=by
 have hl:((s.take i).map f).length=i:=by simp; omega
 rw[List.getElem_append_right (by omega)]
 simp only[hl,Nat.sub_self,List.getElem_drop,Nat.add_zero]
end
theorem aa0 {c:UInt8} (h:¬ (97≤c.toNat∧c.toNat≤122)) : ul c=c:=if_neg h
theorem acA {c:UInt8} (h:97≤c.toNat∧c.toNat≤122) : (ul c).toNat=c.toNat - 32:=by
 have:=ug c
 unfold ul
 rw[if_pos h,Pg,Nat.mod_eq_of_lt (by omega)]
theorem Vn {T8:Nat} : PV fun args M Q=>∃ a0,args=[a0]∧uQ T8 a0 M Q:=by
 intro M s Q hl hQ
 refine⟨_,rfl, ?_⟩
 unfold uQ
 simp only[dN,bL]
 rw[qV,aG,oM]
 have k1:ag [] M (M.push (.row (BY.row s) true T8 0)):=(ag.refl _ _).push _
 have o1:Ow BY (M.push (.row (BY.row s) true T8 0)) 0 T8 (.slc M.next 0 s.length (.op 1)) s:=.op M.next s.length _ (Nat.zero_le _) (by rw[bZ]; omega) (RM.aV _) (BY.ic _)
 generalize M.push (.row (BY.row s) true T8 0)=M1 at *
 refine aI (fun m ys M3=>∃ i:Nat,m=s.length - i∧ys=[N .i64 (i:Int)]∧i≤s.length∧Ow BY M3 0 T8 (.slc M.next 0 s.length (.op 1)) ((s.take i).map ul++s.drop i)∧ag [] M M3) s.length
  ⟨0,rfl,rfl,Nat.zero_le _,by simpa using o1,k1⟩ ?_
 rintro next m ys M3 hnext ⟨i,rfl,rfl,hi,o3,k3⟩
 dsimp only[ae]
 rw[gQ]
 refine aN (fun hlt=>?_) (fun hge=>?_)
 ·have hlt:i<s.length:=of_decide_eq_true hlt
  have hlen:i<((s.take i).map ul++s.drop i).length:=by simp; omega
  obtain⟨b,hbk,hbl,hix,hld,hst⟩:=Yh (E:=BY) rfl o3 hlen
  rw[aaE hlt hlen] at hld
  have hbe:M.next=b:=by simpa [aH] using hbk
  refine aW (fun _ M'=>Ow BY M' 0 T8 (.slc M.next 0 s.length (.op 1)) ((s.take (i + 1)).map ul++s.drop (i + 1))∧ag [] M M') ?_ ?_
  ·rintro xs M4 ⟨o4,k4⟩
   rw[add1 (by omega)]
   exact hnext _ _ _ (by omega) ⟨i + 1,rfl,rfl,by omega,o4,k4⟩
  intro J hJ
  have cb:=ug s[i]
  have same:¬ (97≤s[i].toNat∧s[i].toNat≤122)→J [] M3:=fun h=>hJ _ _ ⟨by rw[map_take hlt,aa0 h,← List.drop_eq_getElem_cons hlt]; exact o3,k3⟩
  rw[hix,hld (By s[i]) rfl,By,dL]
  refine qw (p:=decide ((s[i].toNat:Int)≤122)) (fun _ k hk=>by rw[il]; exact hk) ?_
  refine aN (fun hc=>?_) (fun hc=>same ?_)
  ·rw[Bool.and_eq_true,decide_eq_true_eq,decide_eq_true_eq] at hc
   have h:97≤s[i].toNat∧s[i].toNat≤122:=by omega
   obtain⟨M4,o4,e4,hs4⟩:=hst (ul s[i]) (By (ul s[i])) rfl rfl
   have wv:N IntKind.u8 (IntKind.u8.wrap (IntKind.u8.wrap ((s[i].toNat:Int) + 65) - 97))=By (ul s[i]):=by
    rw[By,acA h]
    rw[show IntKind.u8.wrap ((s[i].toNat:Int) + 65)=(s[i].toNat:Int) + 65 from nC (by omega) (by omega)]
    rw[nC (by omega) (by omega)]
    congr 1; omega
   rw[bE,gB,hix,wv,hs4]
   refine hJ _ _ ⟨?_, ?_⟩
   ·rw[map_take hlt,← map_set hlt]; exact o4
   ·rw[e4]; exact k3.put _ (.inl (by omega))
  ·rw[Bool.and_eq_false_iff,decide_eq_false_iff_not,decide_eq_false_iff_not] at hc
   omega
 ·have he:i=s.length:=by
   have:¬ i<s.length:=of_decide_eq_false hge
   omega
  subst he
  rw[List.take_length,List.drop_length,List.append_nil] at o3
  rw[Sl.str (Own.jX o3)]
  exact hQ M3 k3
def Mt (s:List UInt8) : Bool:=s.any fun c=>decide (c∈mi)
def YG (B:Base) (c:au) : Prop:=∀ {M:RM} {s:List UInt8} {Q:ak},M.base=B→s.length≤1000000000→(∀ M',ag [] M M'→Q (Bo (Mt s)) M')→c [St s,St mi] M Q
theorem YW {B:Base} {ci:au} (hi:oH mi B ci) : YG B fun args M Q=>∃ a0 a1,args=[a0,a1]∧iK ci a0 a1 M Q:=by
 intro M s Q hM hl hQ
 refine⟨_,_,rfl, ?_⟩
 unfold iK
 refine hi hM hl fun M' k=>?_
 have hQ:=hQ M' k
 rw[dL]
 rcases Ql s with⟨e,h⟩ | ⟨a,c,b,e1,e2,h1,h2⟩
 ·have:Mt s=false:=by
   unfold Mt
   rw[List.any_eq_false]
   intro x hx
   simpa using h x hx
  rw[this] at hQ
  rw[e]; exact hQ
 ·have:Mt s=true:=by
   unfold Mt
   rw[List.any_eq_true]
   exact⟨c,by rw[e1]; simp,by simpa using h1⟩
  rw[this] at hQ
  rw[e2,show decide ((a.length:Int) ≥ 0)=true from decide_eq_true (by omega)]; exact hQ
structure GD (n0 b:Nat) (M M' : RM) : Prop where
 base:M'.base=M.base
 next:M.next≤M'.next
 heap:∀ c,c<n0→c≠b→M'.heap c=M.heap c
 shut:∀ c l e f,c<M.next→c≠b→M.heap c=some (.row l false e f)→M'.heap c=some (.row l false e f)
theorem lg.buf {TB T8 n0 b:Nat} {M:RM} {xs:List UInt8} {buf:AV} (hB:lg TB T8 n0 M b xs) (ho:Ow BY M n0 T8 buf xs) (he:xs=[]→buf=aJ) : ∀ c∈aH buf,∀ l e f,M.heap c≠some (.row l false e f):=by
 intro c hc l e f hh
 by_cases hx:xs=[]
 ·rw[he hx] at hc; simp[aH] at hc
 ·obtain⟨d,rfl,_,h3⟩:=V7 (Own.mono ho (Nat.zero_le _)) (List.length_pos_iff.2 hx)
  simp only[aH,List.mem_singleton] at hc
  subst hc
  rw[h3] at hh
  cases hh
theorem lg.keep {TB T8 n0 b:Nat} {M M' : RM} {xs:List UInt8} (hB:lg TB T8 n0 M b xs) (hk:ag [] M M') : lg TB T8 n0 M' b xs:=by
 obtain⟨addr,buf,hh,ha,ho,he⟩:=hB.row
 have:=hB.hn
 have:=hB.lt
 exact⟨hB.lt,Nat.le_trans hB.hn hk.next,addr,buf,hk.ay hh (by omega) (by simp),ha,Own.keep ho hk (by simp),he⟩
theorem GD.keep {n0 b:Nat} {M0 M M' : RM} (h0:ag [] M0 M) (h:GD n0 b M M') (hn:M0.next≤n0) (hb:M0.next≤b) : ag [] M0 M' :=
 ⟨h.base.trans h0.base,Nat.le_trans h0.next h.next,fun c h1 _=>(h.heap c (by omega) (by omega)).trans (h0.heap c h1 (by simp))⟩
def CL (TB T8:Nat) (c:au) : Prop:=∀ {n0:Nat} {M:RM} {b:Nat} {xs:List UInt8} {x:UInt8} {Q:ak},lg TB T8 n0 M b xs→xs.length + 1≤140737488355328 →
 (∀ M',lg TB T8 n0 M' b (xs++[x])→GD n0 b M M'→Q (.sc .nilIface) M')→c [.ptr b 0,By x] M Q
theorem Ky {TB T8:Nat} {c:au} (hc:BF TB c) : CL TB T8 fun args M Q=>∃ a0 a1,args=[a0,a1]∧gp c T8 a0 a1 M Q:=by
 intro n0 M b xs x Q hB hl hQ
 obtain⟨addr,buf,hh,ha,ho,he⟩:=hB.row
 refine⟨_,_,rfl, ?_⟩
 unfold gp
 refine hc hh ha ho.one fun M1 h1 hnx hbs hot=>?_
 have hbuf:=hB.buf ho he
 have hlt:=hB.lt
 have hn:=hB.hn
 have ho1:Ow BY M1 n0 T8 buf xs:=Own.same ho hnx (fun c hc=>hot c (by have:=ho.blk c hc; omega)) hbs
 simp only[go_sem,RM.cell_of h1]
 rw[gD (x:=By x) (size:=1) rfl rfl rfl]
 simp only[aG]
 refine iY (E:=BY) (a:=x) ho1 (by omega) (Nat.le_refl _) (by omega) hl fun v' M2 h2 k2 hnx2 hv=>?_
 have hb2:b ∉ aH buf:=fun hm=>by have:=ho.blk b hm; omega
 have hh2:=k2.ay h1 (by omega) hb2
 simp only[go_sem,RM.lI hh2]
 rw[Own.cells h2,iX (by simp) (by simp) (by simp[Own.one h2])]
 simp only[go_sem]
 have hne:∀ c∈aH v',c≠b:=fun c hm=>by have:=h2.blk c hm; omega
 refine hQ _ ⟨hlt,by show n0≤M2.next; omega,.ptr b 0,v',RM.lU _ _,.inr rfl,Own.same h2 rfl (fun c hm=>by simp[go_sem,hne c hm]) rfl,by simp⟩ ⟨?_, ?_,fun c h3 h4=>?_,fun c l e f h3 h4 h5=>?_⟩
 ·exact k2.base.trans hbs
 ·show M.next≤M2.next
  omega
 ·simp only[go_sem,if_neg h4]
  rw[k2.heap c (by omega) (fun hm=>by have:=ho.blk c hm; omega),hot c h4]
 ·simp only[go_sem,if_neg h4]
  rw[k2.heap c (by omega) (fun hm=>hbuf c hm l e f h5),hot c h4,h5]
def wU (TB T8:Nat) (c:au) : Prop:=∀ {n0:Nat} {M:RM} {b:Nat} {xs s:List UInt8} {Q:ak},lg TB T8 n0 M b xs→xs.length + s.length≤140737488355328 →
 (∀ M',lg TB T8 n0 M' b (xs++s)→GD n0 b M M'→Q (.tup [N .i64 s.length,.sc .nilIface]) M')→c [.ptr b 0,St s] M Q
theorem GZ {TB T8:Nat} {c:au} (hc:BF TB c) : wU TB T8 fun args M Q=>∃ a0 a1,args=[a0,a1]∧fM c T8 a0 a1 M Q:=by
 intro n0 M b xs s Q hB hl hQ
 obtain⟨addr,buf,hh,ha,ho,he⟩:=hB.row
 refine⟨_,_,rfl, ?_⟩
 unfold fM
 refine hc hh ha ho.one fun M1 h1 hnx hbs hot=>?_
 have hbuf:=hB.buf ho he
 have hlt:=hB.lt
 have hn:=hB.hn
 have ho1:Ow BY M1 n0 T8 buf xs:=Own.same ho hnx (fun c hc=>hot c (by have:=ho.blk c hc; omega)) hbs
 simp only[go_sem,RM.cell_of h1]
 have hnew:kQ M1 1 [N .u8 0] false (St s)=some (s.length,BY.row s):=by
  simp only[kQ,nO,if_true]
 by_cases hne0:xs++s=[]
 ·obtain⟨rfl,rfl⟩:=List.append_eq_nil_iff.1 hne0
  have hb0:=he rfl
  subst hb0
  refine⟨0,[],hnew,by omega,by omega,aJ,M1,by simp[uK], ?_⟩
  simp only[go_sem,RM.lI h1]
  rw[iX (by simp) (by simp) (by simp[oneCell])]
  simp only[go_sem]
  refine hQ _ ⟨hlt,by show n0≤M1.next; omega,.ptr b 0,aJ,by simp[go_sem],.inr rfl,.nil,fun _=>rfl⟩ ⟨hbs,by show M.next≤M1.next; omega,fun c h3 h4=>?_,fun c l e f h3 h4 h5=>?_⟩
  ·simp only[go_sem,if_neg h4]
   exact hot c h4
  ·simp only[go_sem,if_neg h4]
   rw[hot c h4,h5]
 refine wH ho1 (by omega) (Nat.le_refl _) hnew (by rw[BY.ic]; rfl) (BY.fT s) (by omega) (by omega) fun v' M2 h2 k2 hnx2 hv=>?_
 rw[← BY.rT] at h2
 have h2:Ow BY M2 n0 T8 v' (xs++s):=by
  show Own M2 n0 T8 1 v' (BY.row (xs++s)) (xs++s).length
  rw[List.length_append]; exact h2
 have hb2:b ∉ aH buf:=fun hm=>by have:=ho.blk b hm; omega
 have hh2:=k2.ay h1 (by omega) hb2
 simp only[go_sem,RM.lI hh2]
 rw[Own.cells h2,iX (by simp) (by simp) (by simp[Own.one h2])]
 simp only[go_sem]
 have hne:∀ c∈aH v',c≠b:=fun c hm=>by have:=h2.blk c hm; omega
 refine hQ _ ⟨hlt,by show n0≤M2.next; omega,.ptr b 0,v',RM.lU _ _,.inr rfl,Own.same h2 rfl (fun c hm=>by simp[go_sem,hne c hm]) rfl,fun e=>absurd e hne0⟩ ⟨?_, ?_,fun c h3 h4=>?_,fun c l e f h3 h4 h5=>?_⟩
 ·exact k2.base.trans hbs
 ·show M.next≤M2.next
  omega
 ·simp only[go_sem,if_neg h4]
  rw[k2.heap c (by omega) (fun hm=>by have:=ho.blk c hm; omega),hot c h4]
 ·simp only[go_sem,if_neg h4]
  rw[k2.heap c (by omega) (fun hm=>hbuf c hm l e f h5),hot c h4,h5]
def mg (v:List UInt8) : Bool:=!iE [34] v
def og (f:List UInt8→List UInt8) (p:jh) : Bool:=!(!iP f p.1 || decide (p.2.length=0) || p.2.any mg)
def ou (f:List UInt8→List UInt8) (L:Ln) : Bool:=!((L.g != []) && !iP f L.g || !iP f L.n || !iE [] L.v) && L.ps.all (og f)
structure LB (N:Nat) (L:Ln) : Prop where
 g:L.g.length≤N
 n:L.n.length≤N
 v:L.v.length≤N
 ps:L.ps.length≤N
 pn:∀ p∈L.ps,p.1.length≤N
 pl:∀ p∈L.ps,p.2.length≤N
 pv:∀ p∈L.ps,∀ v∈p.2,v.length≤N
theorem LZ {M:RM} {v:AV} {ps:List jh} {S:Nat→Prop} (h:cB iI M v ps S) {i:Nat} (hi:i<ps.length) : ∃ pv,cB gH.kG M pv ps[i].2 S∧∀ K:AV→Prop,(aM v (N .i64 (i:Int)) 2 fun p=>aL M p 2 K)=K (.agg [St ps[i].1,pv]):=by
 obtain⟨b,o,cs,hb,hbm,hidx,hld,hrel⟩:=cB.at h 2 (i:Int) hi
 obtain⟨ds,rfl,pv,rfl,hpv⟩:=hrel
 refine⟨pv,hpv,fun K=>?_⟩
 rw[hidx,uF,hld]
 exact propext ⟨fun⟨_,e,hk⟩=>by cases e; exact hk,fun hk=>⟨_,rfl,hk⟩⟩
theorem EH {M:RM} {v:AV} {xs:List (List UInt8)} (h:Sl gH M v xs) {i:Nat} (hi:i<xs.length) {K:AV→Prop} : (aM v (N .i64 (i:Int)) 1 fun p=>ah M p K)=K (St xs[i]):=by
 obtain⟨b,o,_,_,hidx,hc⟩:=Sl.Hl (E:=gH) h (i:Int) hi
 rw[hidx,bT,hc _ rfl]
 simp
section
variable {B:Base}
def Zz (B:Base) (c:au) : Prop:=∀ {M:RM} {s:List UInt8} {Q:ak},M.base=B→s.length≤1000000000→(∀ M',ag [] M M'→Q (Bo (mg s)) M')→c [St s] M Q
theorem UH {cv:au} (hv:pg B cv) : Zz B fun args M Q=>∃ a0,args=[a0]∧sD cv a0 M Q:=by
 intro M s Q hM hl hQ
 refine⟨_,rfl, ?_⟩
 unfold sD
 refine hv hM hl fun M' k=>?_
 rw[bX]
 exact hQ M' k
def LU (B:Base) (n:Nat) (c:au) : Prop:=∀ {M:RM} {v:AV} {xs:List (List UInt8)} {Q:ak},M.base=B→Sl gH M v xs→xs.length≤1000000000→(∀ x∈xs,x.length≤1000000000)→(∀ M',ag [] M M'→Q (Bo (xs.any mg)) M')→c [v,.fn (.func n) [] []] M Q
def Lh (B:Base) (n:Nat) (c:au) : Prop:=∀ {M:RM} {v:AV} {xs:List (List UInt8)} {Q:ak},M.base=B→Sl gH M v xs→xs.length≤1000000000→(∀ x∈xs,x.length≤1000000000)→(∀ M' (k:Int),ag [] M M'→decide (k ≥ 0)=xs.any mg→Q (N .i64 k) M')→c [v,.fn (.func n) [] []] M Q
theorem NL {n:Nat} {cv:FuncId→au} (hv:Zz B (cv n)) : Lh B n fun args M Q=>∃ a0 a1,args=[a0,a1]∧oG cv a0 a1 M Q:=by
 intro M v xs Q hM hs hl hxl hQ
 refine⟨_,_,rfl, ?_⟩
 unfold oG
 rw[dE.len hs]
 refine aI (fun m ys M'=>∃ i:Nat,m=xs.length - i∧ys=[N .i64 (i:Int)]∧i≤xs.length∧ag [] M M'∧(xs.drop i).any mg=xs.any mg) xs.length ⟨0,rfl,rfl,Nat.zero_le _,ag.refl _ _,rfl⟩ ?_
 rintro next m ys M1 hnext ⟨i,rfl,rfl,hi,k1,hh⟩
 dsimp only[ae]
 rw[gQ]
 refine aN (fun hlt=>?_) (fun hge=>?_)
 ·have hlt:i<xs.length:=of_decide_eq_true hlt
  rw[EH (dE.keep hs k1 (by simp)) hlt,Yc]
  rw[List.drop_eq_getElem_cons hlt,List.any_cons] at hh
  refine hv (k1.base.trans hM) (hxl _ (List.getElem_mem hlt)) fun M2 k2=>?_
  refine aN (fun hb=>?_) (fun hb=>?_)
  ·rw[hb,Bool.true_or] at hh
   exact hQ M2 _ (k1.trans k2) (by rw[← hh]; exact decide_eq_true (by omega))
  ·rw[hb,Bool.false_or] at hh
   rw[add1 (by omega)]
   exact hnext _ _ _ (by omega) ⟨i + 1,rfl,rfl,by omega,k1.trans k2,hh⟩
 ·have he:i=xs.length:=by
   have:¬ i<xs.length:=of_decide_eq_false hge
   omega
  subst he
  rw[List.drop_length] at hh
  exact hQ M1 _ k1 (by rw[← hh]; rfl)
theorem Ji {n:Nat} {ci:au} (hi:Lh B n ci) : LU B n fun args M Q=>∃ a0 a1,args=[a0,a1]∧mq ci a0 a1 M Q:=by
 intro M v xs Q hM hs hl hxl hQ
 refine⟨_,_,rfl, ?_⟩
 unfold mq
 refine hi hM hs hl hxl fun M' k k' he=>?_
 rw[dL,he]
 exact hQ M' k'
def Pt (B:Base) (f:List UInt8→List UInt8) (c:au) : Prop:=∀ {M:RM} {cs:List AV} {L:Ln} {k:Int} {S:Nat→Prop} {Q:ak},M.base=B→gq.rel M cs (L,k) S→LB 1000000000 L→(∀ M',ag [] M M'→Q (Bo (ou f L)) M')→c [.agg cs] M Q
theorem E8 {f:List UInt8→List UInt8} {TL TP n:Nat} {cn cv cc:au} (hn:uy B f cn) (hv:pg B cv) (hc:LU B n cc) : Pt B f fun args M Q=>∃ a0,args=[a0]∧xC TL cn cv TP cc n a0 M Q:=by
 intro M cs L k S Q hM hrel hb hQ
 obtain⟨v,rfl,hps⟩:=hrel
 simp only at hps
 refine⟨_,rfl, ?_⟩
 unfold xC
 simp only[dN]
 have hall:([St L.g,St L.n,v,St L.v,N .i64 k] : List AV).all oneCell=true:=by simp[eu,hps.one]
 rw[fU hall (by simp),aG]
 have k1:ag [] M (M.push (.row [St L.g,St L.n,v,St L.v,N .i64 k] false TL 0)):=(ag.refl _ _).push _
 have h1:(M.push (.row [St L.g,St L.n,v,St L.v,N .i64 k] false TL 0)).heap M.next=some (.row [St L.g,St L.n,v,St L.v,N .i64 k] false TL 0):=RM.aV _
 have n1:(M.push (.row [St L.g,St L.n,v,St L.v,N .i64 k] false TL 0)).next=M.next + 1:=bZ _
 generalize M.push (.row [St L.g,St L.n,v,St L.v,N .i64 k] false TL 0)=M1 at *
 have hk:∀ {M' : RM},ag [] M1 M'→M'.base=B∧M'.heap M.next=some (.row [St L.g,St L.n,v,St L.v,N .i64 k] false TL 0):=fun k'=>⟨(k'.base.trans k1.base).trans hM,k'.ay h1 (by omega) (by simp)⟩
 rw[aT,aA h1 rfl,jP]
 refine Ol (p:=!iP f L.g) (P:=fun M'=>ag [] M1 M') (ag.refl _ _) (fun _ kk hkk=>?_) (fun M2 k2=>?_)
 ·rw[aT,aA h1 rfl]
  refine hn (k1.base.trans hM) hb.g fun M' k'=>?_
  rw[bX]
  exact hkk _ k'
 refine U8 (p:=!iP f L.n) (P:=fun M'=>ag [] M1 M') k2 (fun _ kk hkk=>?_) (fun M3 k3=>?_)
 ·rw[aT,aA (hk k2).2 rfl]
  refine hn (hk k2).1 hb.n fun M' k'=>?_
  rw[bX]
  exact hkk _ (k2.trans k')
 refine U8 (p:=!iE [] L.v) (P:=fun M'=>ag [] M1 M') k3 (fun _ kk hkk=>?_) (fun M4 k4=>?_)
 ·rw[aT,aA (hk k3).2 rfl]
  refine hv (hk k3).1 hb.v fun M' k'=>?_
  rw[bX]
  exact hkk _ (k3.trans k')
 unfold ou at hQ
 refine aN (fun hcnd=>?_) (fun hcnd=>?_)
 ·rw[hcnd,Bool.not_true,Bool.false_and] at hQ
  exact hQ _ (k1.trans k4)
 rw[hcnd,Bool.not_false,Bool.true_and] at hQ
 have Zg:cB iI M4 v L.ps S:=(hps.keep k1 (by simp)).keep k4 (by simp)
 rw[aT,aA (hk k4).2 rfl,Zg.len]
 refine aI (fun m ys M'=>∃ i:Nat,m=L.ps.length - i∧ys=[N .i64 (i:Int)]∧i≤L.ps.length∧ag [] M1 M'∧(L.ps.drop i).all (og f)=L.ps.all (og f)) L.ps.length ⟨0,rfl,rfl,Nat.zero_le _,k4,rfl⟩ ?_
 rintro next m ys M5 hnext ⟨i,rfl,rfl,hi,k5,hh⟩
 dsimp only[ae]
 rw[gQ]
 have hpl:=hb.ps
 refine aN (fun hlt=>?_) (fun hge=>?_)
 ·have hlt:i<L.ps.length:=of_decide_eq_true hlt
  have F4:cB iI M5 v L.ps S:=(hps.keep k1 (by simp)).keep k5 (by simp)
  obtain⟨pv,hpv,hall⟩:=LZ F4 hlt
  have hmem:=List.getElem_mem hlt
  have b1:=hb.pn _ hmem
  have b2:=hb.pl _ hmem
  have b3:=hb.pv _ hmem
  rw[List.drop_eq_getElem_cons hlt,List.all_cons] at hh
  generalize L.ps[i]=p at *
  rw[hall,aG,bY (n:=2) (RM.aV _) rfl rfl (by simp[eu,AV.cells,hpv.one])]
  have k6:ag [] M5 ((M5.push (.row [St [],aJ] false TP 0)).put M5.next (.row (AV.agg [St p.1,pv]).cells false TP 0)):=((ag.refl _ _).push _).put _ (.inl (Nat.le_refl _))
  have h6:((M5.push (.row [St [],aJ] false TP 0)).put M5.next (.row (AV.agg [St p.1,pv]).cells false TP 0)).heap M5.next=some (.row [St p.1,pv] false TP 0):=aB _
  have n6:((M5.push (.row [St [],aJ] false TP 0)).put M5.next (.row (AV.agg [St p.1,pv]).cells false TP 0)).next=M5.next + 1:=rfl
  generalize (M5.push (.row [St [],aJ] false TP 0)).put M5.next (.row (AV.agg [St p.1,pv]).cells false TP 0)=M6 at *
  have k56:=k5.trans k6
  have UI:cB gH.kG M6 pv p.2 S:=hpv.keep k6 (by simp)
  rw[aT,aA h6 rfl]
  refine hn (hk k56).1 b1 fun M7 k7=>?_
  rw[bX]
  have h7:=k7.ay h6 (by omega) (by simp)
  have UD:=UI.keep k7 (by simp)
  have k57:=k56.trans k7
  refine jF (p:=decide (p.2.length=0)) (fun _ kk hkk=>?_) ?_
  ·rw[aT,aA h7 rfl,UD.len,show(N .i64 (0:Int))=N .i64 ((0:Nat) : Int) from rfl,acJ]
   exact hkk
  refine U8 (p:=p.2.any mg) (P:=fun M'=>ag [] M1 M') k57 (fun _ kk hkk=>?_) (fun M8 k8=>?_)
  ·rw[aT,aA h7 rfl]
   refine hc (hk k57).1 UD.sl b2 b3 fun M' k'=>?_
   exact hkk _ (k57.trans k')
  refine aN (fun hc=>?_) (fun hc=>?_)
  ·have:og f p=false:=by unfold og; rw[hc]; rfl
   rw[this,Bool.false_and] at hh
   rw[← hh] at hQ
   exact hQ _ (k1.trans k8)
  ·have:og f p=true:=by unfold og; rw[hc]; rfl
   rw[this,Bool.true_and] at hh
   rw[add1 (by omega)]
   exact hnext _ _ _ (by omega) ⟨i + 1,rfl,rfl,by omega,k8,hh⟩
 ·have he:i=L.ps.length:=by
   have:¬ i<L.ps.length:=of_decide_eq_false hge
   omega
  subst he
  rw[List.drop_length] at hh
  rw[← hh] at hQ
  exact hQ _ (k1.trans k5)
end
def qv (v:List UInt8) : List UInt8:=if Mt v then[34]++v++[34] else v
def tailV (vs:List (List UInt8)) : List UInt8:=vs.flatMap fun v=>44 :: qv v
def rF:List (List UInt8)→List UInt8
 | []=>[]
 | v :: vs=>qv v++tailV vs
def AQ (p:jh) : List UInt8:=[59]++p.1.map ul++[61]++rF p.2
def oV (L:Ln) : List UInt8:=if L.g=[] then[] else L.g++[46]
def CX (L:Ln) : List UInt8:=L.n.map ul++L.ps.flatMap AQ
def lD (L:Ln) : List UInt8:=oV L++CX L++[58]++L.v
def Df (j:Nat) (vs:List (List UInt8)) : List UInt8:=if j=0 then rF vs else tailV (vs.drop j)
theorem Un {vs:List (List UInt8)} {j:Nat} (hj:j<vs.length) : Df j vs=(if 0<j then[44] else[])++(qv vs[j]++Df (j + 1) vs):=by
 unfold Df
 rw[if_neg (by omega:¬ j + 1=0)]
 by_cases h:j=0
 ·subst h
  rw[if_pos rfl,if_neg (by omega)]
  cases vs with
  | nil=>simp at hj
  | cons v vs=>simp[rF]
 ·rw[if_neg h,if_pos (by omega),List.drop_eq_getElem_cons hj]
  unfold tailV
  rw[List.flatMap_cons]
  rfl
theorem WT (vs:List (List UInt8)) : Df vs.length vs=[]:=by
 unfold Df
 cases vs with
 | nil=>rfl
 | cons v vs=>rw[if_neg (by simp),List.drop_length]; rfl
theorem Bv {α:Type} {a b c:List α} (h:a++b=c) : a.length + b.length=c.length:=by rw[← h,List.length_append]
theorem cB.old {α:Type} {R:lG α} {M A C:RM} {v:AV} {xs:List α} {S:Nat→Prop} (h:cB R A v xs S) (hS:∀ b,S b→b<M.next) (kA:ag [] M A) (kC:ag [] M C) (n:A.next≤C.next) : cB R C v xs S:=by
 have hk:ag ((List.range A.next).filter fun c=>decide (M.next≤c)) A C:=⟨kC.base.trans kA.base.symm,n,fun c h1 h2=>by
  have h3:c<M.next:=by
   rcases Nat.lt_or_ge c M.next with h | h
   ·exact h
   ·exact absurd (List.mem_filter.2 ⟨List.mem_range.2 h1,decide_eq_true h⟩) h2
  rw[kC.heap c h3 (by simp),kA.heap c h3 (by simp)]⟩
 refine h.keep hk fun b hb hs=>?_
 have h1:=hS b hs
 have h2:=of_decide_eq_true (List.mem_filter.1 hb).2
 omega
structure uw (TB T8 TL:Nat) (M:RM) (cells:List AV) (M' : RM) (xs:List UInt8) : Prop where
 bld:lg TB T8 (M.next + 2) M' (M.next + 1) xs
 keep:ag [] M M'
 row:M'.heap M.next=some (.row cells false TL 0)
 nx:M.next + 2≤M'.next
section
variable {TB T8 TL:Nat} {M M' M2:RM} {cells:List AV} {xs ys:List UInt8}
theorem uw.more (h:uw TB T8 TL M cells M' xs) (k:ag [] M' M2) : uw TB T8 TL M cells M2 xs :=
 ⟨h.bld.keep k,h.keep.trans k,k.ay h.row (by have:=h.nx; omega) (by simp),Nat.le_trans h.nx k.next⟩
theorem uw.write (h:uw TB T8 TL M cells M' xs) (hb:lg TB T8 (M.next + 2) M2 (M.next + 1) ys) (k:GD (M.next + 2) (M.next + 1) M' M2) : uw TB T8 TL M cells M2 ys :=
 ⟨hb,GD.keep h.keep k (by omega) (by omega),k.shut _ _ _ _ (by have:=h.nx; omega) (by omega) h.row,Nat.le_trans h.nx k.next⟩
end
section
variable {B:Base}
def UN (B:Base) (c:au) : Prop:=∀ {M:RM} {cs:List AV} {L:Ln} {k:Int} {S:Nat→Prop} {Q:ak},M.base=B→gq.rel M cs (L,k) S→LB 1000000000 L→(lD L).length≤140737488355328→(∀ M',ag [] M M'→Q (St (lD L)) M')→c [.agg cs] M Q
theorem Wq {TL TB TP T8:Nat} {cw cg cb ca cs:au} (hw:wU TB T8 cw) (hg:PV cg) (hb:CL TB T8 cb) (ha:YG B ca) (hs:wI TB T8 cs) : UN B fun args M Q=>∃ a0,args=[a0]∧yD TL TB cw cg TP cb ca cs a0 M Q:=by
 intro M cs L k S Q hM hrel hB hlen hQ
 obtain⟨v,rfl,hps⟩:=hrel
 simp only at hps
 refine⟨_,rfl, ?_⟩
 unfold yD
 simp only[bL]
 have hall:([St L.g,St L.n,v,St L.v,N .i64 k] : List AV).all oneCell=true:=by simp[eu,hps.one]
 rw[fU hall (by simp),aG,aG]
 have st0:uw TB T8 TL M [St L.g,St L.n,v,St L.v,N .i64 k] ((M.push (.row [St L.g,St L.n,v,St L.v,N .i64 k] false TL 0)).push (.row [.sc (.pointer none),aJ] false TB 0)) [] :=
  ⟨lg.new (RM.aV _) (by omega) (by rw[bZ,bZ]; omega),((ag.refl _ _).push _).push _,kT (RM.aV _) (by rw[bZ]; omega),by rw[bZ,bZ]; omega⟩
 rw[bZ]
 generalize (M.push (.row [St L.g,St L.n,v,St L.v,N .i64 k] false TL 0)).push (.row [.sc (.pointer none),aJ] false TB 0)=M1 at *
 have hbase:∀ {M' : RM},ag [] M M'→M'.base=B:=fun h=>h.base.trans hM
 have hW:(lD L).length=(oV L).length + ((L.n.map ul).length + (L.ps.flatMap AQ).length) + 1 + L.v.length:=by
  unfold lD CX; simp only[List.length_append,List.length_cons,List.length_nil]
 refine aW (fun _ M'=>uw TB T8 TL M [St L.g,St L.n,v,St L.v,N .i64 k] M' (oV L)) ?_ ?_
 rotate_left
 ·intro J hJ
  rw[aT,aA st0.row rfl,jP]
  refine aN (fun hc=>?_) (fun hc=>?_)
  ·have hne:L.g≠[]:=by simpa using hc
   have hgl:=hB.g
   have hgj:oV L=L.g++[46]:=if_neg hne
   rw[aT,aA st0.row rfl,bI]
   refine⟨by simp; omega, ?_⟩
   refine hw st0.bld (by simp; omega) fun M2 b2 k2=>?_
   refine hJ _ _ ?_
   rw[hgj]
   exact st0.write b2 k2
  ·have he:L.g=[]:=by simpa using hc
   refine hJ _ _ ?_
   have hgj:oV L=[]:=if_pos he
   rw[hgj]
   exact st0
 clear st0
 clear M1
 rintro _ M2 st2
 rw[aT,aA st2.row rfl]
 refine hg hB.n fun M3 k3=>?_
 have st3:=st2.more k3
 refine hw st3.bld (by omega) fun M4 b4 k4=>?_
 have st4:=st3.write b4 k4
 clear st2 st3 b4 k4 k3
 have Zg:cB iI M4 v L.ps S:=hps.keep st4.keep (by simp)
 rw[aT,aA st4.row rfl,Zg.len]
 generalize hWd:oV L++CX L=W
 have hWl:W.length=(oV L).length + ((L.n.map ul).length + (L.ps.flatMap AQ).length):=by
  rw[← hWd]; unfold CX; simp only[List.length_append]
 have ac7:=hB.ps
 refine aI (fun m ys M5=>∃ (i:Nat) (xs:List UInt8),m=L.ps.length - i∧ys=[N .i64 (i:Int)]∧i≤L.ps.length∧uw TB T8 TL M [St L.g,St L.n,v,St L.v,N .i64 k] M5 xs∧xs++(L.ps.drop i).flatMap AQ=W) L.ps.length
  ⟨0,_,rfl,rfl,Nat.zero_le _,st4,by rw[← hWd]; unfold CX; rw[List.drop_zero,List.append_assoc]⟩ ?_
 rintro next m ys M5 hnext ⟨i,xs,rfl,rfl,hi,st5,hx⟩
 dsimp only[ae]
 rw[gQ]
 refine aN (fun hlt=>?_) (fun hge=>?_)
 ·have hlt:i<L.ps.length:=of_decide_eq_true hlt
  have F4:cB iI M5 v L.ps (fun b=>S b∧b<M.next):=hps.lt.keep st5.keep (by simp)
  obtain⟨pv,hpv,hall⟩:=LZ F4 hlt
  have hmem:=List.getElem_mem hlt
  have b1:=hB.pn _ hmem
  have b2:=hB.pl _ hmem
  have b3:=hB.pv _ hmem
  rw[List.drop_eq_getElem_cons hlt,List.flatMap_cons] at hx
  generalize L.ps[i]=p at *
  rw[hall,aG,bY (n:=2) (RM.aV _) rfl rfl (by simp[eu,AV.cells,hpv.one])]
  have k6:ag [] M5 ((M5.push (.row [St [],aJ] false TP 0)).put M5.next (.row (AV.agg [St p.1,pv]).cells false TP 0)):=((ag.refl _ _).push _).put _ (.inl (Nat.le_refl _))
  have h6:((M5.push (.row [St [],aJ] false TP 0)).put M5.next (.row (AV.agg [St p.1,pv]).cells false TP 0)).heap M5.next=some (.row [St p.1,pv] false TP 0):=aB _
  have n6:((M5.push (.row [St [],aJ] false TP 0)).put M5.next (.row (AV.agg [St p.1,pv]).cells false TP 0)).next=M5.next + 1:=rfl
  generalize (M5.push (.row [St [],aJ] false TP 0)).put M5.next (.row (AV.agg [St p.1,pv]).cells false TP 0)=M6 at *
  have st6:=st5.more k6
  have nx5:=st5.nx
  have hpj:AQ p=[59]++p.1.map ul++[61]++rF p.2:=rfl
  have hxl:=Bv hx
  rw[hpj] at hxl
  simp only[List.length_append,List.length_cons,List.length_nil] at hxl
  rw[aT,aA h6 rfl]
  refine hg b1 fun M7 k7=>?_
  have st7:=st6.more k7
  have h7:=k7.ay h6 (by omega) (by simp)
  have n7:=k7.next
  rw[bI]
  refine⟨by simp; omega, ?_⟩
  rw[bI]
  refine⟨by simp; omega, ?_⟩
  refine hw st7.bld (by simp only[List.length_append,List.length_cons,List.length_nil]; omega) fun M8 b8 k8=>?_
  have st8:=st7.write b8 k8
  have h8:=k8.shut _ _ _ _ (by omega) (by omega) h7
  have ab6:cB gH.kG M8 pv p.2 (fun b=>S b∧b<M.next):=cB.old hpv (fun b h=>h.2) st5.keep st8.keep (by have:=k6.next; have:=k8.next; omega)
  rw[aT,aA h8 rfl,ab6.len]
  generalize hrest:(L.ps.drop (i + 1)).flatMap AQ=rest at *
  refine aI (fun m ys M9=>∃ (j:Nat) (zs:List UInt8),m=p.2.length - j∧ys=[N .i64 (j:Int)]∧j≤p.2.length∧uw TB T8 TL M [St L.g,St L.n,v,St L.v,N .i64 k] M9 zs∧M8.next≤M9.next∧zs++(Df j p.2++rest)=W) p.2.length
   ⟨0,_,rfl,rfl,Nat.zero_le _,st8,Nat.le_refl _, ?_⟩ ?_
  ·rw[← hx,hpj]
   simp only[List.append_assoc,Df,if_true]
  rintro pJ m ys M9 gm ⟨j,zs,rfl,rfl,hj,st9,n9,hz⟩
  dsimp only[ae]
  rw[gQ]
  refine aN (fun hlt2=>?_) (fun Ai=>?_)
  ·have hlt2:j<p.2.length:=of_decide_eq_true hlt2
   have K7:cB gH.kG M9 pv p.2 (fun b=>S b∧b<M.next):=cB.old ab6 (fun b h=>h.2) st8.keep st9.keep n9
   rw[Un hlt2] at hz
   have b4:=b3 _ (List.getElem_mem hlt2)
   have hzl:=Bv hz
   simp only[List.length_append] at hzl
   refine aW (fun _ M'=>uw TB T8 TL M [St L.g,St L.n,v,St L.v,N .i64 k] M' (zs++((if 0<j then[44] else[])++qv p.2[j]))∧M9.next≤M'.next) ?_ ?_
   ·rintro _ Ma ⟨sta,na⟩
    rw[add1 (by omega)]
    refine gm _ _ _ (by omega) ⟨j + 1,_,rfl,rfl,by omega,sta,by omega, ?_⟩
    rw[← hz]
    simp only[List.append_assoc]
   intro J hJ
   rw[EH K7.sl hlt2]
   generalize p.2[j]=x at *
   refine aW (fun _ M'=>uw TB T8 TL M [St L.g,St L.n,v,St L.v,N .i64 k] M' (zs++(if 0<j then[44] else[]))∧M9.next≤M'.next) ?_ ?_
   ·rintro _ Ma ⟨sta,na⟩
    refine aW (fun ys M'=>ys=[St (qv x)]∧uw TB T8 TL M [St L.g,St L.n,v,St L.v,N .i64 k] M' (zs++(if 0<j then[44] else[]))∧M9.next≤M'.next) ?_ ?_
    ·rintro _ Mb ⟨rfl,stb,nb⟩
     dsimp only[ae]
     refine hw stb.bld (by rw[List.length_append]; omega) fun Mc bc kc=>?_
     refine hJ _ _ ⟨?_,Nat.le_trans nb kc.next⟩
     rw[← List.append_assoc]
     exact stb.write bc kc
    intro J2 hJ2
    refine ha (hbase sta.keep) b4 fun Mb kb=>?_
    have stb:=sta.more kb
    have nb:=Nat.le_trans na kb.next
    refine aN (fun hh=>?_) (fun hh=>?_)
    ·rw[bI]
     refine⟨by simp; omega, ?_⟩
     rw[bI]
     refine⟨by simp; omega, ?_⟩
     exact hJ2 _ _ ⟨by rw[qv,if_pos hh],stb,nb⟩
    ·exact hJ2 _ _ ⟨by rw[qv,if_neg (by rw[hh]; simp)],stb,nb⟩
   intro J2 hJ2
   rw[show(N .i64 (0:Int))=N .i64 ((0:Nat) : Int) from rfl,xQ]
   refine aN (fun hh=>?_) (fun hh=>?_)
   ·have hh:0<j:=of_decide_eq_true hh
    rw[if_pos hh] at hzl hJ2
    simp only[List.length_cons,List.length_nil] at hzl
    show cb [.ptr (M.next + 1) 0,By 44] M9 _
    refine hb st9.bld (by omega) fun Mb bb kb=>?_
    refine hJ2 _ _ ⟨?_,kb.next⟩
    exact st9.write bb kb
   ·have hh:¬ 0<j:=of_decide_eq_false hh
    refine hJ2 _ _ ⟨?_,Nat.le_refl _⟩
    rw[if_neg hh,List.append_nil]; exact st9
  ·have he:j=p.2.length:=by
    have:¬ j<p.2.length:=of_decide_eq_false Ai
    omega
   subst he
   rw[WT,List.nil_append] at hz
   rw[add1 (by omega)]
   exact hnext _ _ _ (by omega) ⟨i + 1,zs,rfl,rfl,by omega,st9,by rw[hrest]; exact hz⟩
 ·have he:i=L.ps.length:=by
   have:¬ i<L.ps.length:=of_decide_eq_false hge
   omega
  subst he
  rw[List.drop_length,List.flatMap_nil,List.append_nil] at hx
  subst hx
  rw[aT,aA st5.row rfl]
  refine hs st5.bld (by omega) fun M6 k6=>?_
  have h6:M6.heap M.next=some (.row [St L.g,St L.n,v,St L.v,N .i64 k] false TL 0):=by rw[k6.heap _ (by omega) (by simp)]; exact st5.row
  rw[aA h6 rfl]
  refine⟨rfl, ?_⟩
  rw[bI]
  refine⟨by simp; omega, ?_⟩
  rw[bI]
  refine⟨by simp; omega, ?_⟩
  have kk:ag [] M M6:=⟨k6.base.trans st5.keep.base,Nat.le_trans st5.keep.next k6.next,fun c h1 _=>by rw[k6.heap c (by omega) (by simp)]; exact st5.keep.heap c h1 (by simp)⟩
  have:=hQ M6 kk
  unfold lD at this
  rw[hWd] at this
  exact this
end
def kH (f:List UInt8→List UInt8) (L:Ln) : List UInt8 × Int:=if ou f L then(if 912<(lD L).length then([],2) else(fo 0 (lD L)++[13,10],0)) else([],1)
section
variable {B:Base}
def Kb (B:Base) (F:Ln→List UInt8 × Int) (c:au) : Prop:=∀ {M:RM} {cs:List AV} {L:Ln} {k:Int} {S:Nat→Prop} {Q:ak},M.base=B→gq.rel M cs (L,k) S→LB 1000000000 L→(lD L).length≤140737488355328→(∀ M',ag [] M M'→Q (.tup [St (F L).1,N .i64 (F L).2]) M')→c [.agg cs] M Q
theorem aaq (s:List UInt8) : (fo 0 s).length≤4 * s.length + 4:=by
 have:=JZ s.length (u:=0) (s:=s) (Nat.le_refl _)
 omega
theorem VA {f:List UInt8→List UInt8} {TL:Nat} {cg cl cf:au} (hg:Pt B f cg) (hl:UN B cl) (hf:XB B cf) : Kb B (kH f) fun args M Q=>∃ a0,args=[a0]∧uV TL cg cl cf a0 M Q:=by
 intro M cs L k S Q hM hrel hB hlen hQ
 refine⟨_,rfl, ?_⟩
 unfold uV
 have hsz:cs.length=5:=gq.len hrel
 rw[fU (gq.one hrel) (by omega),aG]
 have k1:ag [] M (M.push (.row cs false TL 0)):=(ag.refl _ _).push _
 have h1:(M.push (.row cs false TL 0)).heap M.next=some (.row cs false TL 0):=RM.aV _
 have n1:(M.push (.row cs false TL 0)).next=M.next + 1:=bZ _
 generalize M.push (.row cs false TL 0)=M1 at *
 unfold kH at hQ
 rw[aP (n:=5) h1 hsz]
 refine hg (k1.base.trans hM) (gq.keep hrel k1 (by simp)) hB fun M2 k2=>?_
 have k12:=k1.trans k2
 have h2:=k2.ay h1 (by omega) (by simp)
 rw[bX]
 refine aN (fun hc=>?_) (fun hc=>?_)
 ·have hc:ou f L=false:=by simpa using hc
  rw[if_neg (by rw[hc]; simp)] at hQ
  exact hQ M2 k12
 have hc:ou f L=true:=by simpa using hc
 rw[if_pos hc] at hQ
 rw[aP (n:=5) h2 hsz]
 refine hl (k12.base.trans hM) (gq.keep hrel k12 (by simp)) hB hlen fun M3 k3=>?_
 have k13:=k12.trans k3
 rw[bi,show(N .i64 (912:Int))=N .i64 ((912:Nat) : Int) from rfl,xQ]
 refine aN (fun hc=>?_) (fun hc=>?_)
 ·rw[if_pos (of_decide_eq_true hc)] at hQ
  exact hQ M3 k13
 have hc:=of_decide_eq_false hc
 rw[if_neg (by omega)] at hQ
 refine hf (k13.base.trans hM) (by omega) fun M4 k4=>?_
 rw[bI]
 have:=aaq (lD L)
 exact⟨by simp; omega,hQ M4 (k13.trans k4)⟩
theorem Ph {M:RM} {v:AV} {ps:List jh} {S:Nat→Prop} (h:cB iI M v ps S) {i:Nat} (hi:i<ps.length) : ∃ pv,cB gH.kG M pv ps[i].2 S∧(∀ K:AV→Prop,(aM v (N .i64 (i:Int)) 2 fun p=>aF p 0 fun q=>ah M q K)=K (St ps[i].1)) ∧
  (∀ K:AV→Prop,(aM v (N .i64 (i:Int)) 2 fun p=>aF p 1 fun q=>ah M q K)=K pv):=by
 obtain⟨b,o,cs,hb,hbm,hidx,hld,hrel⟩:=cB.at h 2 (i:Int) hi
 obtain⟨ds,rfl,pv,rfl,hpv⟩:=hrel
 have c0:M.cell b (o + 0)=some (St ps[i].1):=dU hld (j:=0) rfl
 have c1:M.cell b (o + 1)=some pv:=dU hld (j:=1) rfl
 refine⟨pv,hpv,fun K=>?_,fun K=>?_⟩
 ·rw[hidx,dM,bT,c0]; simp
 ·rw[hidx,dM,bT,c1]; simp
end
end Go.Ab.Vl
namespace Go.Ab.Vl
open Go Go.Ab
theorem ll {α:Type} {p:α→Bool} : ∀ {s:List α},s.dropWhile p=[]→∀ x∈s,p x=true
 | [],_,x,hx=>by cases hx
 | c :: s,h,x,hx=>by
   rw[List.dropWhile_cons] at h
   split at h
   ·rename_i hc
    rcases List.mem_cons.1 hx with rfl | hx
    ·exact hc
    ·exact ll h x hx
   ·cases h
theorem tT {α:Type} {p:α→Bool} : ∀ {s t:List α} {y:α},s.dropWhile p=y :: t→p y=false
 | [],_,_,h=>by cases h
 | c :: s,t,y,h=>by
   rw[List.dropWhile_cons] at h
   split at h
   ·exact tT h
   ·rename_i hc
    cases h; simpa using hc
theorem Yx {s:List UInt8} (h:eG s=[]) : ∀ c∈s,fD.contains c=true:=by
 unfold eG Lib.trimS at h
 by_cases hr:s.reverse.dropWhile (fD.contains ·)=[]
 ·exact fun c hc=>ll hr c (by simpa using hc)
 ·exfalso
  obtain⟨y,t,e⟩ : ∃ y t,s.reverse.dropWhile (fD.contains ·)=y :: t:=by
   cases hd:s.reverse.dropWhile (fD.contains ·) with
   | nil=>exact absurd hd hr
   | cons y t=>exact⟨y,t,rfl⟩
  have hy:fD.contains y=false:=tT e
  have h1:Lib.trimLeftS (Lib.trimRightS s fD) fD=[]∨Lib.trimRightS (Lib.trimLeftS s fD) fD=[]:=by
   first | exact .inl h | exact .inr h
  rcases h1 with h1 | h1
  ·have:=ll h1 y (by unfold Lib.trimRightS; rw[e]; simp)
   rw[hy] at this; cases this
  ·unfold Lib.trimRightS at h1
   have h1:=List.reverse_eq_nil_iff.1 h1
   have h2:=ll h1
   unfold Lib.trimLeftS at h2
   by_cases hl:s.dropWhile (fD.contains ·)=[]
   ·have:=ll hl y
    have hm:y∈s:=by
     have:y∈s.reverse.dropWhile (fD.contains ·):=by rw[e]; simp
     simpa using (List.dropWhile_sublist _).subset this
    rw[ll hl y hm] at hy; cases hy
   ·cases hd:s.dropWhile (fD.contains ·) with
    | nil=>exact hl hd
    | cons z u =>
      have h3:=h2 z (by rw[hd]; simp)
      rw[tT hd] at h3; cases h3
theorem XL {s:List UInt8} (h:iP eG s=true) : 1≤s.length∧s.length≤20∧∀ c∈s,fD.contains c=true:=by
 unfold iP at h
 simp only[Bool.and_eq_true,decide_eq_true_eq,beq_iff_eq] at h
 exact⟨h.1.1,h.1.2,Yx h.2⟩
theorem YV {v:List UInt8} (h:mg v=false) : (∀ c∈v,gW c=true∧c≠34)∧iL v=true:=by
 unfold mg iE at h
 simp only[Bool.not_eq_false',Bool.and_eq_true,List.all_eq_true] at h
 refine⟨fun c hc=>?_,h.2⟩
 have:=h.1 c hc
 unfold okB at this
 simp only[Bool.and_eq_true,Bool.not_eq_true',decide_eq_false_iff_not,List.mem_singleton] at this
 exact this
theorem Xe {p:jh} (h:og eG p=true) : iP eG p.1=true∧p.2≠[]∧∀ v∈p.2,mg v=false:=by
 unfold og at h
 simp only[Bool.not_eq_true',Bool.or_eq_false_iff,decide_eq_false_iff_not,Bool.not_eq_false'] at h
 refine⟨h.1.1,fun e=>h.1.2 (by rw[e]; rfl),fun v hv=>?_⟩
 have:=h.2
 rw[List.any_eq_false] at this
 simpa using this v hv
theorem WQ {L:Ln} (h:ou eG L=true) : (L.g=[]∨iP eG L.g=true)∧iP eG L.n=true∧(∀ c∈L.v,gW c=true)∧iL L.v=true∧∀ p∈L.ps,og eG p=true:=by
 unfold ou at h
 simp only[Bool.and_eq_true,Bool.not_eq_true',Bool.or_eq_false_iff,Bool.and_eq_false_iff,Bool.not_eq_false',bne_eq_false_iff_eq,List.all_eq_true] at h
 obtain⟨⟨⟨h1,h2⟩,h3⟩,h4⟩:=h
 unfold iE at h3
 simp only[Bool.and_eq_true,List.all_eq_true] at h3
 exact⟨h1,h2,fun c hc=>by have:=h3.1 c hc; rw[BH] at this; exact this,h3.2,h4⟩
theorem Xr {s:List UInt8} (h:(jl s).2.2=true) : mg (jl s).1=false:=by
 unfold mg
 unfold jl at h ⊢
 split at h
 ·rename_i h34
  rw[if_pos h34]
  rcases sW 34 (s.drop 1) with⟨e,_⟩ | ⟨a,b,e,_,_,hn⟩
  ·rw[e] at h; cases h
  ·rw[e] at h ⊢
   simp only at h ⊢
   unfold iE at h ⊢
   simp only[Bool.and_eq_true,List.all_eq_true] at h
   rw[h.2,Bool.and_true,Bool.not_eq_false',List.all_eq_true]
   intro c hc
   have h1:=h.1 c hc
   rw[BH] at h1
   unfold okB
   rw[h1,Bool.true_and,Bool.not_eq_true',decide_eq_false_iff_not,List.mem_singleton]
   rintro rfl
   exact hn hc
 ·rename_i h34
  rw[if_neg h34]
  split at h
  ·cases h
  ·rename_i hi
   rw[if_neg hi]
   simp only at h ⊢
   rw[h]; rfl
theorem Kl:∀ (k:Nat) (s:List UInt8) (acc vs:List (List UInt8)) (r:List UInt8),(∀ v∈acc,mg v=false)→iN k s acc=some (vs,r)→vs≠[]∧∀ v∈vs,mg v=false
 | 0,_,_,_,_,_,h=>by cases h
 | k + 1,s,acc,vs,r,ha,h=>by
   rw[iN] at h
   cases hv:jl (s.drop 1) with
   | mk v p =>
   obtain⟨after,ok⟩:=p
   rw[hv] at h
   simp only at h
   cases ok with
   | false=>simp at h
   | true =>
     have hb:mg v=false:=by
      have:=Xr (s:=s.drop 1) (by rw[hv])
      rw[hv] at this; exact this
     have ha' : ∀ w∈acc++[v],mg w=false:=fun w hw=>by
      rcases List.mem_append.1 hw with hw | hw
      ·exact ha w hw
      ·simp at hw; subst hw; exact hb
     simp only[if_true] at h
     split at h
     ·exact Kl k _ _ _ _ ha' h
     ·cases h
      exact⟨by simp,ha'⟩
theorem MZ:∀ (k:Nat) (s:List UInt8) (acc ps:List jh) (r:List UInt8),(∀ p∈acc,og eG p=true)→nD eG k s acc=some (ps,r)→∀ p∈ps,og eG p=true
 | 0,_,_,_,_,_,h=>by cases h
 | k + 1,s,acc,ps,r,ha,h=>by
   rw[nD] at h
   split at h
   ·split at h
    ·rename_i hg
     cases hv:iN ((s.drop 1).drop (wk (s.drop 1))).length ((s.drop 1).drop (wk (s.drop 1))) [] with
     | none=>rw[hv] at h; cases h
     | some x =>
       obtain⟨vs,s3⟩:=x
       rw[hv] at h
       simp only at h
       obtain⟨hne,hvs⟩:=Kl _ _ _ _ _ (by simp) hv
       refine MZ k _ _ _ _ (fun p hp=>?_) h
       rcases List.mem_append.1 hp with hp | hp
       ·exact ha p hp
       ·simp only[List.mem_singleton] at hp
        subst hp
        rw[Bool.and_eq_true] at hg
        unfold og
        have hl:¬ vs.length=0:=fun e=>hne (List.eq_nil_of_length_eq_zero e)
        have ha:vs.any mg=false:=by rw[List.any_eq_false]; exact fun v hv=>by rw[hvs v hv]; simp
        simp only[hg.1,ha,decide_eq_false hl]
        rfl
    ·cases h
   ·cases h; exact ha
theorem YP {s:List UInt8} {L:Ln} (h:SS s=some L) : ou eG L=true:=by
 rw[← KZ] at h
 unfold lN at h
 split at h
 ·cases hh:tZ eG s with
  | none=>rw[hh] at h; cases h
  | some x =>
    obtain⟨g,n,r⟩:=x
    rw[hh] at h
    simp only at h
    have hg:g=[]∨iP eG g=true:=by
     unfold tZ at hh
     split at hh
     ·split at hh
      ·rename_i hgn
       cases hh; exact .inr hgn
      ·cases hh
     ·cases hh; exact .inl rfl
    unfold Dz at h
    cases hp:rf eG r with
    | none=>rw[hp] at h; cases h
    | some y =>
      obtain⟨ps,q⟩:=y
      rw[hp] at h
      simp only at h
      split at h
      ·rename_i hc
       cases h
       have hps:=MZ _ _ _ _ _ (by simp) hp
       simp only[Bool.and_eq_true] at hc
       unfold ou
       simp only[hc.1.1,hc.2,Bool.not_true,Bool.or_false]
       rw[Bool.and_eq_true]
       refine⟨?_,by rw[List.all_eq_true]; exact hps⟩
       rcases hg with rfl | hg
       ·rfl
       ·rw[hg]; simp
      ·cases h
 ·cases h
theorem Jr {T bytes:Nat} {zs:List AV} {K:RB→(Nat→AV)→Prop} (h:K (.row [] false T 0) (fun b=>.slc b 0 0 (.ex 0))) : lX T bytes zs (N .i64 0) (N .i64 0) K :=
 ⟨.i64,.i64,0,0,rfl,rfl,by omega,by omega,by simp,by simp,h⟩
theorem NC (s:List UInt8) : (eY [] s).flatten.length≤s.length:=by
 have key:∀ (s cur:List UInt8),(eY cur s).flatten.length≤cur.length + s.length:=by
  intro s
  induction s with
  | nil=>intro cur; simp only[eY]; split <;> simp
  | cons c t ih =>
    intro cur
    simp only[eY]
    split
    ·have h1:=ih []
     have h2:=MM cur
     simp only[List.flatten_cons,List.length_append,List.length_cons,List.length_nil] at *
     omega
    ·have h1:=ih (cur++[c])
     simp only[List.length_append,List.length_cons,List.length_nil] at *
     omega
 simpa using key s []
theorem Be {x:List UInt8} {l:List (List UInt8)} (h:x∈l) : x.length≤l.flatten.length:=by
 induction l with
 | nil=>cases h
 | cons y l ih =>
   rw[List.flatten_cons,List.length_append]
   rcases List.mem_cons.1 h with rfl | h
   ·omega
   ·have:=ih h; omega
theorem Wo (s:List UInt8) (x:List UInt8) (hx:x∈eY [] s) : x.length≤s.length:=Nat.le_trans (Be hx) (NC s)
theorem I8 {l:List (List UInt8)} (h:l≠[]) {r:List UInt8} : (l.set (l.length - 1) (l[l.length - 1]'(by have:=List.length_pos_iff.2 h; omega)++r)).flatten=l.flatten++r:=by
 induction l with
 | nil=>exact absurd rfl h
 | cons y l ih =>
   cases l with
   | nil=>simp
   | cons z l =>
     have:=ih (by simp)
     simp only[List.length_cons,Nat.add_sub_cancel,List.set_cons_succ,List.getElem_cons_succ,List.flatten_cons] at this ⊢
     rw[this]; simp
theorem Mg {T TI:Nat} {cr:au} (hr:YA T cr) : sU T TI fun args M Q=>∃ a0,args=[a0]∧tC cr T TI a0 M Q:=by
 intro M s Q hl hQ
 refine⟨_,rfl, ?_⟩
 unfold tC
 simp only[dN,bL]
 refine hr hl fun r M1 hor k1=>?_
 refine Jr ?_
 rw[aG]
 refine Jr ?_
 rw[aG]
 have n1:=k1.next
 have hr1:=hor.jX
 have hv0:Ow gH ((M1.push (.row [] false T 0)).push (.row [] false TI 0)) M1.next T (.slc M1.next 0 0 (.ex 0)) []:=Own.keep (Ow.lit gH M1) ((ag.refl [] _).push _) (by simp)
 have hu0:Ow INT ((M1.push (.row [] false T 0)).push (.row [] false TI 0)) M1.next TI (.slc (M1.push (.row [] false T 0)).next 0 0 (.ex 0)) []:=Own.mono (Ow.lit INT _) (by simp[RM.push])
 have kk:ag [] M1 ((M1.push (.row [] false T 0)).push (.row [] false TI 0)):=((ag.refl _ _).push _).push _
 have hd0:∀ b∈aH (.slc M1.next 0 0 (.ex 0)),b ∉ aH (.slc (M1.push (.row [] false T 0)).next 0 0 (.ex 0)):=by
  intro b hb hb2; simp[aH,RM.push] at hb hb2; omega
 have hrl:=oQ s []
 have hsum:∀ x∈eY [] s,x.length≤s.length:=Wo s
 generalize (M1.push (.row [] false T 0)).push (.row [] false TI 0)=M2 at *
 generalize AV.slc M1.next 0 0 (.ex 0)=v0 at *
 generalize AV.slc (M1.push (.row [] false T 0)).next 0 0 (.ex 0)=u0 at *
 have hall:(eY [] s).flatten.length≤s.length:=NC s
 generalize eY [] s=xs at *
 refine aI (fun m ys M3=>∃ (i:Nat) (v u:AV) (acc:List (List UInt8)) (ns:List Int),m=xs.length - i∧ys=[v,u,N .i64 (i:Int)]∧i≤xs.length∧(acc=[]↔i=0)∧acc.length≤i∧ns.length≤i∧acc.flatten.length≤(xs.take i).flatten.length ∧
   Ow gH M3 M1.next T v acc∧Ow INT M3 M1.next TI u ns∧(∀ b∈aH v,b ∉ aH u)∧ag [] M1 M3∧iD acc ns ((i:Int) + 1) (xs.drop i)=iD [] [] 1 xs) _
  ⟨0,v0,u0,[],[],rfl,rfl,Nat.zero_le _,by simp,by simp,by simp,by simp,hv0,hu0,hd0,kk,rfl⟩ ?_
 rintro next m ys M3 hnext ⟨i,v,u,acc,ns,rfl,rfl,hi,hai,hal,hnl,hfl,hv,hu,hd,hK,hf⟩
 have hr3:=dE.keep hr1 hK (by simp)
 dsimp only[ae]
 rw[dE.len hr3,dO]
 refine aN (fun hlt=>?_) (fun hge=>?_)
 ·have hlt:i<xs.length:=by simpa using hlt
  obtain⟨b0,o0,hb0,_,hidx,hc⟩:=Sl.Hl (E:=gH) hr3 (i:Int) hlt
  have hc:=hc _ rfl
  have hxl:=hsum xs[i] (List.getElem_mem hlt)
  rw[List.drop_eq_getElem_cons hlt,iD] at hf
  have htk:=List.take_succ_eq_append_getElem hlt
  have htl:(xs.take (i + 1)).flatten.length≤xs.flatten.length:=by
   have:xs.flatten=(xs.take (i + 1)).flatten++(xs.drop (i + 1)).flatten:=by rw[← List.flatten_append,List.take_append_drop]
   rw[this]; simp
  rw[htk,List.flatten_append] at htl
  generalize xs[i]=line at *
  simp only[List.length_append,List.flatten_cons,List.flatten_nil,List.append_nil] at htl
  have w1:=eO (show i<9223372036854775807 by omega)
  have w2:IntKind.i64.wrap ((i:Int) + 1 + 1)=((i + 1:Nat) : Int) + 1:=by rw[mV (by omega) (by omega)]; omega
  rw[w2] at hf
  refine aW (fun zs M'=>∃ (v' u' : AV) (acc' : List (List UInt8)) (ns' : List Int),zs=[v',u']∧acc'≠[]∧acc'.length≤i + 1∧ns'.length≤i + 1∧acc'.flatten.length≤(xs.take (i + 1)).flatten.length∧Ow gH M' M1.next T v' acc'∧Ow INT M' M1.next TI u' ns'∧(∀ b∈aH v',b ∉ aH u')∧ag [] M1 M' ∧
    iD acc' ns' (((i + 1:Nat) : Int) + 1) (xs.drop (i + 1))=iD [] [] 1 xs) ?_ ?_
  ·rintro _ M4 ⟨v',u',acc',ns',rfl,h1,h2,h3,h4,h5,h6,h7,h8,h9⟩
   dsimp only[ae]
   rw[bE,w1]
   exact hnext _ _ _ (by omega) ⟨i + 1,v',u',acc',ns',rfl,rfl,by omega,by simp[h1],h2,h3,h4,h5,h6,h7,h8,h9⟩
  ·intro J hJ
   rw[hidx,bT]
   refine⟨_,hc, ?_⟩
   have app:¬ (acc≠[]∧isSp line=true)→bM T 1 [St []] [(0,1,St line)] fun r f=>aO r f M3 fun t56 Ye=>appW T 1 16 [St []] false v t56 Ye fun t57 aeS =>
     af .add (N .i64 (i:Int)) (N .i64 1) fun t60=>bM TI 1 [N .i64 0] [(0,1,t60)] fun afv afU=>aO afv afU aeS fun t61 Ub=>appW TI 1 8 [N .i64 0] false u t61 Ub fun t62 afS=>J [t57,t62] afS:=fun hg=>by
    rw[if_neg hg] at hf
    refine JH hv hK.next (by omega) fun v' M4 h4 k4 hv'=>?_
    have hu4:Ow INT M4 M1.next TI u ns:=Own.keep hu k4 (fun b hb hb'=>hd b hb' hb)
    have hK4:ag [] M1 M4:=hK.dH k4 fun c hc=>.inl (hv.blk c hc).1
    have hd4:∀ b∈aH v',b ∉ aH u:=fun b hb hb'=>by
     rcases hv' with rfl | hv'
     ·exact hd b hb hb'
     ·have h1:=hv' b hb
      have h2:=(hu.blk b hb').2
      omega
    rw[bE,w1]
    refine aak hu4 hK4.next (by omega) fun u' M5 h5 k5 hu'=>?_
    have hv5:Ow gH M5 M1.next T v' (acc++[line]):=Own.keep h4 k5 hd4
    have hd5:∀ b∈aH v',b ∉ aH u':=fun b hb hb'=>by
     rcases hu' with rfl | hu'
     ·exact hd4 b hb hb'
     ·have h1:=hu' b hb'
      have h2:=(h4.blk b hb).2
      omega
    refine hJ _ _ ⟨v',u',acc++[line],ns++[((i + 1:Nat) : Int)],rfl,by simp,by simp; omega,by simp; omega,by rw[htk,List.flatten_append,List.flatten_append]; simp only[List.length_append,List.flatten_cons,List.flatten_nil,List.append_nil]; omega,hv5,h5,hd5,hK4.dH k5 fun c hc=>.inl (hu4.blk c hc).1, ?_⟩
    rw[← hf,glue,if_neg hg]; rfl
   rw[gV]
   by_cases ha:acc=[]
   ·have hi0:i=0:=hai.1 ha
    rw[show decide ((i:Int) > 0)=false by simp; omega]
    simp only[gP,bV,bU,dF,cz,dh,dJ,bC,bq]
    exact app (by simp[ha])
   have hi1:1≤i:=by
    rcases Nat.eq_zero_or_pos i with h | h
    ·exact absurd (hai.2 h) ha
    ·exact h
   rw[show decide ((i:Int) > 0)=true by simp; omega,bV,bi,gV]
   dsimp only
   rw[dh]
   cases line with
   | nil =>
     rw[show decide (((([] : List UInt8).length:Nat) : Int) > 0)=false from rfl]
     simp only[gP,bV,bU,dF,cz,dh,dJ,bC,bq]
     exact app (by simp[isSp])
   | cons c r =>
   rw[show decide ((((c :: r).length:Nat) : Int) > 0)=true by simp,bV,J6,bH]
   dsimp only
   have hap:=List.length_pos_iff.2 ha
   have set:isSp (c :: r)=true→∀ K:AV→RM→Prop,True→(cK v fun t42=>af .sub t42 (N .i64 1) fun t43=>cK v fun t46=>af .sub t46 (N .i64 1) fun t47=>aM v t47 1 fun t48=>ah M3 t48 fun t49 =>
     bP (aR (St (c :: r)) (some (N .i64 1)) none) fun t51=>aX .add t49 t51 fun t52=>aM v t43 1 fun t53=>aC M3 t53 t52 1 fun Y2=>J [v,u] Y2):=fun hsp _ _=>by
    rw[if_pos ⟨ha,hsp⟩] at hf
    have hlv:=dE.len hv.jX (K:=fun t42=>af .sub t42 (N .i64 1) fun t43=>cK v fun t46=>af .sub t46 (N .i64 1) fun t47=>aM v t47 1 fun t48=>ah M3 t48 fun t49 =>
     bP (aR (St (c :: r)) (some (N .i64 1)) none) fun t51=>aX .add t49 t51 fun t52=>aM v t43 1 fun t53=>aC M3 t53 t52 1 fun Y2=>J [v,u] Y2)
    rw[hlv,gB,dE.len hv.jX,gB]
    have wl:IntKind.wrap .i64 ((acc.length:Int) - 1)=((acc.length - 1:Nat) : Int):=by rw[mV (by omega) (by omega)]; omega
    rw[wl]
    obtain⟨b,rfl,hrw,hb⟩:=aal hv ha
    have hld:=hrw.ah (i:=acc.length - 1) (by omega)
    have Q9:acc.getD (acc.length - 1) []=acc[acc.length - 1]'(by omega):=by
     rw[List.getD_eq_getElem?_getD,List.getElem?_eq_getElem (by omega)]; rfl
    have uj:∀ K:AV→Prop,aM (.slc b 0 acc.length (.op 1)) (N .i64 ((acc.length - 1:Nat) : Int)) 1 K=K (.ptr b (acc.length - 1)):=fun K=>by
     rw[qK]
     simp only[Int.toNat_natCast,Nat.mul_one,Nat.zero_add]
     exact propext ⟨fun h=>h.2.2,fun h=>⟨by omega,by omega,h⟩⟩
    have hxa:(acc[acc.length - 1]'(by omega)).length≤acc.flatten.length:=Be (List.getElem_mem _)
    have hxa2:acc.flatten.length≤s.length:=by omega
    rw[uj,bT]
    refine⟨_,hld, ?_⟩
    rw[show aR (St (c :: r)) (some (N .i64 1)) none=some (St r) from bB (s:=c :: r) (l:=1) (by simp) .i64,bK,bI]
    have hlr:r.length≤s.length:=by simp at hxl; omega
    refine⟨by omega, ?_⟩
    obtain⟨hst,QM⟩:=hrw.Jw (i:=acc.length - 1) (by omega) (acc.getD (acc.length - 1) []++r)
    rw[Q9] at hst QM
    rw[uj,vY]
    refine⟨rfl,_,hst, ?_⟩
    have hv4:=ZT QM hb
    rw[List.length_set] at hv4
    have hkp:ag [b] M3 (M3.put b (.row (gH.row (acc.set (acc.length - 1) (acc[acc.length - 1]'(by omega)++r))) true T 0)):=(ag.refl _ _).put _ (.inr (by simp))
    refine hJ _ _ ⟨_,u,_,ns,rfl, ?_,by rw[List.length_set]; omega,by omega, ?_,hv4,Own.keep hu hkp ?_,hd,hK.put _ (.inl hb), ?_⟩
    ·intro e
     have:=congrArg List.length e
     rw[List.length_set,List.length_nil] at this
     omega
    ·rw[htk,List.flatten_append,I8 ha]
     simp only[List.length_append,List.flatten_cons,List.flatten_nil,List.append_nil,List.length_cons]
     omega
    ·intro b' hb' hm
     have:b'=b:=by simpa using hm
     subst this
     exact hd b' (by simp[aH]) hb'
    ·rw[← hf,glue,if_pos ⟨ha,hsp⟩,Q9]; rfl
   by_cases h32:c.toNat=32
   ·rw[show((c.toNat:Int) == 32)=true by simp[h32]]
    simp only[gP,bV,bU,dF,cz,dh,dJ,bC,bq]
    exact set (by simp[isSp,h32]) (fun _ _=>True) trivial
   ·rw[show((c.toNat:Int) == 32)=false by simp; omega]
    simp only[gP,bV,bU,dF,cz,dh,dJ,bC,bq,J6,bH]
    by_cases h9:c.toNat=9
    ·rw[show((c.toNat:Int) == 9)=true by simp[h9],bC]
     exact set (by simp[isSp,h9]) (fun _ _=>True) trivial
    ·rw[show((c.toNat:Int) == 9)=false by simp; omega,bq]
     exact app (by simp[isSp,h32,h9])
 ·have hge:i=xs.length:=by simp at hge; omega
  subst hge
  rw[List.drop_length,iD] at hf
  refine hQ v u M3 (by rw[← hf]; exact Own.mono hv n1) (by rw[← hf]; exact Own.mono hu n1) hd (k1.trans hK)
def P8 (TL:Nat) (c:au) : Prop:=∀ {M:RM} {s:List UInt8} {Q:ak},s.length≤100000000 →
 (∀ v M' ls n0,ag [] M M'→Ba eG s=.ok ls→M.next≤n0→eX gq M' n0 TL v ls (fun b=>n0≤b)→ls.length≤s.length + 1→Q (.tup [v,N .i64 0,N .i64 0]) M') →
 (∀ M' k e,ag [] M M'→Ba eG s=.bad k e→Q (.tup [aJ,N .i64 k,N .i64 e]) M')→c [St s] M Q
theorem NW {T TI TL:Nat} {cu cr:au} (hu:sU T TI cu) (hr:ZF cr) : P8 TL fun args M Q=>∃ a0,args=[a0]∧yH cu TL cr a0 M Q:=by
 intro M s Q hl hS hN
 refine⟨_,rfl, ?_⟩
 unfold yH
 simp only[dN,bL]
 refine hu (by omega) fun v u M1 ho1 ho2 hd k1=>?_
 have s1:=ho1.jX
 have s2:=ho2.jX
 have hlen:=DC (eY [] s) [] [] 1 rfl
 have hle:=Gj (eY [] s) [] [] 1
 have hrl:=oQ s []
 simp only[List.length_nil,Nat.zero_add] at hle
 unfold Ba Qs at hS hN
 generalize (iD [] [] 1 (eY [] s)).1=xs at *
 generalize (iD [] [] 1 (eY [] s)).2=ns at *
 rw[cO,df]
 refine Jr ?_
 rw[aG]
 have how:eX gq (M1.push (.row [] false TL 0)) M1.next TL (.slc M1.next 0 0 (.ex 0)) [] (fun _=>False):=⟨[],Own.lit M1 (Nat.le_refl _),.nil⟩
 have kk:ag [] M1 (M1.push (.row [] false TL 0)):=(ag.refl _ _).push _
 generalize AV.slc M1.next 0 0 (.ex 0)=w0 at *
 generalize M1.push (.row [] false TL 0)=M2 at *
 refine aI (fun m ys M3=>∃ (i:Nat) (w:AV) (acc:List (Ln × Int)),m=xs.length - i∧ys=[w,N .i64 i]∧i≤xs.length∧acc.length≤i∧ag [] M1 M3 ∧
   eX gq M3 M1.next TL w acc (fun b=>M1.next≤b∧b<M3.next∧b ∉ aH w)∧gI eG ((xs.zip ns).drop i) acc=gI eG (xs.zip ns) []) _
  ⟨0,w0,[],rfl,rfl,Nat.zero_le _,Nat.le_refl _,kk,how.mono (fun _ h=>h.elim),rfl⟩ ?_
 rintro next m ys M3 hnext ⟨i,w,acc,rfl,rfl,hi,hal,hK,ho,hp⟩
 have t1:=dE.keep s1 hK (by simp)
 have t2:=dE.keep s2 hK (by simp)
 dsimp only[ae]
 rw[dE.len t1,dO]
 refine aN (fun hlt=>?_) (fun hge=>?_)
 ·have hlt:i<xs.length:=by simpa using hlt
  have hz:(xs.zip ns).drop i=(xs[i],ns[i]'(by omega)) :: (xs.zip ns).drop (i + 1):=by
   rw[List.drop_eq_getElem_cons (by simp; omega)]; simp
  rw[hz,gI,KZ] at hp
  refine aW (fun zs M'=>∃ (w' : AV) (acc' : List (Ln × Int)),zs=[w']∧acc'.length≤i + 1∧ag [] M1 M'∧eX gq M' M1.next TL w' acc' (fun b=>M1.next≤b∧b<M'.next∧b ∉ aH w')∧gI eG ((xs.zip ns).drop (i + 1)) acc'=gI eG (xs.zip ns) []) ?_ ?_
  ·rintro _ M4 ⟨w',acc',rfl,h1,h2,h3,h4⟩
   dsimp only[ae]
   rw[bE,eO (by omega)]
   exact hnext _ _ _ (by omega) ⟨i + 1,w',acc',rfl,rfl,by omega,h1,h2,h3,h4⟩
  ·intro J hJ
   obtain⟨b,o,hb,hbm,hidx,hc⟩:=Sl.Hl (E:=gH) t1 (i:Int) hlt
   have hc:=hc _ rfl
   rw[hidx,bT]
   refine⟨_,hc, ?_⟩
   obtain⟨b2,o2,hb2,afM,uj,hc2⟩:=Sl.Hl (E:=INT) t2 (i:Int) (show i<ns.length by omega)
   have hc2:=hc2 _ rfl
   generalize hxi:xs[i]=x at *
   generalize hni:ns[i]'(by omega)=k at *
   rw[bi,gV]
   refine aN (fun hg=>?_) (fun hg=>?_)
   ·have hg:912<x.length:=by simp at hg; omega
    have hne:¬ x=[]:=by intro e; subst e; simp at hg
    rw[if_neg hne,if_pos hg] at hp
    rw[uj,bT]
    exact⟨_,hc2,hN M3 k 2 (k1.trans hK) hp.symm⟩
   ·have hg:¬ 912<x.length:=by simp at hg; omega
    rw[hidx,bT]
    refine⟨_,hc, ?_⟩
    rw[dm]
    refine aN (fun he=>?_) (fun hne=>?_)
    ·have he:x=[]:=by simpa using he
     rw[if_pos he] at hp
     exact hJ _ _ ⟨w,acc,rfl,by omega,hK,ho,hp⟩
    ·have hne:¬ x=[]:=by simpa using hne
     rw[if_neg hne,if_neg hg] at hp
     rw[hidx,bT]
     refine⟨_,hc, ?_⟩
     refine hr (by omega) ?_ ?_
     ·intro cs M4 k4 hrd hcs hall
      rw[hrd] at hp
      rw[cO,df,aG,bY (n:=5) (x:=.agg cs) (l:=lz) (RM.aV _) hcs rfl hall,bX,Bool.not_false,bC,uj,bT]
      have kk:ag [] M3 ((M4.push (.row lz false TL 0)).put M4.next (.row cs false TL 0)):=(k4.push _).new _ k4.next
      exact⟨_,(kk.cell hb2 (by simp)).trans hc2,hN _ k 3 ((k1.trans hK).trans kk) hp.symm⟩
     ·intro cs M4 L k4 hrd hrel
      rw[hrd] at hp
      obtain⟨pv,rfl,hpv⟩:=hrel
      simp only at hpv hp
      have Zo:([St L.g,St L.n,pv,St L.v,N .i64 0] : List AV).all oneCell=true:=by simp[eu,hpv.one]
      have Yn:([St L.g,St L.n,pv,St L.v,N .i64 k] : List AV).all oneCell=true:=by simp[eu,hpv.one]
      rw[cO,df,aG,bY (n:=5) (x:=.agg [St L.g,St L.n,pv,St L.v,N .i64 0]) (l:=lz) (RM.aV _) rfl rfl Zo,bX,Bool.not_true,bq,uj,bT]
      have k45:ag [] M4 (((M4.push (.row lz false TL 0)).put M4.next (.row [St L.g,St L.n,pv,St L.v,N .i64 0] false TL 0)).put M4.next (.row [St L.g,St L.n,pv,St L.v,N .i64 k] false TL 0)) :=
       (((ag.refl _ _).push _).new _ (Nat.le_refl _)).new _ (Nat.le_refl _)
      have k4' : ag [] M3 ((M4.push (.row lz false TL 0)).put M4.next (.row [St L.g,St L.n,pv,St L.v,N .i64 0] false TL 0)):=(k4.push _).new _ k4.next
      refine⟨_,(k4'.cell hb2 (by simp)).trans hc2, ?_⟩
      rw[aT,bQ [St L.g,St L.n,pv,St L.v,N .i64 k] (aB _) (by simp[AV.cells]) rfl rfl rfl,aP (n:=5) (aB _) rfl,gD (x:=.agg [St L.g,St L.n,pv,St L.v,N .i64 k]) (size:=5) rfl Yn rfl,aG]
      have n4:=k4.next
      have n3:=hK.next
      have hvl:=ho.blk
      let S' : Nat→Prop:=fun b=>M1.next≤b∧b<M4.next + 1∧b ∉ aH w
      have ho5:=(ho.keep (k4.trans k45) (by simp) (by simp)).mono (S':=S') fun b h=>⟨h.1,by omega,h.2.2⟩
      have hel:=(show gq.rel _ _ (L,k) _ from⟨pv,rfl,(hpv.lt.keep k45 (by simp)).mono (S':=S') fun b h=>⟨by omega,by omega,fun hb=>by have:=(hvl b hb).2; omega⟩⟩)
      refine eX.app (R:=gq) ho5 hel (show M1.next≤M4.next + 1 by omega) (by decide) (fun b hb h=>h.2.2 hb) (fun b h=>(show b<M4.next + 1 from h.2.1)) (by omega) (by omega) ?_
      intro w' M6 o6 k6 n6 _ hd6
      have n6:M4.next + 1≤M6.next:=n6
      refine hJ _ _ ⟨w',acc++[(L,k)],rfl,by simp; omega, ?_,o6.mono fun b h=>⟨h.1,by have:=h.2.1; omega,fun hb=>hd6 b hb h⟩,hp⟩
      exact(hK.trans (k4.trans k45)).dH k6 fun c hc=>.inl (hvl c hc).1
 ·have hge:i=xs.length:=by simp at hge; omega
  subst hge
  rw[List.drop_of_length_le (by simp; omega)] at hp
  exact hS w M3 acc M1.next (k1.trans hK) hp.symm k1.next (ho.mono (fun b h=>h.1)) (by omega)
def KE (f:List UInt8→List UInt8) (s:List UInt8) : List (Ln × Int) × Int × Int:=match Ba f s with
 | .ok ls=>(ls,0,0)
 | .bad k e=>([],k,e)
def af8 (B:Base) (f:List UInt8→List UInt8) (c:au) : Prop:=∀ {M:RM} {s:List UInt8} {Q:ak},M.base=B→s.length≤100000000 →
 (∀ v M',ag [] M M'→cB gq M' v (KE f s).1 (fun b=>M.next≤b)→(KE f s).1.length≤s.length + 1→(∀ x∈(KE f s).1,Small 912 x.1)→Q (.tup [v,N .i64 (KE f s).2.1,N .i64 (KE f s).2.2]) M')→c [St s] M Q
theorem xP.one {B:Base} {f:List UInt8→List UInt8} {c:au} (h:xP B f c) : af8 B f c:=by
 intro M s Q hM hl hQ
 refine h hM hl ?_ ?_
 ·intro v M' ls k hls hsl hle
  have e:KE f s=(ls,0,0):=by unfold KE; rw[hls]
  rw[e] at hQ
  exact hQ v M' k hsl hle (wW _ _ _ (by simp) hls)
 ·intro M' k e kk hb
  have he:KE f s=([],k,e):=by unfold KE; rw[hb]
  rw[he] at hQ
  exact hQ aJ M' kk cB.nil (by simp) (by simp)
theorem Xy (v:List UInt8) : (qv v).length≤v.length + 2:=by
 unfold qv; split
 ·simp
 ·omega
end Go.Ab.Vl
namespace Go.Ab.Vl
open Go Go.Ab Go.Ab.Sm
theorem LB.mono {N K:Nat} {L:Ln} (h:LB N L) (hk:N≤K) : LB K L :=
 ⟨Nat.le_trans h.g hk,Nat.le_trans h.n hk,Nat.le_trans h.v hk,Nat.le_trans h.ps hk,fun p hp=>Nat.le_trans (h.pn p hp) hk,fun p hp=>Nat.le_trans (h.pl p hp) hk,fun p hp v hv=>Nat.le_trans (h.pv p hp v hv) hk⟩
end Go.Ab.Vl
