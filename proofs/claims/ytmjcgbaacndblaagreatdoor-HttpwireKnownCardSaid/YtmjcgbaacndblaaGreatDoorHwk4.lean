/- Part 4 of the ground of the proofs of this seat (texts H5 to R27). By an AI agent. -/
import Derived.Test.YtmjcgbaacndblaaGreatDoorHwk3
import Derived.Lib.SplitLaws
import Derived.Laws.AppendOwn
import Derived.HandedShaped
set_option maxRecDepth 10000
set_option linter.unusedVariables false
set_option linter.unusedSimpArgs false
namespace Go.Ab.Hw
open Go Go.Ab Go.Ab.Sm
theorem ae.own {bs:List Nat} {M M1 M2:RM} {v:AV} (k1:ae bs M M1) (k2:ae (aN v) M1 M2) (hv:∀ b∈aN v,M.next≤b) : ae bs M M2 :=
 ⟨k2.base.trans k1.base,Nat.le_trans k1.next k2.next,fun x hx hb=>by
  rw[k2.heap x (Nat.lt_of_lt_of_le hx k1.next) (fun h=>by have:=hv x h; omega),k1.heap x hx hb]⟩
def dC:Nat→Str→Str→Except Nat (Str × Str)
 | 0,_,_=>.error 99
 | f + 1,r,out=>match nN r with
   | .error e=>.error e
   | .ok (n,r1)=>match Nat.blt (16384 - out.length) n with
     | true=>.error 2
     | false=>match Nat.blt r1.length (n + 2) with
       | true=>.error 15
       | false=>match (r1.drop n).take 2 == [13,10] with
         | false=>.error 14
         | true=>match Nat.beq n 0 with
           | true=>.ok (out,r1.drop 2)
           | false=>dC f (r1.drop (n + 2)) (out++r1.take n)
theorem Au {a b:Nat} (h:a<b) : Nat.blt a b=true:=by rw[Nat.blt_eq]; exact h
theorem l9 {a b:Nat} (h:¬ a<b) : Nat.blt a b=false:=by
 cases e:Nat.blt a b
 ·rfl
 ·rw[Nat.blt_eq] at e; exact absurd e h
theorem NG {n:Nat} (h:n≠0) : Nat.beq n 0=false:=by cases n <;> first | exact absurd rfl h | rfl
theorem I4 {r r1:Str} {n:Nat} (h:nN r=.ok (n,r1)) : r1.length + 2<r.length:=by
 unfold nN at h
 split at h
 ·split at h <;> cases h
 ·rename_i p hp
  obtain⟨a,q⟩:=p
  have:=(pY hp).2
  split at h
  ·rename_i hk
   cases h
   unfold nW iL at hk
   simp only[Bool.and_eq_true,decide_eq_true_eq] at hk
   show q.length + 2<r.length
   omega
  ·cases h
theorem vY:∀ (f g:Nat) (r out:Str),r.length<f→r.length<g→dC f r out=dC g r out
 | 0,_,_,_,h,_=>absurd h (by omega)
 | _,0,_,_,_,h=>absurd h (by omega)
 | f + 1,g + 1,r,out,h1,h2=>by
   rw[dC,dC]
   cases hs:nN r with
   | error e=>rfl
   | ok p =>
     obtain⟨n,r1⟩:=p
     have:=I4 hs
     dsimp only
     repeat' split
     all_goals first | rfl | skip
     exact vY f g _ _ (by simp; omega) (by simp; omega)
def yM (B:Base) (T:Nat) (c:ai) : Prop:=∀ {M:RM} {v:AV} {b:Str} {at' : Nat} {Q:ah},M.base=B→Bs M v b→at'≤b.length→b.length≤1000000000 →
 (∀ out r at2 ov M',dC (b.length - at' + 1) (b.drop at') []=.ok (out,r)→at2≤b.length→at'≤at2→b.drop at2=r→out.length≤16384→ae [] M M'→Ow BY M' M.next T ov out→Q (.tup [ov,N .i64 (at2:Int),N .i64 0]) M') →
 (∀ (e:Nat) M',dC (b.length - at' + 1) (b.drop at') []=.error e→(e=14∨e=15∨e=2)→ae [] M M'→Q (.tup [aH,N .i64 0,N .i64 (e:Int)]) M')→c [v,N .i64 (at' : Int)] M Q
theorem Ec {B:Base} {T:Nat} {cs:ai} (hs:IU B cs) : yM B T fun args M Q=>∃ a0 a1,args=[a0,a1]∧jQ cs T a0 a1 M Q:=by
 intro M v b at0 Q hB hv h0 hl hQ hE
 refine⟨_,_,rfl, ?_⟩
 unfold jQ
 generalize hr0:dC (b.length - at0 + 1) (b.drop at0) []=target at *
 refine dW (fun m ys M3=>∃ (at' : Nat) (ov:AV) (out:Str),ys=[N .i64 (at' : Int),ov]∧at'≤b.length∧at0≤at'∧m=b.length - at'∧out.length≤16384∧Ow BY M3 M.next T ov out∧ae [] M M3∧dC (m + 1) (b.drop at') out=target) _
  ⟨at0,aH,[],rfl,h0,Nat.le_refl _,rfl,by simp,.nil,ae.refl _ _,hr0⟩ ?_
 rintro next m ys M3 hnext ⟨at',ov,out,rfl,h1,h2,rfl,hol,hO,k3,heq⟩
 simp only[bE,df]
 have hv3:=hv.keep k3 (by simp)
 refine hs (k3.base.trans hB) hv3 h1 hl (fun n r at2 M4 e4 a1 a2 hr hn k4=>?_) (fun e M4 e4 he k4=>?_)
 rotate_left
 ·simp only[aT,aU,dG,iE]
  rw[show(((e:Nat) : Int) != 0)=true by rcases he with rfl | rfl <;> rfl,bR]
  refine hE e M4 ?_ (by omega) (k3.trans k4)
  rw[← heq,dC,e4]
 simp only[aT,aU,dG,yZ,bf]
 have hO4:Ow BY M4 M.next T ov out:=hO.keep k4 (by simp)
 have k34:=k3.trans k4
 have hv4:=hv3.keep k4 (by simp)
 rw[hO4.ol.len,show(N .i64 16384)=N .i64 ((16384:Nat) : Int) from rfl,Gv hol (by omega),IM]
 have hrl:r.length=b.length - at2:=by rw[← hr]; simp
 refine dL (fun h=>?_) fun h=>?_
 ·have h:16384 - out.length<n:=by simpa using h
  refine hE 2 M4 ?_ (by omega) k34
  rw[← heq,dC,e4]
  simp only[Au h]
 have hf1:¬ 16384 - out.length<n:=by simpa using h
 rw[show(N .i64 2)=N .i64 ((2:Nat) : Int) from rfl,addN (by omega),hv4.len,Gv a1 (by omega),IM]
 refine dL (fun h=>?_) fun h=>?_
 ·have h:b.length - at2<n + 2:=by simpa using h
  refine hE 15 M4 ?_ (by omega) k34
  rw[← heq,dC,e4]
  simp only[l9 hf1,hrl,Au h]
 have hf2:¬ b.length - at2<n + 2:=by simpa using h
 simp only[addN (show at2 + n<4611686018427387904 by omega),addN (show at2 + n + 2<4611686018427387904 by omega)]
 refine hv4.sub (kI _ _ _) (kI _ _ _) (by omega) (by omega) fun v5 hv5 _=>?_
 have hdr:(b.drop (at2 + n)).take (at2 + n + 2 - (at2 + n))=(r.drop n).take 2:=by
  rw[← hr,List.drop_drop,show at2 + n + 2 - (at2 + n)=2 by omega]
 rw[hdr] at hv5
 rw[hv5.str,yH]
 cases he2:(r.drop n).take 2 == [13,10] with
 | false =>
   rw[show((r.drop n).take 2 != [13,10])=true by unfold bne; rw[he2]; rfl,bR]
   refine hE 14 M4 ?_ (by omega) k34
   rw[← heq,dC,e4]
   simp only[l9 hf1,hrl,l9 hf2,he2]
 | true =>
   rw[show((r.drop n).take 2 != [13,10])=false by unfold bne; rw[he2]; rfl,bf]
   rw[show(N .i64 0)=N .i64 ((0:Nat) : Int) from rfl,Qt]
   refine dL (fun h=>?_) fun h=>?_
   ·have h0:n=0:=by simpa using h
    subst h0
    refine hQ out (r.drop 2) (at2 + 0 + 2) ov M4 ?_ (by omega) (by omega) ?_ hol k34 hO4
    ·rw[← heq,dC,e4]
     simp only[l9 hf1,hrl,l9 hf2,he2]
     try rfl
    ·rw[← hr,List.drop_drop,Nat.add_zero]
   ·have hn0:n≠0:=by simpa using h
    refine hv4.sub (kI _ _ _) (kI _ _ _) (by omega) (by omega) fun v6 hv6 hsub6=>?_
    have htk:(b.drop at2).take (at2 + n - at2)=r.take n:=by rw[hr,Nat.add_sub_cancel_left]
    rw[htk] at hv6
    have htl:(r.take n).length=n:=by simp; omega
    refine pg (E:=BY) hO4 k34.next (by decide) hv6.sl (by rw[htl]; omega) (by rw[htl]; omega) fun v7 M7 o7 k7 _ _=>?_
    refine hnext _ _ _ (show b.length - (at2 + n + 2)<b.length - at' by omega) ⟨at2 + n + 2,v7,out++r.take n,rfl,by omega,by omega,rfl,by rw[List.length_append,htl]; omega,o7,ae.own k34 k7 (fun x hx=>(hO4.blk x hx).1), ?_⟩
    have hd:b.drop (at2 + n + 2)=r.drop (n + 2):=by rw[← hr,List.drop_drop,Nat.add_assoc]
    rw[← heq,hd]
    conv=>rhs; rw[dC,e4]
    simp only[l9 hf1,hrl,l9 hf2,he2,NG hn0]
    exact vY _ _ _ _ (by simp; omega) (by simp; omega)
end Go.Ab.Hw
set_option maxRecDepth 100000
namespace Go.Ab.Dot
open Go Go.Ab
def qF (p1:Nat) (a0:AV) (M0:RM) (Q:ah) : Prop:=fU false 2 a0 (.sc (.slice none 0 0)) fun h=>ak h ( Q (.sc (.slice none 0 0)) M0) ( bX p1 0 [(N .u8 0)] [] fun g e=>aV g e M0 fun i c=>appW p1 1 1 [(N .u8 0)] false i a0 c fun j d=>Q j d)
end Go.Ab.Dot
set_option maxRecDepth 10000
namespace Go.Ab.Hw
open Go Go.Ab Go.Ab.Sm
def DT (T:Nat) (c:ai) : Prop:=∀ {M:RM} {v:AV} {s:Str} {Q:ah},Sl BY M v s→s.length≤1000000000→(∀ v' M',Ow BY M' M.next T v' s→ae [] M M'→Q v' M')→c [v] M Q
theorem Hl {T:Nat} : DT T fun args M Q=>∃ a0,args=[a0]∧Go.Ab.Dot.qF T a0 M Q:=by
 intro M v s Q hv hl hQ
 refine⟨_,rfl, ?_⟩
 unfold Go.Ab.Dot.qF
 rcases aL.sW hv false with⟨rfl,he⟩ | ⟨hne,he⟩
 ·rw[he,show(!false)=true from rfl,bR]
  have:s=[]:=by
   unfold Sl at hv
   cases s with
   | nil=>rfl
   | cons x s=>generalize hcs:BY.row (x :: s)=cs at *; generalize hn:(x :: s).length=n at *; cases hv; cases hcs
  subst this
  exact hQ aH M .nil (ae.refl _ _)
 ·rw[he,bf,Iu]
  simp only[aS]
  have k1:ae [] M (M.push (.row [] false T 0)):=(ae.refl _ _).push _
  refine pg (E:=BY) (Ow.lit BY M) (by simp[RM.push]) (by decide) (aL.keep hv k1 (by simp)) (by simp; omega) (by simp; omega) fun v7 M7 o7 k7 _ _=>?_
  refine hQ v7 M7 (by simpa using o7) ?_
  refine ae.own k1 k7 (fun b hb=>?_)
  simp[aN] at hb; omega
abbrev CV:Str:=[116,114,97,110,115,102,101,114,45,101,110,99,111,100,105,110,103]
abbrev CL:Str:=[99,111,110,116,101,110,116,45,108,101,110,103,116,104]
abbrev CO:Str:=[99,104,117,110,107,101,100]
def wY (v:Str) : Bool:=iL v 1 9 && v.all dD
def Bg (r:Str) (l:List Hd) : Except Nat (Str × Str):=match bT l CV with
 | x :: xs=>match xs with
   | _ :: _=>.error 14
   | []=>match low x == CO with
     | false=>.error 14
     | true=>match bT l CL with
       | _ :: _=>.error 14
       | []=>dC (r.length + 1) r []
 | []=>match bT l CL with
   | []=>.ok ([],r)
   | v :: vs=>match vs with
     | _ :: _=>.error 14
     | []=>match wY v with
       | false=>.error 14
       | true=>match Nat.blt 16384 (jk v) with
         | true=>.error 2
         | false=>match Nat.blt r.length (jk v) with
           | true=>.error 15
           | false=>.ok (r.take (jk v),r.drop (jk v))
def DK (B:Base) (T:Nat) (c:ai) : Prop:=∀ {M:RM} {v hv:AV} {b:Str} {l:List Hd} {at' : Nat} {Q:ah},M.base=B→Bs M v b→at'≤b.length→b.length≤1000000000→Sl HD M hv l→l.length≤1000000→(∀ h∈l,h.1.length<4611686018427387904∧h.2.length<4611686018427387904) →
 (∀ out r at2 ov M',Bg (b.drop at') l=.ok (out,r)→at2≤b.length→at'≤at2→b.drop at2=r→out.length≤16384→ae [] M M'→Ow BY M' M.next T ov out→Q (.tup [ov,N .i64 (at2:Int),N .i64 0]) M') →
 (∀ (e:Nat) M',Bg (b.drop at') l=.error e→(e=14∨e=15∨e=2)→ae [] M M'→Q (.tup [aH,N .i64 0,N .i64 (e:Int)]) M')→c [v,N .i64 (at' : Int),hv] M Q
theorem Kc {l:List Hd} {n s:Str} (h:s∈bT l n) : ∃ x∈l,x.2=s:=by
 unfold bT at h
 rw[List.mem_map] at h
 obtain⟨x,hx,e⟩:=h
 exact⟨x,(List.mem_filter.1 hx).1,e⟩
theorem DZ:∀ (s:Str) (n:Nat),s.all dD=true→s.foldl (fun n x=>n * 10 + (x.toNat - 48)) n<(n + 1) * 10 ^ s.length
 | [],n,_=>by simp
 | x :: s,n,h=>by
   simp only[List.all_cons,Bool.and_eq_true] at h
   have hd:x.toNat - 48<10:=by
    have:=h.1
    unfold dD at this
    simp only[Bool.and_eq_true,decide_eq_true_eq] at this
    omega
   have:=DZ s (n * 10 + (x.toNat - 48)) h.2
   rw[List.foldl_cons]
   refine Nat.lt_of_lt_of_le this ?_
   rw[List.length_cons,Nat.pow_succ,Nat.mul_comm (10 ^ s.length) 10,← Nat.mul_assoc]
   exact Nat.mul_le_mul_right _ (by omega)
theorem ME {s:Str} (h:s.all dD=true) (hl:s.length≤9) : jk s<1000000000:=by
 have:=DZ s 0 h
 unfold jk
 refine Nat.lt_of_lt_of_le this ?_
 rw[Nat.zero_add,Nat.one_mul]
 exact Nat.le_trans (Nat.pow_le_pow_right (by decide) hl) (by decide)
theorem JB {B:Base} {T TS g:Nat} {cn cs cc cw ca ci cl:ai} (hn:Bd TS cn) (hs:yG cs) (hc:yM B T cc) (hw:oW cw) (ha:kJ dD (.fn (.func g) [] []) ca) (hi:Hq ci) (hcl:DT T cl) :
  DK B T fun args M Q=>∃ a0 a1 a2,args=[a0,a1,a2]∧mo cn cs cc cw ca g ci cl a0 a1 a2 M Q:=by
 intro M v hv b l at' Q hB hb h1 hl hh hll hnl hQ hE
 refine⟨_,_,_,rfl, ?_⟩
 unfold mo
 have hval:∀ {n s},s∈bT l n→s.length<4611686018427387904:=fun hm=>by
  obtain⟨x,hx,rfl⟩:=Kc hm
  exact(hnl x hx).2
 have hrl:(b.drop at').length=b.length - at':=by simp
 refine hn hh hll (fun h hx=>(hnl h hx).1) (by decide) fun v1 M1 o1 k1=>?_
 refine hn (aL.keep hh k1 (by simp)) hll (fun h hx=>(hnl h hx).1) (by decide) fun v2 M2 o2 k2=>?_
 have k12:=k1.trans k2
 have s1:Sl mg M2 v1 (bT l CV):=aL.keep (Own.ol o1) k2 (by simp)
 have s2:Sl mg M2 v2 (bT l CL):=Own.ol o2
 have OA := @hval CV
 have OI := @hval CL
 unfold Bg at hQ hE
 rw[hrl] at hQ hE
 change Sl mg M2 v1 (bT l CV) at s1
 generalize bT l CV=xs at *
 generalize bT l CL=ys at *
 rw[s1.len,fo]
 cases xs with
 | cons x xs =>
   rw[show decide (((x :: xs).length:Int) > 0)=true by simp,bR,s1.len,fo]
   simp only[cO]
   cases xs with
   | cons x2 xs =>
     rw[show decide (((x :: x2 :: xs).length:Int) > 1)=true by simp; omega]
     simp only[fG,dx,bR]
     exact hE 14 M2 rfl (.inl rfl) k12
   | nil =>
     rw[show decide ((([x] : List Str).length:Int) > 1)=false from rfl]
     simp only[dI,dY]
     obtain⟨b0,o0,_,_,hix,hld⟩:=s1.at 1 0 (i:=0) (by simp)
     rw[hix,dE]
     refine⟨_,dK.1 hld, ?_⟩
     refine hs (by have:=OA (List.mem_singleton.2 rfl); simpa using (by omega:x.length<9223372036854775807)) fun M3 k3=>?_
     simp only[List.getElem_cons_zero,yH]
     cases hlow:low x == CO with
     | false =>
       rw[show(low x != CO)=true by unfold bne; rw[hlow]; rfl]
       simp only[fG,dx,bR]
       exact hE 14 M3 (by simp only[hlow]) (.inl rfl) (k12.trans k3)
     | true =>
       rw[show(low x != CO)=false by unfold bne; rw[hlow]; rfl]
       simp only[dI,dY]
       have s23:Sl mg M3 v2 ys:=aL.keep s2 k3 (by simp)
       rw[s23.len,fo]
       cases ys with
       | cons y ys =>
         rw[show decide (((y :: ys).length:Int) > 0)=true by simp,bR]
         exact hE 14 M3 (by simp only[hlow]) (.inl rfl) (k12.trans k3)
       | nil =>
         rw[show decide ((([] : List Str).length:Int) > 0)=false from rfl,bf]
         have k13:=k12.trans k3
         refine hc (k13.base.trans hB) (hb.keep k13 (by simp)) h1 hl (fun out r at2 ov M4 e4 a1 a2 hr ho k4 o4=>?_) (fun e M4 e4 he k4=>?_)
         ·simp only[aT,aU,dG]
          exact hQ out r at2 ov M4 (by simp only[hlow]; exact e4) a1 a2 hr ho (k13.trans k4) (Own.mono o4 k13.next)
         ·simp only[aT,aU,dG]
          exact hE e M4 (by simp only[hlow]; exact e4) he (k13.trans k4)
 | nil =>
   rw[show decide ((([] : List Str).length:Int) > 0)=false from rfl,bf,s2.len,bB]
   cases ys with
   | nil =>
     rw[show((([] : List Str).length:Int) == 0)=true from rfl,bR]
     exact hQ [] (b.drop at') at' aH M2 rfl h1 (Nat.le_refl _) rfl (by simp) k12 .nil
   | cons y ys =>
     rw[show(((y :: ys).length:Int) == 0)=false by simp; omega,bf,s2.len,fo]
     simp only[cO]
     cases ys with
     | cons y2 ys =>
       rw[show decide (((y :: y2 :: ys).length:Int) > 1)=true by simp; omega]
       simp only[fG,dx,bR]
       exact hE 14 M2 rfl (.inl rfl) k12
     | nil =>
       rw[show decide ((([y] : List Str).length:Int) > 1)=false from rfl]
       simp only[dI,dY]
       obtain⟨b0,o0,hb0,hb0v,hix,hld⟩:=s2.at 1 0 (i:=0) (by simp)
       have hc0:=dK.1 hld
       have hyl:y.length<4611686018427387904:=OI (List.mem_singleton.2 rfl)
       rw[hix,dE]
       refine⟨_,hc0, ?_⟩
       refine hw ?_
       simp only[List.getElem_cons_zero,cB]
       have tail:∀ M3,ae [] M2 M3→ak (Bo (!wY y)) (Q (.tup [(.sc (.slice none 0 0)),(N .i64 0),(N .i64 14)]) M3) (
         dz v2 (N .i64 0) 1 fun t67=>ax M3 t67 fun t68=>ci [t68] M3 fun t69 Lh=>aC t69 0 fun t70=>aC t69 1 fun t71=>af .gtr t70 (N .i64 16384) fun t74=>ak t74 ( Q (.tup [(.sc (.slice none 0 0)),(N .i64 0),(N .i64 2)]) Lh) ( bg v fun t78=>af .sub t78 (N .i64 (at' : Int)) fun t80=>af .gtr t70 t80 fun t81=>ak t81 ( Q (.tup [(.sc (.slice none 0 0)),(N .i64 0),(N .i64 15)]) Lh) ( af .add (N .i64 (at' : Int)) t70 fun t86=>bG (di 1 v (some (N .i64 (at' : Int))) (some t86) none) fun t87=>cl [t87] Lh fun t88 QZ=>af .add (N .i64 (at' : Int)) t70 fun t91=>Q (.tup [t88,t91,(N .i64 0)]) QZ))):=by
        intro M3 k3
        cases hok:wY y with
        | false =>
          simp only[Bool.not_false,bR]
          exact hE 14 M3 (by simp only[hok]) (.inl rfl) (k12.trans k3)
        | true =>
          have hok':=hok
          unfold wY iL at hok'
          simp only[Bool.and_eq_true,decide_eq_true_eq] at hok'
          simp only[Bool.not_true,bf]
          have s23:Sl mg M3 v2 [y]:=aL.keep s2 k3 (by simp)
          obtain⟨b3,o3,hb3,_,Q7,QB⟩:=s23.at 1 0 (i:=0) (by simp)
          rw[Q7,dE]
          refine⟨_,dK.1 QB, ?_⟩
          simp only[List.getElem_cons_zero]
          refine hi (by omega) (by omega) hok'.2 fun M4 k4=>?_
          have hlt:=ME hok'.2 (by omega)
          have k14:=k12.trans (k3.trans k4)
          have hb4:=hb.keep k14 (by simp)
          simp only[aT,aU]
          rw[show(N .i64 16384)=N .i64 ((16384:Nat) : Int) from rfl,IM]
          refine dL (fun h=>?_) fun h=>?_
          ·have h:16384<jk y:=by simpa using h
           exact hE 2 M4 (by simp only[hok,Au h]) (by omega) k14
          have hf1:¬ 16384<jk y:=by simpa using h
          rw[hb4.len,Gv h1 (by omega),IM]
          refine dL (fun h=>?_) fun h=>?_
          ·have h:b.length - at'<jk y:=by simpa using h
           exact hE 15 M4 (by simp only[hok,l9 hf1,Au h]) (by omega) k14
          have hf2:¬ b.length - at'<jk y:=by simpa using h
          simp only[addN (show at' + jk y<4611686018427387904 by omega)]
          refine hb4.sub (kI _ _ _) (kI _ _ _) (by omega) (by omega) fun v5 hv5 _=>?_
          rw[Nat.add_sub_cancel_left] at hv5
          refine hcl hv5.sl (by simp; omega) fun v6 M6 o6 k6=>?_
          exact hQ ((b.drop at').take (jk y)) ((b.drop at').drop (jk y)) (at' + jk y) v6 M6 (by simp only[hok,l9 hf1,l9 hf2]) (by omega) (by omega) (by rw[List.drop_drop]) (by simp; omega) (k14.trans k6) (Own.mono o6 k14.next)
       cases hwi:iL y 1 9 with
       | false =>
         simp only[Bool.not_false,fG,dx]
         have:=tail M2 (ae.refl _ _)
         unfold wY at this
         rw[hwi] at this
         simpa only[Bool.false_and,Bool.not_false] using this
       | true =>
         simp only[Bool.not_true,dI,dY]
         rw[hix,dE]
         refine⟨_,hc0, ?_⟩
         simp only[List.getElem_cons_zero]
         refine ha hyl fun M3 k3=>?_
         have:=tail M3 k3
         unfold wY at this
         rw[hwi] at this
         simpa only[cB,Bool.true_and,dY] using this
end Go.Ab.Hw
namespace Go.Ab.Hw
open Go Go.Ab Go.Ab.Sm
open Go.Ab.Vl (brk j4 ow fQ fA iC gz zA oV)
def Ho (c:UInt8) : List Str→List Str
 | []=>[[c]]
 | w :: ws=>(c :: w) :: ws
def words (x:UInt8) : Str→List Str
 | []=>[[]]
 | c :: t=>match c == x with
   | true=>[] :: words x t
   | false=>Ho c (words x t)
theorem K8 (x:UInt8) (s:Str) : words x s≠[]:=by
 cases s with
 | nil=>simp[words]
 | cons c t =>
   unfold words
   split
   ·simp
   ·cases words x t <;> simp[Ho]
theorem wI (x:UInt8) : ∀ s:Str,words x s=(match brk x s with | none=>[s] | some p=>p.1 :: words x p.2)
 | []=>rfl
 | c :: t=>by
   rw[words,brk]
   cases h:c == x
   ·have hc:¬ c=x:=by simpa using h
    rw[if_neg hc]
    dsimp only
    rw[wI x t]
    cases brk x t with
    | none=>rfl
    | some p=>rfl
   ·have hc:c=x:=by simpa using h
    rw[if_pos hc]
theorem wH {x:UInt8} : ∀ {s a b:Str},brk x s=some (a,b)→s.count x=b.count x + 1
 | [],_,_,h=>by simp[brk] at h
 | c :: t,a,b,h=>by
   rw[brk] at h
   split at h
   ·rename_i e; subst e; cases h; simp
   ·rename_i e
    cases hb:brk x t with
    | none=>rw[hb] at h; simp at h
    | some p =>
      rw[hb] at h
      simp only[Option.map_some,Option.some.injEq,Prod.mk.injEq] at h
      obtain⟨_,rfl⟩:=h
      rw[List.count_cons_of_ne e]
      exact wH (a:=p.1) (b:=p.2) hb
theorem Cn {x:UInt8} {s:Str} (h:brk x s=none) : s.count x=0:=by
 rcases Vl.sO x s with⟨_,_,h3⟩ | ⟨a,b,h1,_⟩
 ·exact List.count_eq_zero.2 h3
 ·rw[h] at h1; cases h1
theorem wB (x:UInt8) : ∀ (k:Nat) (s:Str),s.count x=k→Lib.splitK [x] 0 k s=words x s
 | 0,s,h=>by
   rw[wI]
   cases hb:brk x s with
   | none=>rfl
   | some p=>have:=wH (a:=p.1) (b:=p.2) hb; omega
 | k + 1,s,h=>by
   rw[wI,Lib.splitK,Lib.index_one]
   rcases Vl.sO x s with⟨h1,h2,_⟩ | ⟨a,b,h1,h2,h3,_⟩
   ·have:=Cn h1; omega
   ·have hn:((a.length:Int) == -1)=false:=by simp
    have hc:=wH h1
    rw[h1,h2,hn]
    simp only[Int.toNat_natCast,Nat.add_zero,List.length_cons,List.length_nil]
    rw[← wB x k b (by omega)]
    have e1:s.take a.length=a:=by rw[h3]; simp
    have e2:s.drop (a.length + (0 + 1))=b:=by rw[h3,← List.drop_drop]; simp
    rw[e1,e2]
    rfl
theorem qP {x:UInt8} : ∀ {s w:Str},w∈words x s→w.length≤s.length
 | [],w,h=>by simp[words] at h; subst h; simp
 | c :: t,w,h=>by
   rw[words] at h
   split at h
   ·rcases List.mem_cons.1 h with rfl | h
    ·simp
    ·have:=qP h; simp; omega
   ·cases hw:words x t with
    | nil=>exact absurd hw (K8 x t)
    | cons v vs =>
      rw[hw] at h
      simp only[Ho] at h
      rcases List.mem_cons.1 h with rfl | h
      ·have:=qP (x:=x) (s:=t) (w:=v) (by rw[hw]; simp); simp; omega
      ·have:=qP (x:=x) (s:=t) (w:=w) (by rw[hw]; simp[h]); simp; omega
def Er (B:Base) (T:Nat) (c:ai) : Prop:=∀ {M:RM} {s:Str} {Q:ah},M.base=B→s.length≤1000000→(∀ v M',Ow mg M' M.next T v (words 32 s)→ae [] M M'→Q v M')→c [St s,St [32]] M Q
abbrev NH:Str:=[72,84,84,80,47,49,46,49]
def uw (m p v:Str) : Bool:=ik m && jd p && (v == NH)
def jT (s:Str) : Option (Str × Str):=match words 32 s with
 | [m,p,v]=>match uw m p v with
   | true=>some (m,p)
   | false=>none
 | _=>none
def tZ (s:Str) : Bool:=(jT s).isSome
abbrev iQ (T:Nat) (m p:Str) : RB:=.row [St m,St p,aH,aH] false T 0
def EH (T:Nat) (s:Str) : RB:=match jT s with
 | some (m,p)=>iQ T m p
 | none=>iQ T [] []
theorem NY (l:List Str) : (∃ a b c,l=[a,b,c])∨l.length≠3:=by
 rcases l with _ | ⟨a,_ | ⟨b,_ | ⟨c,_ | ⟨d,l⟩⟩⟩⟩ <;> simp
theorem JU {B:Base} {T TS br:Nat} {cs cm cp:ai} (hs:Er B TS cs) (hm:kY ik cm) (hp:kY jd cp) {M:RM} {s:Str} {K:ah} (hB:M.base=B) (hbr:br<M.next) (hX:M.heap br=some (iQ T [] []))
  (hl:s.length≤2048) (h0:tZ s=false→∀ M',ae [br] M M'→K (Bo false) M') (h1:tZ s=true→∀ M',ae [br] M M'→M'.heap br=some (EH T s)→K (Bo true) M') : gG cs cm cp (St s) (.ptr br 0) M K:=by
 unfold gG
 refine hs hB (by omega) fun v M1 o1 k1=>?_
 have s1:Sl mg M1 v (words 32 s):=Own.ol o1
 have hwl:∀ w∈words 32 s,w.length≤2048:=fun w hw=>Nat.le_trans (qP hw) hl
 have kb:∀ {M'},ae [] M M'→ae [br] M M':=fun k=>k.mono (by simp)
 rw[s1.len]
 simp only[iE,cO]
 rcases NY (words 32 s) with⟨a,b,c,hw⟩ | hne
 ·have hq:jT s=if uw a b c then some (a,b) else none:=by
   unfold jT; rw[hw]; dsimp only; cases uw a b c <;> rfl
  rw[hw] at s1 hwl ⊢
  rw[show((([a,b,c] : List Str).length:Int) != 3)=false from rfl]
  simp only[dI,dY]
  have at_:∀ {M2:RM} (k:ae [] M1 M2) {K' : AV→Prop},(∀ x:AV,(dz v (N .i64 0) 1 fun t=>ax M2 t fun u=>K' u)=K' (St a))∧(∀ x:AV,(dz v (N .i64 1) 1 fun t=>ax M2 t fun u=>K' u)=K' (St b))∧(∀ x:AV,(dz v (N .i64 2) 1 fun t=>ax M2 t fun u=>K' u)=K' (St c)):=by
   intro M2 k K'
   have s2:Sl mg M2 v [a,b,c]:=aL.keep s1 k (by simp)
   obtain⟨b0,o0,_,_,hix,hld⟩:=s2.at 1 0 (i:=0) (by simp)
   obtain⟨b1,o1',_,_,KL,GX⟩:=s2.at 1 1 (i:=1) (by simp)
   obtain⟨b2,o2,_,_,Q3,QR⟩:=s2.at 1 2 (i:=2) (by simp)
   refine⟨fun _=>?_,fun _=>?_,fun _=>?_⟩
   ·rw[hix,dE,dK.1 hld]; exact Cf _ _
   ·rw[KL,dE,dK.1 GX]; exact Cf _ _
   ·rw[Q3,dE,dK.1 QR]; exact Cf _ _
  have tail:∀ M2,ae [] M1 M2→(ak (Bo (!uw a b c)) (K (Bo false) M2) (
    dz v (N .i64 0) 1 fun t31=>ax M2 t31 fun t32=>dz v (N .i64 1) 1 fun t34=>ax M2 t34 fun t35=>aY (.ptr br 0) 0 fun t36=>aF M2 t36 t32 1 fun Nt=>ax Nt t34 fun MJ=>(MJ=t35∧aY (.ptr br 0) 1 fun t37=>aF Nt t37 t35 1 fun QX=>K (Bo true) QX))):=by
   intro M2 k2
   have k02:ae [] M M2:=k1.trans k2
   refine dL (fun h=>?_) fun h=>?_
   ·have hk:uw a b c=false:=by simpa using h
    exact h0 (by unfold tZ; rw[hq,hk]; rfl) M2 (kb k02)
   ·have hk:uw a b c=true:=by simpa using h
    have X2:=k02.aO hX hbr (by simp)
    have s2:Sl mg M2 v [a,b,c]:=aL.keep s1 k2 (by simp)
    rw[((at_ k2).1 aH)]
    obtain⟨b1,o1',hb1,Qh,KL,GX⟩:=s2.at 1 1 (i:=1) (by simp)
    have hvn:=(o1.blk b1 Qh).1
    rw[KL,dE]
    refine⟨_,dK.1 GX, ?_⟩
    simp only[List.getElem_cons_succ,List.getElem_cons_zero]
    rw[j3,fE [St a,St [],aH,aH] X2 (by simp) rfl rfl rfl,dE]
    have k3:ae [br] M2 (M2.put br (.row [St a,St [],aH,aH] false T 0)):=(ae.refl _ _).put _ (.inr (by simp))
    have hne:b1≠br:=fun e=>by omega
    refine⟨St b, ?_,rfl, ?_⟩
    ·have hcell:M2.cell b1 o1'=some (St b):=dK.1 GX
     rw[← hcell]
     unfold RM.cell
     rw[RM.pu,RM.pu,k3.heap b1 hb1 (by simpa using hne)]
     rfl
    rw[j3,fE [St a,St b,aH,aH] (aM _) (by simp) rfl rfl rfl]
    refine h1 (by unfold tZ; rw[hq,hk]; rfl) _ ((kb k02).trans (k3.trans ((ae.refl _ _).put _ (.inr (by simp))))) ?_
    rw[aM]
    unfold EH; rw[hq,hk]; rfl
  have ha:=hwl a (by simp)
  have hb:=hwl b (by simp)
  rw[((at_ (ae.refl _ _)).1 aH)]
  refine hm (by omega) fun M2 k2=>?_
  simp only[cB]
  unfold uw at tail
  cases hgm:ik a with
  | false =>
    simp only[Bool.not_false,fG,dx]
    have:=tail M2 k2
    simpa only[hgm,Bool.false_and,Bool.not_false] using this
  | true =>
    simp only[Bool.not_true,dI,dY]
    rw[((at_ k2).2.1 aH)]
    refine hp (by omega) fun M3 k3=>?_
    have k13:=k2.trans k3
    simp only[cB]
    cases hgp:jd b with
    | false =>
      simp only[Bool.not_false,fG,dx]
      have:=tail M3 k13
      simpa only[hgm,hgp,Bool.false_and,Bool.and_false,Bool.not_false] using this
    | true =>
      simp only[Bool.not_true,dI,dY]
      rw[((at_ k13).2.2 aH),yH]
      have:=tail M3 k13
      simpa only[hgm,hgp,Bool.true_and,bne] using this
 ·have hq:jT s=none:=by
   unfold jT
   split
   ·rename_i m p v hw; rw[hw] at hne; exact absurd rfl hne
   ·rfl
  rw[show(((words 32 s).length:Int) != 3)=true by
   simp only[bne_iff_ne,ne_eq]
   omega]
  simp only[fG,dx,bR]
  exact h0 (by unfold tZ; rw[hq]; rfl) M1 (kb k1)
abbrev D5:Str:=[72,84,84,80,47,49,46,49,32]
def nH (s:Str) : Str:=if pre D5 s then s.drop 9 else s
def D9 (s:Str) : Bool:=!pre D5 s || decide (((nH s).length:Int)<4)
def GI (s:Str) : Bool:=D9 s || !((nH s).take 3).all dD
def GH (s:Str) : Bool:=GI s || ((((nH s).getD 3 0).toNat:Int) != 32)
def Lf (s:Str) : Bool:=GH s || !((nH s).drop 3).all p32
def codeOf (s:Str) : Nat:=jk ((nH s).take 3)
def oQ (s:Str) : Bool:=!Lf s && (decide ((codeOf s:Int) ≥ 100) && decide ((codeOf s:Int)≤599))
abbrev gq (T:Nat) (n:Int) : RB:=.row [N .i64 n,aH,aH] false T 0
def Dv (T:Nat) (s:Str) : RB:=gq T (codeOf s)
theorem GN {T br g1 g2:Nat} {cc ca ci:ai} (hc:oZ cc) (ha1:kJ dD (.fn (.func g1) [] []) ca) (ha2:kJ p32 (.fn (.func g2) [] []) ca) (hi:Hq ci) {M:RM} {s:Str} {K:ah} (hbr:br<M.next)
  (hX:M.heap br=some (gq T 0)) (hl:s.length≤2048) (h0:oQ s=false→∀ M',ae [br] M M'→K (Bo false) M') (h1:oQ s=true→∀ M',ae [br] M M'→M'.heap br=some (Dv T s)→K (Bo true) M') :
  gu cc ca g1 g2 ci (St s) (.ptr br 0) M K:=by
 unfold gu
 refine hc ?_
 have kb:∀ {M'},ae [] M M'→ae [br] M M':=fun k=>k.mono (by simp)
 have hrl:(nH s).length≤s.length:=by unfold nH; split <;> simp
 have e9:u6 D5 s=.tup [St (nH s),Bo (pre D5 s)]:=by
  unfold u6 nH; cases pre D5 s <;> rfl
 rw[e9]
 simp only[aT,aU,cB,cO]
 generalize hr:nH s=r at *
 have hb1:D9 s=(!pre D5 s || decide ((r.length:Int)<4)):=by unfold D9; rw[hr]
 have hb2:GI s=(D9 s || !(r.take 3).all dD):=by unfold GI; rw[hr]
 have hb3:GH s=(GI s || (((r.getD 3 0).toNat:Int) != 32)):=by unfold GH; rw[hr]
 have hb4:Lf s=(GH s || !(r.drop 3).all p32):=by unfold Lf; rw[hr]
 have GK:D9 s=false→4≤r.length:=fun h=>by
  rw[hb1] at h
  simp only[Bool.or_eq_false_iff,decide_eq_false_iff_not] at h
  omega
 refine yL (P:=ae [] M) (p:=decide ((r.length:Int)<4)) (ae.refl _ _) (fun _ k hk=>?_) fun M1 k1=>?_
 ·simpa only[go_sem] using hk M (ae.refl _ _)
 rw[← hb1]
 refine yL (P:=ae [] M) (p:=!(r.take 3).all dD) k1 (fun hf k hk=>?_) fun M2 k2=>?_
 ·have:=GK hf
  rw[show(N .i64 3)=N .i64 ((3:Nat) : Int) from rfl,gz (by omega)]
  simp only[dU]
  refine ha1 (by simp; omega) fun M2 k2=>?_
  simp only[cB]
  exact hk M2 (k1.trans k2)
 rw[← hb2]
 refine yL (P:=ae [] M) (p:=(((r.getD 3 0).toNat:Int) != 32)) k2 (fun hf k hk=>?_) fun M3 k3=>?_
 ·have:=GK (by rw[hb2,Bool.or_eq_false_iff] at hf; exact hf.1)
  rw[show(N .i64 3)=N .i64 ((3:Nat) : Int) from rfl,oV (by omega),iE]
  have:r.getD 3 0=r[3]:=by simp[List.getD_eq_getElem?_getD,List.getElem?_eq_getElem (show 3<r.length by omega)]
  rw[this] at hk
  exact hk _ k2
 rw[← hb3]
 refine yL (P:=ae [] M) (p:=!(r.drop 3).all p32) k3 (fun hf k hk=>?_) fun M4 k4=>?_
 ·have:=GK (by
   rw[hb3,Bool.or_eq_false_iff] at hf
   have:=hf.1
   rw[hb2,Bool.or_eq_false_iff] at this; exact this.1)
  rw[show(N .i64 3)=N .i64 ((3:Nat) : Int) from rfl,fA (by omega)]
  simp only[dU]
  refine ha2 (by simp; omega) fun M2 k2=>?_
  simp only[cB]
  exact hk M2 (k3.trans k2)
 rw[← hb4]
 refine dL (fun h=>?_) fun h=>?_
 ·exact h0 (by unfold oQ; rw[h]; rfl) M4 (kb k4)
 ·have h':=h
  rw[hb4,Bool.or_eq_false_iff] at h'
  have h'':=h'.1
  rw[hb3,Bool.or_eq_false_iff] at h''
  have h3:=h''.1
  rw[hb2,Bool.or_eq_false_iff] at h3
  have hd:(r.take 3).all dD=true:=by simpa using h3.2
  have l4:=GK h3.1
  rw[show(N .i64 3)=N .i64 ((3:Nat) : Int) from rfl,gz (by omega)]
  simp only[dU]
  refine hi (by simp; omega) (by simp; omega) hd fun M5 k5=>?_
  have X5:=(k4.trans k5).aO hX hbr (by simp)
  have hcode:codeOf s=jk (r.take 3):=by unfold codeOf; rw[hr]
  rw[← hcode]
  simp only[aT,aU]
  rw[j3,fE [N .i64 (codeOf s:Int),aH,aH] X5 (by simp) rfl rfl rfl]
  have k6:ae [br] M (M5.put br (.row [N .i64 (codeOf s:Int),aH,aH] false T 0)):=(kb (k4.trans k5)).put _ (.inr (by simp))
  have X6:(M5.put br (.row [N .i64 (codeOf s:Int),aH,aH] false T 0)).heap br=some (Dv T s):=aM _
  generalize M5.put br (.row [N .i64 (codeOf s:Int),aH,aH] false T 0)=M6 at *
  have ld:∀ {K' : AV→Prop},ax M6 (.ptr br 0) K'=K' (N .i64 (codeOf s:Int)):=fun {K'} => bq X6 rfl
  rw[j3,ld,dh]
  try simp only[cO]
  refine nL (p:=decide ((codeOf s:Int)≤599)) (fun _ k hk=>?_) ?_
  ·rw[j3,ld]
   simpa only[go_sem] using hk
  ·have hp:oQ s=(decide ((codeOf s:Int) ≥ 100) && decide ((codeOf s:Int)≤599)):=by unfold oQ; rw[h]; rfl
   rw[← hp]
   cases hv:oQ s with
   | false=>exact h0 hv _ k6
   | true=>exact h1 hv _ k6 X6
theorem Fz {s:Str} {h:Hd} (e:eU s=some h) : h.1.length≤s.length∧h.2.length≤s.length:=by
 unfold eU at e
 split at e
 ·cases e
 ·rename_i a b hb
  have:=Gc hb
  have:=Cy b
  split at e
  ·cases e; exact⟨by show a.length≤_; omega,by show(trimB b).length≤_; omega⟩
  ·cases e
theorem Jl {b s:Str} {at' n:Nat} (e:nK b at'=.ok (s,n)) : s.length≤2048:=by
 unfold nK at e
 split at e
 ·rename_i p hp
  cases e
  obtain⟨a,r⟩:=p
  have:=(pY hp).2
  simp at this
  show a.length≤2048
  omega
 ·split at e <;> cases e
theorem JX (b:Str) : ∀ (f at' : Nat) (l l' : List Hd) (n:Nat),(∀ h∈l,h.1.length≤2048∧h.2.length≤2048)→hloop b f at' l=.ok (l',n)→∀ h∈l',h.1.length≤2048∧h.2.length≤2048:=by
 intro f
 induction f with
 | zero =>
   intro at' l l' n hl e
   rw[lu] at e
   split at e
   ·cases e
   ·split at e
    ·cases e; exact hl
    ·cases e
 | succ f ih =>
   intro at' l l' n hl e
   rw[lu] at e
   split at e
   ·cases e
   ·rename_i s n' hL
    split at e
    ·cases e; exact hl
    ·dsimp only at e
     split at e
     ·cases e
     ·rename_i h hh
      refine ih _ _ _ _ (fun x hx=>?_) e
      rcases List.mem_append.1 hx with hx | hx
      ·exact hl x hx
      ·have:x=h:=by simpa using hx
       subst this
       have h1:=Fz hh
       have h2:=Jl hL
       exact⟨by omega,by omega⟩
theorem CY {p:Str→Bool} {b s:Str} {l:List Hd} {n:Nat} (e:headD p b=.ok (s,l,n)) : (∀ h∈l,h.1.length≤2048∧h.2.length≤2048)∧p s=true:=by
 unfold headD at e
 split at e
 ·cases e
 ·split at e
  ·cases e
  ·split at e
   ·cases e
   ·rename_i hh
    cases e
    exact⟨JX b _ _ _ _ _ (by simp) hh,by assumption⟩
def jo (b:Str) : Except Nat ((Str × Str × List Hd × Str) × Str):=match headD tZ b with
 | .error e=>.error e
 | .ok (s,l,at')=>match Bg (b.drop at') l with
   | .error e=>.error e
   | .ok (out,r)=>match jT s with
     | some (m,p)=>.ok ((m,p,l,out),r)
     | none=>.error 14
def EJ (B:Base) (TH T8:Nat) (c:ai) : Prop:=∀ {M:RM} {v:AV} {b:Str} {Q:ah},M.base=B→Bs M v b→b.length≤1000000000 →
 (∀ m p l out r at2 hv ov M',jo b=.ok ((m,p,l,out),r)→at2≤b.length→b.drop at2=r→out.length≤16384→l.length≤32→(∀ h∈l,h.1.length≤2048∧h.2.length≤2048)→ae [] M M'→Ow HD M' M.next TH hv l→Ow BY M' M.next T8 ov out →
  Q (.tup [.agg [St m,St p,hv,ov],N .i64 (at2:Int),N .i64 0]) M') →
 (∀ (e:Nat) M',jo b=.error e→(e=14∨e=15∨e=2)→ae [] M M'→Q (.tup [.agg [St [],St [],aH,aH],N .i64 0,N .i64 (e:Int)]) M')→c [v] M Q
theorem pK {br:Nat} {M M0 M1:RM} (k0:ae [] M M0) (h:ae [br] M0 M1) (hb:M.next≤br) : ae [] M M1 :=
 ⟨h.base.trans k0.base,Nat.le_trans k0.next h.next,fun x hx _=>by rw[h.heap x (Nat.lt_of_lt_of_le hx k0.next) (fun e=>by simp at e; omega),k0.heap x hx (by simp)]⟩
theorem Bs.lt {M:RM} {v:AV} {b:Str} (h:Bs M v b) : ∀ x∈aN v,x<M.next:=aL.lt h.sl
theorem Ee {B:Base} {T TH T8 g:Nat} {ch cb:ai} (hH:∀ br,Dy B (.fn (.func g) [] [.ptr br 0]) tZ br (iQ T [] []) (EH T) TH ch) (hb:DK B T8 cb) : EJ B TH T8 fun args M Q=>∃ a0,args=[a0]∧iB T g ch cb a0 M Q:=by
 intro M v b Q hB hv hl hQ hE
 refine⟨_,rfl, ?_⟩
 unfold iB
 simp only[aS]
 have k0:ae [] M ((M.push (iQ T [] [])).push (iQ T [] [])):=((ae.refl _ _).push _).push _
 have a2:((M.push (iQ T [] [])).push (iQ T [] [])).heap M.next=some (iQ T [] []):=by simp[RM.push]
 have a5:((M.push (iQ T [] [])).push (iQ T [] [])).heap (M.push (iQ T [] [])).next=some (iQ T [] []):=by simp[RM.push]
 have e5:(M.push (iQ T [] [])).next=M.next + 1:=rfl
 have n0:((M.push (iQ T [] [])).push (iQ T [] [])).next=M.next + 2:=rfl
 rw[e5] at a5 ⊢
 generalize (M.push (iQ T [] [])).push (iQ T [] [])=M0 at *
 have hv0:=hv.keep k0 (by simp)
 have err:∀ (e:Nat) (M1:RM),ae [M.next + 1] M0 M1→jo b=.error e→(e=14∨e=15∨e=2) →
   eQ [(St []),(St []),(.sc (.slice none 0 0)),(.sc (.slice none 0 0))] [] fun t18=>aF M1 (.ptr M.next 0) t18 4 fun M_2=>bF M_2 (.ptr M.next 0) 4 fun res=>Q (.tup [res,(N .i64 0),N .i64 (e:Int)]) M_2:=by
  intro e M1 k1 he1 he
  rw[gy]
  refine⟨_,rfl, ?_⟩
  have n1:=k1.aO a2 (by omega) (by simp)
  rw[jm n1 (by rfl) (by rfl) (by rfl),bS (aM _) (by rfl)]
  exact hE e _ he1 he ((pK k0 k1 (by omega)).new _ (Nat.le_refl _))
 refine hH (M.next + 1) (k0.base.trans hB) hv0 hl (by omega) (fun hx=>by have:=hv.lt _ hx; omega) a5 (fun e M1 h1 he k1=>?_) (fun s l at' hv' M1 h1 hat hs hll k1 X1 o1=>?_)
 ·simp only[aT,aU,dG,iE]
  rw[show(((e:Nat) : Int) != 0)=true by rcases he with rfl | rfl | rfl <;> rfl,bR]
  exact err e M1 k1 (by unfold jo; rw[h1]) (by omega)
 obtain⟨hlen,hp⟩:=CY h1
 simp only[aT,aU,dG,yZ,bf,jg]
 obtain⟨⟨m,p⟩,hmp⟩ : ∃ q,jT s=some q:=by unfold tZ at hp; exact Option.isSome_iff_exists.1 hp
 have X1' : M1.heap (M.next + 1)=some (iQ T m p):=by rw[X1]; unfold EH; rw[hmp]
 have hone:oneCell hv'=true:=Own.one o1
 have hcell:hv'.cells=[hv']:=Own.cells o1
 simp only[Nat.zero_add]
 rw[fE [St m,St p,hv',aH] X1' (by simp) hcell hone rfl]
 have k2:ae [M.next + 1] M0 (M1.put (M.next + 1) (.row [St m,St p,hv',aH] false T 0)):=k1.put _ (.inr (by simp))
 have X2:(M1.put (M.next + 1) (.row [St m,St p,hv',aH] false T 0)).heap (M.next + 1)=some (.row [St m,St p,hv',aH] false T 0):=aM _
 have o2:Ow HD (M1.put (M.next + 1) (.row [St m,St p,hv',aH] false T 0)) M0.next TH hv' l:=Own.keep o1 ((ae.refl [M.next + 1] M1).put _ (.inr (by simp))) (fun x hx hm=>by
  have:=(Own.blk o1 x hx).1
  simp at hm; omega)
 generalize M1.put (M.next + 1) (.row [St m,St p,hv',aH] false T 0)=M2 at *
 have k02:=pK k0 k2 (by omega)
 refine hb (k02.base.trans hB) (hv.keep k02 (by simp)) hat hl (Own.ol o2) (by omega) (fun h hx=>by have:=hlen h hx; omega) (fun out r at2 ov M3 e3 ha2 ha3 hr ho k3 o3=>?_) (fun e M3 e3 he k3=>?_)
 ·simp only[aT,aU,dG,yZ,bf,jg,Nat.zero_add]
  have X3:=k3.aO X2 (Nat.lt_of_lt_of_le (by omega) k2.next) (by simp)
  rw[fE [St m,St p,hv',ov] X3 (by simp) (Own.cells o3) (Own.one o3) rfl]
  have n3:=(k2.trans (k3.mono (by simp))).aO a2 (by omega) (by simp)
  rw[bS (aM _) (by rfl),jm (rU n3 (by omega)) (by rfl) (by rfl) (by have:=Own.one o3; simp only[List.all_cons,List.all_nil,hone,this]; rfl),bS (aM _) (by rfl)]
  have k4:ae [] M (((M3.put (M.next + 1) (.row [St m,St p,hv',ov] false T 0))).put M.next (.row [St m,St p,hv',ov] false T 0)):=((k02.trans k3).new _ (by omega)).new _ (Nat.le_refl _)
  have k34:ae [M.next,M.next + 1] M3 (((M3.put (M.next + 1) (.row [St m,St p,hv',ov] false T 0))).put M.next (.row [St m,St p,hv',ov] false T 0)):=((ae.refl _ _).put _ (.inr (by simp))).put _ (.inr (by simp))
  refine hQ m p l out r at2 hv' ov _ (by unfold jo; rw[h1]; dsimp only; rw[e3,hmp]) ha2 hr ho hll hlen k4 ?_ ?_
  ·have o2' : Ow HD M3 M0.next TH hv' l:=Own.keep o2 k3 (by simp)
   refine Own.mono (Own.keep o2' k34 (fun x hx hm=>?_)) k0.next
   have:=(Own.blk o2' x hx).1
   simp at hm; omega
  ·refine Own.mono (Own.keep o3 k34 (fun x hx hm=>?_)) k02.next
   have:=(Own.blk o3 x hx).1
   have:=k2.next
   simp at hm; omega
 ·simp only[aT,aU,dG,jg,Nat.zero_add]
  have X3:=k3.aO X2 (Nat.lt_of_lt_of_le (by omega) k2.next) (by simp)
  rw[fE [St m,St p,hv',aH] X3 (by simp) rfl rfl rfl,iE,show(((e:Nat) : Int) != 0)=true by rcases he with rfl | rfl | rfl <;> rfl,bR]
  exact err e _ ((k2.trans (k3.mono (by simp))).put _ (.inr (by simp))) (by unfold jo; rw[h1]; dsimp only; rw[e3]) (by omega)
def jR (b:Str) : Except Nat ((Nat × List Hd × Str) × Str):=match headD oQ b with
 | .error e=>.error e
 | .ok (s,l,at')=>match Bg (b.drop at') l with
   | .error e=>.error e
   | .ok (out,r)=>.ok ((codeOf s,l,out),r)
def CU (B:Base) (TH T8:Nat) (c:ai) : Prop:=∀ {M:RM} {v:AV} {b:Str} {Q:ah},M.base=B→Bs M v b→b.length≤1000000000 →
 (∀ n l out r at2 hv ov M',jR b=.ok ((n,l,out),r)→at2≤b.length→b.drop at2=r→out.length≤16384→l.length≤32→(∀ h∈l,h.1.length≤2048∧h.2.length≤2048)→ae [] M M'→Ow HD M' M.next TH hv l→Ow BY M' M.next T8 ov out →
  Q (.tup [.agg [N .i64 (n:Int),hv,ov],N .i64 (at2:Int),N .i64 0]) M') →
 (∀ (e:Nat) M',jR b=.error e→(e=14∨e=15∨e=2)→ae [] M M'→Q (.tup [.agg [N .i64 0,aH,aH],N .i64 0,N .i64 (e:Int)]) M')→c [v] M Q
theorem Dm {B:Base} {T TH T8 g:Nat} {ch cb:ai} (hH:∀ br,Dy B (.fn (.func g) [] [.ptr br 0]) oQ br (gq T 0) (Dv T) TH ch) (hb:DK B T8 cb) : CU B TH T8 fun args M Q=>∃ a0,args=[a0]∧gQ T g ch cb a0 M Q:=by
 intro M v b Q hB hv hl hQ hE
 refine⟨_,rfl, ?_⟩
 unfold gQ
 simp only[aS]
 have k0:ae [] M ((M.push (gq T 0)).push (gq T 0)):=((ae.refl _ _).push _).push _
 have a2:((M.push (gq T 0)).push (gq T 0)).heap M.next=some (gq T 0):=by simp[RM.push]
 have a5:((M.push (gq T 0)).push (gq T 0)).heap (M.push (gq T 0)).next=some (gq T 0):=by simp[RM.push]
 have e5:(M.push (gq T 0)).next=M.next + 1:=rfl
 have n0:((M.push (gq T 0)).push (gq T 0)).next=M.next + 2:=rfl
 rw[e5] at a5 ⊢
 generalize (M.push (gq T 0)).push (gq T 0)=M0 at *
 have hv0:=hv.keep k0 (by simp)
 have err:∀ (e:Nat) (M1:RM),ae [M.next + 1] M0 M1→jR b=.error e→(e=14∨e=15∨e=2) →
   eQ [(N .i64 0),(.sc (.slice none 0 0)),(.sc (.slice none 0 0))] [] fun t18=>aF M1 (.ptr M.next 0) t18 3 fun M_2=>bF M_2 (.ptr M.next 0) 3 fun res=>Q (.tup [res,(N .i64 0),N .i64 (e:Int)]) M_2:=by
  intro e M1 k1 he1 he
  rw[gy]
  refine⟨_,rfl, ?_⟩
  have n1:=k1.aO a2 (by omega) (by simp)
  rw[jm n1 (by rfl) (by rfl) (by rfl),bS (aM _) (by rfl)]
  exact hE e _ he1 he ((pK k0 k1 (by omega)).new _ (Nat.le_refl _))
 refine hH (M.next + 1) (k0.base.trans hB) hv0 hl (by omega) (fun hx=>by have:=hv.lt _ hx; omega) a5 (fun e M1 h1 he k1=>?_) (fun s l at' hv' M1 h1 hat hs hll k1 X1 o1=>?_)
 ·simp only[aT,aU,dG,iE]
  rw[show(((e:Nat) : Int) != 0)=true by rcases he with rfl | rfl | rfl <;> rfl,bR]
  exact err e M1 k1 (by unfold jR; rw[h1]) (by omega)
 obtain⟨hlen,hp⟩:=CY h1
 simp only[aT,aU,dG,yZ,bf,jg]
 have X1' : M1.heap (M.next + 1)=some (gq T (codeOf s)):=X1
 have hone:oneCell hv'=true:=Own.one o1
 have hcell:hv'.cells=[hv']:=Own.cells o1
 simp only[Nat.zero_add]
 rw[fE [N .i64 (codeOf s:Int),hv',aH] X1' (by simp) hcell hone rfl]
 have k2:ae [M.next + 1] M0 (M1.put (M.next + 1) (.row [N .i64 (codeOf s:Int),hv',aH] false T 0)):=k1.put _ (.inr (by simp))
 have X2:(M1.put (M.next + 1) (.row [N .i64 (codeOf s:Int),hv',aH] false T 0)).heap (M.next + 1)=some (.row [N .i64 (codeOf s:Int),hv',aH] false T 0):=aM _
 have o2:Ow HD (M1.put (M.next + 1) (.row [N .i64 (codeOf s:Int),hv',aH] false T 0)) M0.next TH hv' l:=Own.keep o1 ((ae.refl [M.next + 1] M1).put _ (.inr (by simp))) (fun x hx hm=>by
  have:=(Own.blk o1 x hx).1
  simp at hm; omega)
 generalize M1.put (M.next + 1) (.row [N .i64 (codeOf s:Int),hv',aH] false T 0)=M2 at *
 have k02:=pK k0 k2 (by omega)
 refine hb (k02.base.trans hB) (hv.keep k02 (by simp)) hat hl (Own.ol o2) (by omega) (fun h hx=>by have:=hlen h hx; omega) (fun out r at2 ov M3 e3 ha2 ha3 hr ho k3 o3=>?_) (fun e M3 e3 he k3=>?_)
 ·simp only[aT,aU,dG,yZ,bf,jg,Nat.zero_add]
  have X3:=k3.aO X2 (Nat.lt_of_lt_of_le (by omega) k2.next) (by simp)
  rw[fE [N .i64 (codeOf s:Int),hv',ov] X3 (by simp) (Own.cells o3) (Own.one o3) rfl]
  have n3:=(k2.trans (k3.mono (by simp))).aO a2 (by omega) (by simp)
  rw[bS (aM _) (by rfl),jm (rU n3 (by omega)) (by rfl) (by rfl) (by have:=Own.one o3; simp only[List.all_cons,List.all_nil,hone,this]; rfl),bS (aM _) (by rfl)]
  have k4:ae [] M (((M3.put (M.next + 1) (.row [N .i64 (codeOf s:Int),hv',ov] false T 0))).put M.next (.row [N .i64 (codeOf s:Int),hv',ov] false T 0)):=((k02.trans k3).new _ (by omega)).new _ (Nat.le_refl _)
  have k34:ae [M.next,M.next + 1] M3 (((M3.put (M.next + 1) (.row [N .i64 (codeOf s:Int),hv',ov] false T 0))).put M.next (.row [N .i64 (codeOf s:Int),hv',ov] false T 0)):=((ae.refl _ _).put _ (.inr (by simp))).put _ (.inr (by simp))
  refine hQ (codeOf s) l out r at2 hv' ov _ (by unfold jR; rw[h1]; dsimp only; rw[e3]) ha2 hr ho hll hlen k4 ?_ ?_
  ·have o2' : Ow HD M3 M0.next TH hv' l:=Own.keep o2 k3 (by simp)
   refine Own.mono (Own.keep o2' k34 (fun x hx hm=>?_)) k0.next
   have:=(Own.blk o2' x hx).1
   simp at hm; omega
  ·refine Own.mono (Own.keep o3 k34 (fun x hx hm=>?_)) k02.next
   have:=(Own.blk o3 x hx).1
   have:=k2.next
   simp at hm; omega
 ·simp only[aT,aU,dG,jg,Nat.zero_add]
  have X3:=k3.aO X2 (Nat.lt_of_lt_of_le (by omega) k2.next) (by simp)
  rw[fE [N .i64 (codeOf s:Int),hv',aH] X3 (by simp) rfl rfl rfl,iE,show(((e:Nat) : Int) != 0)=true by rcases he with rfl | rfl | rfl <;> rfl,bR]
  exact err e _ ((k2.trans (k3.mono (by simp))).put _ (.inr (by simp))) (by unfold jR; rw[h1]; dsimp only; rw[e3]) (by omega)
end Go.Ab.Hw
namespace Go.Ab.Hw
open Go Go.Ab Go.Ab.Sm
def vB (h:Hd) : Bool:=!(!jG h.1 || !ig h.2 || low h.1 == CV || low h.1 == CL)
def wV (h:Hd) : Str:=h.1++[58,32]++h.2++[13,10]
def uk (first:Str) (l:List Hd) : Str:=first++[13,10]++l.flatMap wV
def pM (first:Str) (l:List Hd) (more:Hd) : Str:=uk first l++(wV more++[13,10])
def Ck (l:List Hd) (s:Str) (sz:Nat) : Bool:=decide (((l.length + 1:Nat) : Int) > 32) || decide ((s.length:Int) > 2048) || decide ((sz:Int) > 16384)
def gH (first:Str) (l:List Hd) (more:Hd) (sz:Nat) (body:Str) : Except Nat Str:=match l.all vB with
 | false=>.error 1
 | true=>match Ck l (pM first l more) sz with
   | true=>.error 2
   | false=>.ok (pM first l more++body)
theorem E5:∀ (l:List Hd) (k:Nat),(∀ h∈l,h.1.length≤k∧h.2.length≤k)→(l.flatMap wV).length≤l.length * (2 * k + 4)
 | [],k,_=>by simp
 | h :: l,k,hk=>by
   have:=E5 l k fun x hx=>hk x (.tail _ hx)
   have h0:=hk h (.head _)
   rw[List.flatMap_cons,List.length_append,List.length_cons,Nat.succ_mul]
   have:(wV h).length=h.1.length + h.2.length + 4:=by unfold wV; simp; omega
   omega
def pR (B:Base) (T:Nat) (c:ai) : Prop:=∀ {M:RM} {v bv:AV} {first body:Str} {l:List Hd} {more:Hd} {sz:Nat} {Q:ah},M.base=B→Sl HD M v l→l.length≤1000→(∀ h∈l,h.1.length≤281474976710656∧h.2.length≤281474976710656) →
 first.length≤1000000→more.1.length≤1000000→more.2.length≤1000000→Sl BY M bv body→body.length≤1000000000 →
 (∀ s v' M',gH first l more sz body=.ok s→s.length≤2048 + body.length→ae [] M M'→Ow BY M' M.next T v' s→Q (.tup [v',N .i64 0]) M')→(∀ (e:Nat) M',gH first l more sz body=.error e→(e=1∨e=2)→ae [] M M'→Q (.tup [aH,N .i64 (e:Int)]) M') →
 c [St first,v,.agg [St more.1,St more.2],N .i64 (sz:Int),bv] M Q
theorem DV {B:Base} {TH T:Nat} {cn cv cs:ai} (hn:kY jG cn) (hg:A7 B ig cv) (hs:yG cs) :
  pR B T fun args M Q=>∃ a0 a1 a2 a3 a4,args=[a0,a1,a2,a3,a4]∧jJ TH cn cv cs T a0 a1 a2 a3 a4 M Q:=by
 intro M v bv first body l more sz Q hB hv hll hle hf hm1 hm2 hbv hbl hQ hE
 refine⟨_,_,_,_,_,rfl, ?_⟩
 unfold jJ
 rw[lh rfl (by simp)]
 simp only[aS]
 have k0:ae [] M (M.push (.row [St more.1,St more.2] false TH 0)):=(ae.refl _ _).push _
 have n0:(M.push (.row [St more.1,St more.2] false TH 0)).heap M.next=some (.row [St more.1,St more.2] false TH 0):=by simp[RM.push]
 have l0:M.next<(M.push (.row [St more.1,St more.2] false TH 0)).next:=by simp[RM.push]
 generalize M.push (.row [St more.1,St more.2] false TH 0)=M0 at *
 rw[bL]
 refine⟨by simp; omega, ?_⟩
 rw[aL.len hv]
 refine dW (fun m ys M3=>∃ i:Nat,m=l.length - i∧ys=[St (uk first (l.take i)),N .i64 (i:Int)]∧i≤l.length∧(l.take i).all vB=true∧ae [] M0 M3) _
  ⟨0,rfl,by simp[uk],Nat.zero_le _,rfl,ae.refl _ _⟩ ?_
 rintro next m ys M3 hnext ⟨i,rfl,rfl,hi,hA,k3⟩
 simp only[bE,df,yO]
 have k03:=k0.trans k3
 have hv3:Sl HD M3 v l:=aL.keep hv k03 (by simp)
 have hlen:(uk first (l.take i)).length≤1000002 + 1000 * (2 * 281474976710656 + 4):=by
  have:=E5 (l.take i) 281474976710656 fun h hh=>hle h (List.mem_of_mem_take hh)
  have h2:(l.take i).length≤1000:=by simp; omega
  have h3:=Nat.mul_le_mul_right (2 * 281474976710656 + 4) h2
  unfold uk
  simp only[List.length_append,List.length_cons,List.length_nil]
  omega
 refine dL (fun h=>?_) fun h=>?_
 ·have hlt:i<l.length:=by simpa using h
  obtain⟨b,off,hb,_,hix,hld⟩:=hv3.at 2 (i:Int) hlt
  have hhl:=hle l[i] (List.getElem_mem hlt)
  rw[hix,vH]
  refine⟨_,hld, ?_⟩
  try simp only[aS]
  have n4:(M3.push (.row [St [],St []] false TH 0)).heap M3.next=some (.row [St [],St []] false TH 0):=by simp[RM.push]
  rw[jm n4 (by rfl) (by rfl) (by rfl)]
  have k4:ae [] M3 ((M3.push (.row [St [],St []] false TH 0)).put M3.next (.row (HD.cells l[i]) false TH 0)):=((ae.refl _ _).push _).new _ (Nat.le_refl _)
  have n5:((M3.push (.row [St [],St []] false TH 0)).put M3.next (.row (HD.cells l[i]) false TH 0)).heap M3.next=some (.row (HD.cells l[i]) false TH 0):=aM _
  have l5:M3.next<((M3.push (.row [St [],St []] false TH 0)).put M3.next (.row (HD.cells l[i]) false TH 0)).next:=by simp[RM.push,RM.put]
  generalize (M3.push (.row [St [],St []] false TH 0)).put M3.next (.row (HD.cells l[i]) false TH 0)=M4 at *
  have ld0:∀ {M' : RM} (k:ae [] M4 M') {K' : AV→Prop},ax M' (.ptr M3.next 0) K'=K' (St l[i].1):=fun k=>bq (k.aO n5 l5 (by simp)) rfl
  have ld1:∀ {M' : RM} (k:ae [] M4 M') {K' : AV→Prop},ax M' (.ptr M3.next 1) K'=K' (St l[i].2):=fun k=>bq (k.aO n5 l5 (by simp)) rfl
  simp only[j3,cO]
  rw[ld0 (ae.refl _ _)]
  have kM4:ae [] M M4:=k03.trans k4
  refine hn (by omega) fun M5 k5=>?_
  simp only[cB]
  refine yL (P:=ae [] M4) (p:=!ig l[i].2) k5 (fun _ k hk=>?_) fun M6 k6=>?_
  ·rw[ld1 k5]
   refine hg ((kM4.trans k5).base.trans hB) (by omega) fun M6 k6=>?_
   simp only[cB]
   exact hk M6 (k5.trans k6)
  refine yL (P:=ae [] M4) (p:=low l[i].1 == CV) k6 (fun _ k hk=>?_) fun M7 k7=>?_
  ·rw[ld0 k6]
   refine hs (by omega) fun M7 k7=>?_
   simp only[dQ]
   exact hk M7 (k6.trans k7)
  refine yL (P:=ae [] M4) (p:=low l[i].1 == CL) k7 (fun _ k hk=>?_) fun M8 k8=>?_
  ·rw[ld0 k7]
   refine hs (by omega) fun M8 k8=>?_
   simp only[dQ]
   exact hk M8 (k7.trans k8)
  have hok:vB l[i]=!(!jG l[i].1 || !ig l[i].2 || low l[i].1 == CV || low l[i].1 == CL):=rfl
  have htk:(l.take (i + 1)).all vB=vB l[i]:=by
   rw[List.take_succ_eq_append_getElem hlt,List.all_append,hA]; simp
  refine dL (fun h=>?_) fun h=>?_
  ·have hbad:vB l[i]=false:=by rw[hok,h]; rfl
   refine hE 1 M8 ?_ (.inl rfl) (kM4.trans k8)
   have:l.all vB=false:=by
    rw[← List.take_append_drop (i + 1) l,List.all_append,htk,hbad]; rfl
   unfold gH; rw[this]
  ·have hgd:vB l[i]=true:=by rw[hok,h]; rfl
   rw[ld0 k8,bL]
   refine⟨by simp; omega, ?_⟩
   rw[ld1 k8,bL]
   refine⟨by simp; omega, ?_⟩
   rw[bL]
   refine⟨by simp; omega, ?_⟩
   rw[bL]
   refine⟨by simp; omega, ?_⟩
   rw[add1 (by omega)]
   refine hnext _ _ _ (by omega) ⟨i + 1,rfl, ?_,by omega,by rw[htk,hgd],k3.trans (k4.trans k8)⟩
   congr 2
   unfold uk
   rw[List.take_succ_eq_append_getElem hlt,List.flatMap_append]
   simp[wV]
 ·have:i=l.length:=by simp at h; omega
  subst this
  rw[List.take_length] at hA hlen
  have n3:=k3.aO n0 l0 (by simp)
  simp only[List.take_length,j3,cO]
  rw[bq n3 rfl,bL]
  refine⟨by simp; omega, ?_⟩
  rw[bq n3 (by rfl:([St more.1,St more.2] : List AV)[1]?=some (St more.2)),bL]
  refine⟨by simp; omega, ?_⟩
  rw[bL]
  refine⟨by simp; omega, ?_⟩
  rw[bL]
  refine⟨by simp; omega, ?_⟩
  rw[bL]
  refine⟨by simp; omega, ?_⟩
  have hs:uk first l++(more.1++[58,32]++more.2++[13,10]++[13,10])=pM first l more:=rfl
  rw[hs,aL.len hv,add1 (by omega),show(N .i64 32)=N .i64 ((32:Nat) : Int) from rfl,fo]
  refine Bu (p:=decide (((pM first l more).length:Int) > 2048)) (fun _ k hk=>by simpa only[go_sem] using hk) ?_
  refine Bu (p:=decide ((sz:Int) > 16384)) (fun _ k hk=>by simpa only[go_sem] using hk) ?_
  have ht:(decide (((l.length + 1:Nat) : Int) > ((32:Nat) : Int)) || decide (((pM first l more).length:Int) > 2048) || decide ((sz:Int) > 16384))=Ck l (pM first l more) sz:=rfl
  rw[ht]
  refine dL (fun h=>?_) fun h=>?_
  ·exact hE 2 M3 (by unfold gH; rw[hA]; simp only[h]) (.inr rfl) k03
  ·rw[gV]
   simp only[aS]
   have k4:ae [] M3 (M3.push (.row (BY.row (pM first l more)) true T 0)):=(ae.refl _ _).push _
   have hal:(pM first l more).length≤2048:=by
    have h':=h
    unfold Ck at h'
    simp only[Bool.or_eq_false_iff,decide_eq_false_iff_not] at h'
    omega
   have o4:Ow BY (M3.push (.row (BY.row (pM first l more)) true T 0)) M3.next T (.slc M3.next 0 (pM first l more).length (.op 1)) (pM first l more) :=
    Own.op _ _ _ (Nat.le_refl _) (by simp[RM.push]) (RM.lq _) (by rw[Enc.eY])
   refine pg (E:=BY) o4 k4.next (by decide) (aL.keep (aL.keep hbv k03 (by simp)) k4 (by simp)) (by omega) (by omega) fun v7 M7 o7 k7 _ _=>?_
   refine hQ _ v7 M7 (by unfold gH; rw[hA]; simp only[h]) (by simp; omega) ?_ (Own.mono o7 k03.next)
   refine ae.own (k03.trans k4) k7 (fun x hx=>?_)
   have:=k03.next
   simp[aN] at hx; omega
def l8 (base:Nat) : Nat→Nat→Str
 | 0,_=>[]
 | f + 1,n=>match Nat.blt n base with
   | true=>[if n<10 then UInt8.ofNat (48 + n) else UInt8.ofNat (87 + n)]
   | false=>l8 base f (n / base)++[if n % base<10 then UInt8.ofNat (48 + n % base) else UInt8.ofNat (87 + n % base)]
def gK (n:Nat) : Str:=l8 10 20 n
def fC (n:Nat) : Str:=l8 16 20 n
def G8 (B:Base) (c:ai) : Prop:=∀ {M:RM} {n:Nat} {Q:ah},M.base=B→n<1000000000000→(∀ M',ae [] M M'→Q (St (gK n)) M')→c [N .i64 (n:Int)] M Q
def BN (B:Base) (c:ai) : Prop:=∀ {M:RM} {n:Nat} {Q:ah},M.base=B→n<4294967296→(∀ M',ae [] M M'→Q (St (fC n)) M')→c [N .i64 (n:Int),N .i64 16] M Q
theorem pE:∀ (base f n:Nat),(l8 base f n).length≤f
 | _,0,_=>by simp[l8]
 | base,f + 1,n=>by
   rw[l8]
   split
   ·simp
   ·have:=pE base f (n / base); simp; omega
abbrev nD:Str:=[67,111,110,116,101,110,116,45,76,101,110,103,116,104]
abbrev Hf:Str:=[84,114,97,110,115,102,101,114,45,69,110,99,111,100,105,110,103]
def uI (B:Base) (c:ai) : Prop:=∀ {M:RM} {n:Nat} {Q:ah},M.base=B→n<1000000000000→(∀ M',ae [] M M'→Q (.agg [St nD,St (gK n)]) M')→c [N .i64 (n:Int)] M Q
theorem D8 {B:Base} {T:Nat} {ci:ai} (hi:G8 B ci) : uI B fun args M Q=>∃ a0,args=[a0]∧jO T ci a0 M Q:=by
 intro M n Q hB hn hQ
 refine⟨_,rfl, ?_⟩
 unfold jO
 simp only[aS]
 have k0:ae [] M (M.push (.row [St [],St []] false T 0)):=(ae.refl _ _).push _
 have n0:(M.push (.row [St [],St []] false T 0)).heap M.next=some (.row [St [],St []] false T 0):=by simp[RM.push]
 have l0:M.next<(M.push (.row [St [],St []] false T 0)).next:=by simp[RM.push]
 generalize M.push (.row [St [],St []] false T 0)=M0 at *
 refine hi (k0.base.trans hB) hn fun M1 k1=>?_
 rw[gy]
 refine⟨_,zT rfl rfl rfl rfl, ?_⟩
 rw[jm (k1.aO n0 l0 (by simp)) (by rfl) (by rfl) (by rfl),bS (aM _) (by rfl)]
 exact hQ _ ((k0.trans k1).new _ (Nat.le_refl _))
def uH (m p:Str) : Bool:=ik m && jd p
def tF (c:ai) : Prop:=∀ {M:RM} {m p:Str} {x y:AV} {Q:ah},oneCell x=true→oneCell y=true→m.length<4611686018427387904→p.length<4611686018427387904→(∀ M',ae [] M M'→Q (Bo (uH m p)) M')→c [.agg [St m,St p,x,y]] M Q
theorem EF {T:Nat} {cm cp:ai} (hm:kY ik cm) (hp:kY jd cp) : tF fun args M Q=>∃ a0,args=[a0]∧iF T cm cp a0 M Q:=by
 intro M m p x y Q hx hy h1 h2 hQ
 refine⟨_,rfl, ?_⟩
 unfold iF
 rw[lh (by simp only[List.all_cons,List.all_nil,hx,hy]; rfl) (by simp)]
 simp only[aS,cO]
 have k0:ae [] M (M.push (.row [St m,St p,x,y] false T 0)):=(ae.refl _ _).push _
 have n0:(M.push (.row [St m,St p,x,y] false T 0)).heap M.next=some (.row [St m,St p,x,y] false T 0):=by simp[RM.push]
 have l0:M.next<(M.push (.row [St m,St p,x,y] false T 0)).next:=by simp[RM.push]
 generalize M.push (.row [St m,St p,x,y] false T 0)=M0 at *
 rw[j3,bq n0 rfl]
 refine hm h1 fun M1 k1=>?_
 refine Ar (P:=ae [] M) (p:=jd p) (k0.trans k1) (fun _ k hk=>?_) hQ
 rw[j3,bq (k1.aO n0 l0 (by simp)) rfl]
 exact hp h2 fun M2 k2=>hk M2 (k0.trans (k1.trans k2))
def DL (m p:Str) : Str:=m++[32]++p++[32]++NH
def lI (m p:Str) (l:List Hd) (body:Str) : Except Nat Str:=match uH m p with
 | false=>.error 1
 | true=>gH (DL m p) l (nD,gK body.length) body.length body
theorem Em {m p:Str} (h:uH m p=true) : m.length≤8∧p.length≤201:=by
 unfold uH ik jd iL at h
 simp only[Bool.and_eq_true,decide_eq_true_eq] at h
 omega
def CJ (B:Base) (T:Nat) (c:ai) : Prop:=∀ {M:RM} {hv bv:AV} {m p body:Str} {l:List Hd} {Q:ah},M.base=B→Sl HD M hv l→l.length≤1000→(∀ h∈l,h.1.length≤281474976710656∧h.2.length≤281474976710656) →
 m.length≤281474976710656→p.length≤281474976710656→Sl BY M bv body→body.length≤1000000000 →
 (∀ s v' M',lI m p l body=.ok s→s.length≤2048 + body.length→ae [] M M'→Ow BY M' M.next T v' s→Q (.tup [v',N .i64 0]) M')→(∀ (e:Nat) M',lI m p l body=.error e→(e=1∨e=2)→ae [] M M'→Q (.tup [aH,N .i64 (e:Int)]) M') →
 c [.agg [St m,St p,hv,bv]] M Q
theorem Dc {B:Base} {T T8:Nat} {cg cc cp:ai} (hg:tF cg) (hc:uI B cc) (hp:pR B T8 cp) : CJ B T8 fun args M Q=>∃ a0,args=[a0]∧gP T cg cc cp a0 M Q:=by
 intro M hv bv m p body l Q hB hh hll hle hm hpl hb hbl hQ hE
 refine⟨_,rfl, ?_⟩
 unfold gP
 have ohv:=aL.one hh
 have obv:=aL.one hb
 rw[lh (by simp only[List.all_cons,List.all_nil,ohv,obv]; rfl) (by simp)]
 simp only[aS]
 have k0:ae [] M (M.push (.row [St m,St p,hv,bv] false T 0)):=(ae.refl _ _).push _
 have n0:(M.push (.row [St m,St p,hv,bv] false T 0)).heap M.next=some (.row [St m,St p,hv,bv] false T 0):=by simp[RM.push]
 have l0:M.next<(M.push (.row [St m,St p,hv,bv] false T 0)).next:=by simp[RM.push]
 generalize M.push (.row [St m,St p,hv,bv] false T 0)=M0 at *
 rw[bS n0 (by rfl)]
 refine hg ohv obv (by omega) (by omega) fun M1 k1=>?_
 have n1:=k1.aO n0 l0 (by simp)
 have l1:=Nat.lt_of_lt_of_le l0 k1.next
 have k01:=k0.trans k1
 simp only[cB]
 refine dL (fun h=>?_) fun h=>?_
 ·have hk:uH m p=false:=by simpa using h
  exact hE 1 M1 (by unfold lI; rw[hk]) (.inl rfl) k01
 have hk:uH m p=true:=by simpa using h
 obtain⟨q1,q2⟩:=Em hk
 have e:lI m p l body=gH (DL m p) l (nD,gK body.length) body.length body:=by unfold lI; rw[hk]
 rw[e] at hQ hE
 have ld0:∀ {M' : RM} (k:ae [] M1 M') {K' : AV→Prop},ax M' (.ptr M.next 0) K'=K' (St m):=fun k=>bq (k.aO n1 l1 (by simp)) rfl
 have ld1:∀ {M' : RM} (k:ae [] M1 M') {K' : AV→Prop},ax M' (.ptr M.next 1) K'=K' (St p):=fun k=>bq (k.aO n1 l1 (by simp)) rfl
 have ld2:∀ {M' : RM} (k:ae [] M1 M') {K' : AV→Prop},ax M' (.ptr M.next 2) K'=K' hv:=fun k=>bq (k.aO n1 l1 (by simp)) rfl
 have ld3:∀ {M' : RM} (k:ae [] M1 M') {K' : AV→Prop},ax M' (.ptr M.next 3) K'=K' bv:=fun k=>bq (k.aO n1 l1 (by simp)) rfl
 simp only[j3,ld0 (ae.refl _ M1),ld1 (ae.refl _ M1),ld2 (ae.refl _ M1),ld3 (ae.refl _ M1)]
 rw[bL]
 refine⟨by simp; omega, ?_⟩
 rw[bL]
 refine⟨by simp; omega, ?_⟩
 rw[bL]
 refine⟨by simp; omega, ?_⟩
 rw[bL]
 refine⟨by simp; omega, ?_⟩
 rw[aL.len hb,aL.len hb]
 refine hc (n:=body.length) (k01.base.trans hB) (by omega) fun M2 k2=>?_
 have k02:=k01.trans k2
 rw[ld0 k2]; refine⟨rfl, ?_⟩
 rw[ld1 k2]; refine⟨rfl, ?_⟩
 rw[ld2 k2]; refine⟨rfl, ?_⟩
 rw[ld3 k2]; refine⟨rfl, ?_⟩
 rw[ld3 k2]; refine⟨rfl, ?_⟩
 have hil:(gK body.length).length≤20:=pE _ _ _
 refine hp (more:=(nD,gK body.length)) (k02.base.trans hB) (aL.keep hh k02 (by simp)) hll hle (by simp; omega) (by simp) (by simpa using (by omega:(gK body.length).length≤1000000)) (aL.keep hb k02 (by simp)) hbl (fun s v' M3 e3 hl3 k3 o3=>?_) (fun e' M3 e3 he k3=>?_)
 ·simp only[aT,aU]
  exact hQ s v' M3 e3 hl3 (k02.trans k3) (Own.mono o3 k02.next)
 ·simp only[aT,aU]
  exact hE e' M3 e3 he (k02.trans k3)
def BK (n:Int) : Bool:=decide (n<100) || decide (n > 599)
def wG (n:Int) : Str:=if (n.tdiv 100 == 2)=true then[79,75] else[78,111]
def Dx (n:Int) : Str:=D5++gK n.toNat++[32]++wG n
def iV (n:Int) (l:List Hd) (body:Str) : Except Nat Str:=match BK n with
 | true=>.error 1
 | false=>gH (Dx n) l (nD,gK body.length) body.length body
def Bb (B:Base) (T:Nat) (c:ai) : Prop:=∀ {M:RM} {hv bv:AV} {n:Int} {body:Str} {l:List Hd} {Q:ah},M.base=B→Sl HD M hv l→l.length≤1000→(∀ h∈l,h.1.length≤281474976710656∧h.2.length≤281474976710656) →
 Sl BY M bv body→body.length≤1000000000 →
 (∀ s v' M',iV n l body=.ok s→s.length≤2048 + body.length→ae [] M M'→Ow BY M' M.next T v' s→Q (.tup [v',N .i64 0]) M')→(∀ (e:Nat) M',iV n l body=.error e→(e=1∨e=2)→ae [] M M'→Q (.tup [aH,N .i64 (e:Int)]) M') →
 c [.agg [N .i64 n,hv,bv]] M Q
theorem Br {B:Base} {T T8:Nat} {ci cc cp:ai} (hi:G8 B ci) (hc:uI B cc) (hp:pR B T8 cp) : Bb B T8 fun args M Q=>∃ a0,args=[a0]∧gI T ci cc cp a0 M Q:=by
 intro M hv bv n body l Q hB hh hll hle hb hbl hQ hE
 refine⟨_,rfl, ?_⟩
 unfold gI
 have ohv:=aL.one hh
 have obv:=aL.one hb
 rw[lh (by simp only[List.all_cons,List.all_nil,ohv,obv]; rfl) (by simp)]
 simp only[aS]
 have k0:ae [] M (M.push (.row [N .i64 n,hv,bv] false T 0)):=(ae.refl _ _).push _
 have n0:(M.push (.row [N .i64 n,hv,bv] false T 0)).heap M.next=some (.row [N .i64 n,hv,bv] false T 0):=by simp[RM.push]
 have l0:M.next<(M.push (.row [N .i64 n,hv,bv] false T 0)).next:=by simp[RM.push]
 generalize M.push (.row [N .i64 n,hv,bv] false T 0)=M1 at *
 have ld0:∀ {M' : RM} (k:ae [] M1 M') {K' : AV→Prop},ax M' (.ptr M.next 0) K'=K' (N .i64 n):=fun k=>bq (k.aO n0 l0 (by simp)) rfl
 have ld1:∀ {M' : RM} (k:ae [] M1 M') {K' : AV→Prop},ax M' (.ptr M.next 1) K'=K' hv:=fun k=>bq (k.aO n0 l0 (by simp)) rfl
 have ld2:∀ {M' : RM} (k:ae [] M1 M') {K' : AV→Prop},ax M' (.ptr M.next 2) K'=K' bv:=fun k=>bq (k.aO n0 l0 (by simp)) rfl
 simp only[j3,cO,ld0 (ae.refl _ M1),ld1 (ae.refl _ M1),ld2 (ae.refl _ M1),iG]
 refine Bu (p:=decide (n > 599)) (fun _ k hk=>?_) ?_
 ·simpa only[fo,ld0 (ae.refl _ M1)] using hk
 have hbc:(decide (n<100) || decide (n > 599))=BK n:=rfl
 rw[hbc]
 refine dL (fun h=>?_) fun h=>?_
 ·exact hE 1 M1 (by unfold iV; rw[h]) (.inl rfl) k0
 have h':=h
 unfold BK at h'
 simp only[Bool.or_eq_false_iff,decide_eq_false_iff_not] at h'
 have e:iV n l body=gH (Dx n) l (nD,gK body.length) body.length body:=by unfold iV; rw[h]
 rw[e] at hQ hE
 rw[mP,ld0 (ae.refl _ M1),KU]
 refine⟨by decide, ?_⟩
 have hdv:1≤n.tdiv 100∧n.tdiv 100≤5:=by
  rw[Int.tdiv_eq_ediv_of_nonneg (by omega)]; omega
 rw[gB (by omega) (by omega),bB]
 have tail:∀ w:Str,w=wG n→((ax M1 (.ptr M.next 0) fun t18=>ax M1 (.ptr M.next 1) fun t25=>ax M1 (.ptr M.next 2) fun t27=>bg t27 fun t28=>ax M1 (.ptr M.next 2) fun t31=>bg t31 fun t32=>ax M1 (.ptr M.next 2) fun t34=>ci [t18] M1 fun t19 M_9=>ax M_9 (.ptr M.next 1) fun N8=>(N8=t25∧ax M_9 (.ptr M.next 2) fun ML=>(ML=t27∧ax M_9 (.ptr M.next 2) fun NF=>(NF=t31∧ax M_9 (.ptr M.next 2) fun NU=>(NU=t34∧aW .add (St [72,84,84,80,47,49,46,49,32]) t19 fun t20=>aW .add t20 (St [32]) fun t21=>aW .add t21 (St w) fun t23=>cc [t28] M_9 fun t29 Hg=>ax Hg (.ptr M.next 1) fun MO=>(MO=t25∧ax Hg (.ptr M.next 2) fun Nq=>(Nq=t31∧ax Hg (.ptr M.next 2) fun ND=>(ND=t34∧cp [t23,t25,t29,t32,t34] Hg fun t35 Le=>aC t35 0 fun t36=>aC t35 1 fun t37=>Q (.tup [t36,t37]) Le)))))))) : Prop):=by
  intro w hw
  rw[ld0 (ae.refl _ M1),ld1 (ae.refl _ M1),ld2 (ae.refl _ M1),aL.len hb,ld2 (ae.refl _ M1),aL.len hb,ld2 (ae.refl _ M1)]
  obtain⟨m,rfl⟩ : ∃ m:Nat,n=(m:Int):=⟨n.toNat,by omega⟩
  refine hi (k0.base.trans hB) (by omega) fun M2 k2=>?_
  rw[ld1 k2]; refine⟨rfl, ?_⟩
  rw[ld2 k2]; refine⟨rfl, ?_⟩
  rw[ld2 k2]; refine⟨rfl, ?_⟩
  rw[ld2 k2]; refine⟨rfl, ?_⟩
  have hl1:(gK m).length≤20:=pE _ _ _
  have hl2:(gK body.length).length≤20:=pE _ _ _
  have hwl:w.length≤2:=by rw[hw]; unfold wG; split <;> simp
  rw[bL]
  refine⟨by simp; omega, ?_⟩
  rw[bL]
  refine⟨by simp; omega, ?_⟩
  rw[bL]
  refine⟨by simp; omega, ?_⟩
  have k02:=k0.trans k2
  refine hc (n:=body.length) (k02.base.trans hB) (by omega) fun M3 k3=>?_
  have k23:=k2.trans k3
  rw[ld1 k23]; refine⟨rfl, ?_⟩
  rw[ld2 k23]; refine⟨rfl, ?_⟩
  rw[ld2 k23]; refine⟨rfl, ?_⟩
  have k03:=k0.trans k23
  have LK:[72,84,84,80,47,49,46,49,32]++gK m++[32]++w=Dx (m:Int):=by rw[hw]; rfl
  rw[LK]
  have QG:(Dx (m:Int)).length≤1000000:=by rw[← LK]; simp; omega
  refine hp (more:=(nD,gK body.length)) (k03.base.trans hB) (aL.keep hh k03 (by simp)) hll hle QG (by simp) (by simpa using (by omega:(gK body.length).length≤1000000)) (aL.keep hb k03 (by simp)) hbl (fun s v' M4 e4 hl4 k4 o4=>?_) (fun e' M4 e4 he k4=>?_)
  ·simp only[aT,aU]
   exact hQ s v' M4 e4 hl4 (k03.trans k4) (Own.mono o4 k03.next)
  ·simp only[aT,aU]
   exact hE e' M4 e4 he (k03.trans k4)
 refine dL (fun h=>?_) fun h=>?_
 ·exact tail [79,75] (by unfold wG; rw[if_pos h])
 ·exact tail [78,111] (by unfold wG; rw[if_neg (by rw[h]; decide)])
abbrev ZB:List AV:=[N .u8 0]
theorem uh (n:Nat) : (bV ZB n).length=n∧(bV ZB n).all oneCell=true:=by
 induction n with
 | zero=>simp[bV]
 | succ n ih=>rw[bV,List.length_append,List.all_append,ih.1,ih.2]; simp[oneCell]; omega
theorem EL:∀ (a b:Nat),bV ZB (a + b)=bV ZB a++bV ZB b
 | 0,b=>by simp[bV]
 | a + 1,b=>by rw[show a + 1 + b=(a + b) + 1 by omega,bV,bV,EL a b]; simp
theorem jN (s:Str) : (BY.row s).length=s.length:=by rw[Enc.eY]; simp[BY]
theorem O0 {M:RM} {b T k:Nat} {ps ys:Str} {u:AV} {zs:List AV} {K:ah} (hb:M.heap b=some (.row (BY.row ps++bV ZB k) true T 0)) (hu:Sl BY M u ys) (hk:ys.length≤k) (hl:ps.length + ys.length≤1000000000)
  (hK:∀ M',M'.heap b=some (.row (BY.row (ps++ys)++bV ZB (k - ys.length)) true T 0)→ae [b] M M'→M'.next=M.next→K (.slc b 0 (ps++ys).length (.op 1)) M') :
  appW T 1 1 zs false (.slc b 0 ps.length (.op 1)) u M K:=by
 have hn:=aL.mh hu zs
 refine⟨ys.length,BY.row ys,hn,by omega,by omega, ?_⟩
 by_cases h0:ys.length=0
 ·have:ys=[]:=List.length_eq_zero_iff.1 h0
  subst this
  refine⟨.slc b 0 ps.length (.op 1),M,by simp[qz], ?_⟩
  have:=hK M (by simpa using hb) (ae.refl _ _) rfl
  simpa using this
 ·have hfit:0 + (ps.length + ys.length) * 1≤(BY.row ps++bV ZB k).length:=by
   rw[List.length_append,jN,(uh k).1]; omega
  refine⟨.slc b 0 (ps.length + ys.length) (.op 1),M.put b (.row (BY.row (ps++ys)++bV ZB (k - ys.length)) true T 0), ?_, ?_⟩
  ·simp only[qz,if_neg h0,hb]
   rw[if_pos (by simp),if_pos hfit,RM.vV hb,qa (by rw[jN,List.length_append,jN,(uh k).1]; omega) (by omega) (BY.o8 ys)]
   simp only[Option.map_some]
   congr 4
   rw[Enc.lZ]
   have e1:(BY.row ps++bV ZB k).take (0 + ps.length * 1)=BY.row ps:=by rw[List.take_left' (by rw[jN]; omega)]
   have e2:(BY.row ps++bV ZB k).drop (0 + ps.length * 1 + (BY.row ys).length)=bV ZB (k - ys.length):=by
    rw[show bV ZB k=bV ZB ys.length++bV ZB (k - ys.length) by rw[← EL]; congr 1; omega,← List.append_assoc,List.drop_left' (by rw[List.length_append,jN,(uh _).1,jN]; omega)]
   rw[e1,e2]
  ·have:=hK _ (aM _) ((ae.refl _ _).put _ (.inr (by simp))) rfl
   rw[List.length_append] at this
   exact this
theorem Mx {M:RM} {base T n:Nat} {v:AV} {cs:List AV} (h:Own M base T 1 v cs n) (hn:0<n) : ∃ b,v=.slc b 0 n (.op 1)∧base≤b∧b<M.next∧M.heap b=some (.row cs true T 0):=by
 cases h with
 | nil=>omega
 | ex0 b o _ _ _=>omega
 | op b n cs h1 h2 h3 h4=>exact⟨b,rfl,h1,h2,h3⟩
def EB (T:Nat) (c:ai) : Prop:=∀ {M:RM} {n:Nat} {Q:ah},n≤1000000000→0<n →
 (∀ b M',M.next≤b→b<M'.next→M'.heap b=some (.row (bV ZB n) true T 0)→ae [] M M'→Q (.slc b 0 0 (.op 1)) M')→c [aH,N .i64 (n:Int)] M Q
theorem Ib {TS T:Nat} : EB T fun args M Q=>∃ a0 a1,args=[a0,a1]∧rR TS T a0 a1 M Q:=by
 intro M n Q hn hz h1
 refine⟨_,_,rfl, ?_⟩
 unfold rR
 rw[mP,iG,show decide ((n:Int)<0)=false by simp,bf]
 dsimp only
 rw[mP]
 have hcap:∀ K:AV→Prop,tC aH K=K (N .i64 0):=fun K=>by
  unfold tC
  exact propext ⟨fun⟨m,h,k⟩=>by cases h; exact k,fun k=>⟨0,rfl,k⟩⟩
 rw[hcap,yR,jS,show IntKind.wrap .i64 ((0:Int) - 0)=0 from by rw[gB] <;> decide,jS,Int.sub_zero,gB (by omega) (by omega),fo]
 dsimp only[au]
 rw[show decide ((n:Int) > 0)=true by simp; omega,bR,hcap,show di 1 aH none (some (N .i64 0)) none=some aH by simp[di,bnd],dU]
 have hr:=uh n
 refine xD (base:=M.next) (m:=n) (ds:=bV ZB n) .nil (Nat.le_refl _) (Nat.le_refl _) (by simp[mh]) (by rw[hr.1,Nat.mul_one]) hr.2 (by omega) (by omega) ?_
 intro v' M' o k _ _
 rw[Nat.zero_add] at o
 obtain⟨b,rfl,q1,q2,q3⟩:=Mx o (by omega)
 rw[yR,show di 1 (.slc b 0 n (.op 1)) none (some (N .i64 0)) none=some (.slc b 0 0 (.op 1)) by simp[di,bnd]; omega,dU]
 exact h1 b M' q1 q2 (by simpa using q3) (by simpa [aN] using k)
def zI (T:Nat) (c:ai) : Prop:=∀ {M:RM} {bb TB:Nat} {vs:List AV} {xss:List Str} {Q:ah},M.heap bb=some (.row vs false TB 0)→bb<M.next→vs.length=xss.length→vs.length≤1000→(∀ (i:Nat) (v:AV) (x:Str),vs[i]?=some v→xss[i]?=some x→Sl BY M v x) →
 0<xss.flatten.length→xss.flatten.length≤1000000000→(∀ r M',Ow BY M' M.next T r xss.flatten→ae [] M M'→Q r M')→c [.slc bb 0 vs.length (.ex vs.length)] M Q
theorem ED {TS T:Nat} {cg:ai} (hg:EB T cg) : zI T fun args M Q=>∃ a0,args=[a0]∧og TS cg T a0 M Q:=by
 intro M bb TB vs xss Q hb hbl hlen hvl hv hpos hmax hQ
 refine⟨_,rfl, ?_⟩
 unfold og
 simp only[mP]
 have at_:∀ (i:Nat) (K:AV→Prop),i<vs.length→dz (.slc bb 0 vs.length (.ex vs.length)) (N .i64 (i:Int)) 1 K=K (.ptr bb i):=fun i K hi=>by
  rw[pW]
  simp only[Int.toNat_natCast,Nat.mul_one,Nat.zero_add]
  exact propext ⟨fun h=>h.2.2,fun h=>⟨by omega,by omega,h⟩⟩
 have hfl:∀ i,i≤xss.length→(xss.take i).flatten.length≤xss.flatten.length:=fun i _=>by
  have e:xss.flatten=(xss.take i).flatten++(xss.drop i).flatten:=by rw[← List.flatten_append,List.take_append_drop]
  rw[e,List.length_append]; omega
 have hst:∀ i (hi:i<xss.length),(xss.take (i + 1)).flatten=(xss.take i).flatten++xss[i]:=fun i hi=>by
  rw[List.take_succ_eq_append_getElem hi,List.flatten_append,List.flatten_cons,List.flatten_nil,List.append_nil]
 rw[jL]
 refine dW (fun m zs M3=>∃ i:Nat,m=vs.length - i∧i≤vs.length∧zs=[N .i64 ((xss.take i).flatten.length:Int),N .i64 (i:Int)]∧M3=M) _ ⟨0,rfl,Nat.zero_le _,rfl,rfl⟩ ?_
 rintro next m zs M3 hnext ⟨i,rfl,hi,rfl,rfl⟩
 simp only[bE,df,yO]
 refine dL (fun h=>?_) fun h=>?_
 ·have hlt:i<vs.length:=by simpa using h
  have hlx:i<xss.length:=by omega
  have sl:=hv i vs[i] xss[i] (List.getElem?_eq_getElem hlt) (List.getElem?_eq_getElem hlx)
  have h1:=hfl (i + 1) (by omega)
  have h2:=congrArg List.length (hst i hlx)
  rw[List.length_append] at h2
  rw[at_ i _ hlt,bq hb (List.getElem?_eq_getElem hlt),aL.len sl,addN (by omega),iG,show decide ((((xss.take i).flatten.length + xss[i].length:Nat) : Int)<0)=false by simp; omega,bf]
  try simp only[bE]
  rw[add1 (by omega)]
  exact hnext _ _ _ (by omega) ⟨i + 1,rfl,by omega,by rw[h2],rfl⟩
 ·have:i=vs.length:=by simp at h; omega
  subst this
  rw[hlen,List.take_length]
  refine hg hmax hpos fun b M4 hb0 hb1 hrow k4=>?_
  rw[← hlen,jL]
  have hbb:bb≠b:=by omega
  refine dW (fun m zs M5=>∃ i:Nat,m=vs.length - i∧i≤vs.length∧zs=[.slc b 0 (xss.take i).flatten.length (.op 1),N .i64 (i:Int)]∧ae [b] M4 M5∧M5.next=M4.next ∧
    M5.heap b=some (.row (BY.row (xss.take i).flatten++bV ZB (xss.flatten.length - (xss.take i).flatten.length)) true T 0)) _
   ⟨0,rfl,Nat.zero_le _,rfl,ae.refl _ _,rfl,by simpa [Enc.row] using hrow⟩ ?_
  rintro next2 m zs M5 Ob ⟨i,rfl,hi2,rfl,k5,n5,Dt⟩
  simp only[bE,df,yO]
  refine dL (fun h=>?_) fun h=>?_
  ·have hlt:i<vs.length:=by simpa using h
   have hlx:i<xss.length:=by omega
   have sl:=hv i vs[i] xss[i] (List.getElem?_eq_getElem hlt) (List.getElem?_eq_getElem hlx)
   have hb4:=k4.aO hb hbl (by simp)
   have hb5:=k5.aO hb4 (by omega) (by simp; exact hbb)
   have sl5:Sl BY M5 vs[i] xss[i]:=aL.keep (aL.keep sl k4 (by simp)) k5 (fun d hd hm=>by have:=aL.lt sl d hd; simp at hm; omega)
   have h1:=hfl (i + 1) (by omega)
   have h2:=congrArg List.length (hst i hlx)
   rw[List.length_append] at h2
   rw[at_ i _ hlt,bq hb5 (List.getElem?_eq_getElem hlt)]
   refine O0 Dt sl5 (by omega) (by omega) fun M6 OX k6 n6=>?_
   rw[add1 (by omega)]
   refine Ob _ _ _ (by omega) ⟨i + 1,rfl,by omega,by rw[hst i hlx],k5.trans k6,by rw[n6,n5], ?_⟩
   rw[OX,hst i hlx,List.length_append,Nat.sub_sub]
  ·have:i=vs.length:=by simp at h; omega
   subst this
   rw[hlen,List.take_length] at Dt ⊢
   rw[Nat.sub_self] at Dt
   have Nr:M5.heap b=some (.row (BY.row xss.flatten) true T 0):=by simpa [bV] using Dt
   refine hQ _ M5 (Own.op _ _ _ hb0 (by omega) Nr (by rw[Enc.eY])) ?_
   exact⟨k5.base.trans k4.base,by rw[n5]; exact k4.next,fun x hx _=>by rw[k5.heap x (Nat.lt_of_lt_of_le hx k4.next) (by simp; omega),k4.heap x hx (by simp)]⟩
def BU (T:Nat) (c:ai) : Prop:=∀ {M:RM} {v:AV} {s:List Int} {Q:ah},Sl INT M v s→s.length≤1000000→(∀ v' M',Ow INT M' M.next T v' s→ae [] M M'→Q v' M')→c [v] M Q
theorem FQ {T:Nat} : BU T fun args M Q=>∃ a0,args=[a0]∧rH T a0 M Q:=by
 intro M v s Q hv hl hQ
 refine⟨_,rfl, ?_⟩
 unfold rH
 rcases aL.sW hv false with⟨rfl,he⟩ | ⟨hne,he⟩
 ·rw[he,show(!false)=true from rfl,bR]
  have:s=[]:=by
   unfold Sl at hv
   cases s with
   | nil=>rfl
   | cons x s=>generalize hcs:INT.row (x :: s)=cs at *; generalize hn:(x :: s).length=n at *; cases hv; cases hcs
  subst this
  exact hQ aH M .nil (ae.refl _ _)
 ·rw[he,bf,Iu]
  simp only[aS]
  have k1:ae [] M (M.push (.row [] false T 0)):=(ae.refl _ _).push _
  refine pg (E:=INT) (Ow.lit INT M) (by simp[RM.push]) (by decide) (aL.keep hv k1 (by simp)) (by simp; omega) (by simp; omega) fun v7 M7 o7 k7 _ _=>?_
  refine hQ v7 M7 (by simpa using o7) ?_
  refine ae.own k1 k7 (fun b hb=>?_)
  simp[aN] at hb; omega
theorem Gr {M:RM} {base T:Nat} {v:AV} {xs s:Str} {zs:List AV} {K:ah} (ho:Ow BY M base T v xs) (hb:base≤M.next) (hn:xs.length + s.length≤1000000000)
  (hK:∀ v' M',Ow BY M' base T v' (xs++s)→ae (aN v) M M'→K v' M') : appW T 1 1 zs false v (St s) M K:=by
 have e:mh M 1 zs false (St s)=some (s.length,BY.row s):=by simp[mh,AO]
 refine xD ho hb (by decide) e (by rw[jN,Nat.mul_one]) (BY.o8 s) (by omega) (by omega) fun v' M' h1 h2 _ _=>?_
 refine hK v' M' ?_ h2
 rw[← Enc.lZ] at h1
 unfold Ow; rw[List.length_append]; exact h1
def rO (n:Int) (rest:Str) : Int:=if (rest.length:Int)<n then(rest.length:Int) else n
def nR (s:Str) : Str:=fC s.length++[13,10]++s++[13,10]
def iR:List Int→Str→Str→Str × Str
 | [],acc,rest=>(acc,rest)
 | n :: ns,acc,rest=>match decide (rO n rest<1) with
   | true=>iR ns acc rest
   | false=>iR ns (acc++nR (rest.take (rO n rest).toNat)) (rest.drop (rO n rest).toNat)
abbrev Gw:Str:=[48,13,10,13,10]
def jc (m p:Str) (l:List Hd) (body:Str) (sizes:List Int) : Except Nat Str:=match uH m p with
 | false=>.error 1
 | true=>gH (DL m p) l (Hf,CO) body.length ((iR (sizes++[(body.length:Int)]) [] body).1++Gw)
theorem Ph {T:Nat} {zs:List AV} {a b c d z:AV} {K:RB→(Nat→AV)→Prop} (ha:a.cells=[a]) (hb:b.cells=[b]) (hc:c.cells=[c]) (hd:d.cells=[d]) (ha1:oneCell a=true) (hb1:oneCell b=true) (hc1:oneCell c=true) (hd1:oneCell d=true) :
  bX T 4 [z] [(0,1,a),(1,1,b),(2,1,c),(3,1,d)] K=K (.row [a,b,c,d] false T 0) (fun b=>.slc b 0 4 (.ex 4)):=by
 have:nJ (bV [z] 4) [(0,1,a),(1,1,b),(2,1,c),(3,1,d)]=some [a,b,c,d]:=by
  simp[nJ,bV,ha,hb,hc,hd,ha1,hb1,hc1,hd1]
 apply propext; unfold bX
 constructor
 ·rintro⟨l,h,hk⟩; rw[this] at h; cases h; exact hk
 ·intro hk; exact⟨_,this,hk⟩
theorem Bs.new (M:RM) (T:Nat) (s:Str) : Bs (M.push (.row (BY.row s) true T 0)) (.slc M.next 0 s.length (.op 1)) s:=⟨(Rw.new M s).sl,rfl⟩
def xZ (B:Base) (T:Nat) (c:ai) : Prop:=∀ {M:RM} {hv bv sv:AV} {m p body:Str} {l:List Hd} {sizes:List Int} {Q:ah},M.base=B→Sl HD M hv l→l.length≤1000→(∀ h∈l,h.1.length≤281474976710656∧h.2.length≤281474976710656) →
 m.length≤281474976710656→p.length≤281474976710656→Bs M bv body→body.length≤1000000→Sl INT M sv sizes→sizes.length≤1000 →
 (∀ s v' M',jc m p l body sizes=.ok s→s.length≤100000000→ae [] M M'→Ow BY M' M.next T v' s→Q (.tup [v',N .i64 0]) M')→(∀ (e:Nat) M',jc m p l body sizes=.error e→(e=1∨e=2)→ae [] M M'→Q (.tup [aH,N .i64 (e:Int)]) M') →
 c [.agg [St m,St p,hv,bv],sv] M Q
theorem AL {B:Base} {T TI T8 TB:Nat} {cg ck cf cc cp:ai} (hg:tF cg) (hk:BU TI ck) (hf:BN B cf) (hc:zI T8 cc) (hp:pR B T8 cp) :
  xZ B T8 fun args M Q=>∃ a0 a1,args=[a0,a1]∧jK T cg ck TI T8 cf TB cc cp a0 a1 M Q:=by
 intro M hv bv sv m p body l sizes Q hB hh hll hle hm hpl hb hbl hsv hsl hQ hE
 refine⟨_,_,rfl, ?_⟩
 unfold jK
 have ohv:=aL.one hh
 have obv:=aL.one hb.sl
 rw[lh (by simp only[List.all_cons,List.all_nil,ohv,obv]; rfl) (by simp)]
 simp only[aS]
 have k0:ae [] M (M.push (.row [St m,St p,hv,bv] false T 0)):=(ae.refl _ _).push _
 have n0:(M.push (.row [St m,St p,hv,bv] false T 0)).heap M.next=some (.row [St m,St p,hv,bv] false T 0):=by simp[RM.push]
 have l0:M.next<(M.push (.row [St m,St p,hv,bv] false T 0)).next:=by simp[RM.push]
 generalize M.push (.row [St m,St p,hv,bv] false T 0)=M0 at *
 rw[bS n0 (by rfl)]
 refine hg ohv obv (by omega) (by omega) fun M1 k1=>?_
 have n1:=k1.aO n0 l0 (by simp)
 have l1:=Nat.lt_of_lt_of_le l0 k1.next
 have k01:=k0.trans k1
 simp only[cB]
 refine dL (fun h=>?_) fun h=>?_
 ·have hk:uH m p=false:=by simpa using h
  exact hE 1 M1 (by unfold jc; rw[hk]) (.inl rfl) k01
 have hok:uH m p=true:=by simpa using h
 obtain⟨q1,q2⟩:=Em hok
 have e:jc m p l body sizes=gH (DL m p) l (Hf,CO) body.length ((iR (sizes++[(body.length:Int)]) [] body).1++Gw):=by unfold jc; rw[hok]
 rw[e] at hQ hE
 have ld:∀ {M' : RM} (k:ae [] M1 M') (i:Nat) (x:AV),([St m,St p,hv,bv] : List AV)[i]?=some x→∀ {K' : AV→Prop},ax M' (.ptr M.next i) K'=K' x:=fun k i x hx=>bq (k.aO n1 l1 (by simp)) hx
 simp only[j3]
 rw[ld (ae.refl _ _) 3 bv rfl]
 refine hk (aL.keep hsv k01 (by simp)) (by omega) fun v2 M2 o2 k2=>?_
 rw[hb.len,wQ (by rfl) (by rfl) (by rfl)]
 simp only[aS]
 have k02:=k01.trans k2
 refine wS (E:=INT) (a:=(body.length:Int)) (Own.mono o2 k01.next) k02.next (by decide) (by omega) (by omega) fun v3 M3 o3 k3 _ _=>?_
 have k03:ae [] M M3:=ae.own k02 k3 (fun x hx=>by have:=(Own.blk o2 x hx).1; have:=k01.next; omega)
 have k13:ae [] M1 M3:=ae.own k2 k3 (fun x hx=>(Own.blk o2 x hx).1)
 generalize hns:sizes++[(body.length:Int)]=ns at *
 have hnl:ns.length≤1001:=by rw[← hns]; simp; omega
 have s3:Sl INT M3 v3 ns:=Own.ol o3
 rw[aL.len s3]
 refine dW (fun z ys M4=>∃ (i:Nat) (av rv:AV) (acc rest:Str),z=ns.length - i∧ys=[av,rv,N .i64 (i:Int)]∧i≤ns.length∧ae [] M3 M4∧Ow BY M4 M1.next T8 av acc∧Bs M4 rv rest∧(∀ x∈aN rv,x∈aN bv) ∧
   iR ns [] body=iR (ns.drop i) acc rest∧acc.length + rest.length≤i * 30 + body.length) _
  ⟨0,aH,bv,[],body,rfl,rfl,Nat.zero_le _,ae.refl _ _,.nil,hb.keep k03 (by simp),fun x hx=>hx,rfl,by simp⟩ ?_
 rintro next z ys M4 hnext ⟨i,av,rv,acc,rest,rfl,rfl,hi,k4,oa,hr,hrb,hch,hal⟩
 simp only[bE,df,yO]
 have k34:=k03.trans k4
 have k14:=k13.trans k4
 refine dL (fun h=>?_) fun h=>?_
 ·have hlt:i<ns.length:=by simpa using h
  have s4:Sl INT M4 v3 ns:=aL.keep s3 k4 (by simp)
  obtain⟨b0,o0,_,_,hix,hld⟩:=s4.at 1 (i:Int) hlt
  have hdr:ns.drop i=ns[i] :: ns.drop (i + 1):=List.drop_eq_getElem_cons hlt
  rw[mP,hix,dE]
  refine⟨_,dK.1 hld, ?_⟩
  rw[hr.len,IX]
  have hcut:(if false=true then(if (rest.length:Int) > ns[i] then(rest.length:Int) else ns[i]) else if (rest.length:Int)<ns[i] then(rest.length:Int) else ns[i])=rO ns[i] rest:=by
   unfold rO; simp
  rw[hcut,iG]
  refine dL (fun h=>?_) fun h=>?_
  ·simp only[bE,df]
   rw[add1 (by omega)]
   refine hnext _ _ _ (by omega) ⟨i + 1,av,rv,acc,rest,rfl,rfl,by omega,k4,oa,hr,hrb, ?_,by omega⟩
   rw[hch,hdr,iR,h]
  ·obtain⟨k,hk,hkl,hk1⟩ : ∃ k:Nat,rO ns[i] rest=(k:Int)∧k≤rest.length∧1≤k:=by
    have h1:¬ rO ns[i] rest<1:=by simpa using h
    refine⟨(rO ns[i] rest).toNat,by omega, ?_,by omega⟩
    have:rO ns[i] rest≤rest.length:=by unfold rO; split <;> omega
    omega
   have hstep:iR (ns.drop i) acc rest=iR (ns.drop (i + 1)) (acc++nR (rest.take k)) (rest.drop k):=by
    rw[hdr,iR,h,hk,Int.toNat_natCast]
   have htl:(rest.take k).length=k:=by simp; omega
   have hcb:nR (rest.take k)=fC k++[13,10]++rest.take k++[13,10]:=by unfold nR; rw[htl]
   have hxl:(fC k).length≤20:=pE _ _ _
   rw[hk]
   obtain⟨t39,e39,h39,hsub39⟩ : ∃ v',di 1 rv none (some (N .i64 (k:Int))) none=some v'∧Bs M4 v' (rest.take k)∧(∀ x∈aN v',x∈aN rv):=by
    have:=hr.sub (El 0) (kI _ k .i64) (Nat.zero_le _) hkl (K:=fun v'=>Bs M4 v' (rest.take k)∧(∀ x∈aN v',x∈aN rv)) (fun v' h1 h2=>⟨by simpa using h1,h2⟩)
    obtain⟨v',h1,h2⟩:=this
    exact⟨v',h1,h2.1,h2.2⟩
   obtain⟨t46,e46,h46,NJ⟩ : ∃ v',di 1 rv (some (N .i64 (k:Int))) none none=some v'∧Bs M4 v' (rest.drop k)∧(∀ x∈aN v',x∈aN rv):=by
    have:=hr.sub (kI 0 k .i64) (El _) hkl (Nat.le_refl _) (K:=fun v'=>Bs M4 v' (rest.drop k)∧(∀ x∈aN v',x∈aN rv)) (fun v' h1 h2=>⟨by rw[List.take_of_length_le (by simp)] at h1; exact h1,h2⟩)
    obtain⟨v',h1,h2⟩:=this
    exact⟨v',h1,h2.1,h2.2⟩
   -- put together
   have fin:∀ (M5:RM) (t36 t41:AV),ae [] M4 M5→Bs M5 t36 (fC k++[13,10])→Bs M5 t41 [13,10] →
     (bX TB 4 [(.sc (.slice none 0 0))] [(0,1,av),(1,1,t36),(2,1,t39),(3,1,t41)] fun P8 Q8=>uf P8 Q8 M5 fun t42 Lp b_19=>cc [t42] Lp fun t43 G7=>bG (di 1 rv (some (N .i64 (k:Int))) none none) fun t46=>af .add (N .i64 (i:Int)) (N .i64 1) fun t47=>next [(au [t43,t46] 0),(au [t43,t46] 1),t47] G7):=by
    intro M5 t36 t41 k5 h36 h41
    have a5:=oa.keep k5 (by simp)
    have b5:=h39.keep k5 (by simp)
    rw[Ph (z:=.sc (.slice none 0 0)) (zs:=[]) (Own.cells a5) (aL.cells h36.sl) (aL.cells b5.sl) (aL.cells h41.sl) (Own.one a5) (aL.one h36.sl) (aL.one b5.sl) (aL.one h41.sl)]
    simp only[BV]
    have k6:ae [] M5 (M5.push (.row [av,t36,t39,t41] false TB 0)):=(ae.refl _ _).push _
    have n6:(M5.push (.row [av,t36,t39,t41] false TB 0)).heap M5.next=some (.row [av,t36,t39,t41] false TB 0):=by simp[RM.push]
    have l6:M5.next<(M5.push (.row [av,t36,t39,t41] false TB 0)).next:=by simp[RM.push]
    generalize M5.push (.row [av,t36,t39,t41] false TB 0)=M6 at *
    have hfl:([acc,fC k++[13,10],rest.take k,[13,10]] : List Str).flatten=acc++nR (rest.take k):=by rw[hcb]; simp
    have hfll:(acc++nR (rest.take k)).length≤acc.length + 24 + k:=by
     rw[hcb]; simp only[List.length_append,List.length_cons,List.length_nil,htl]; omega
    have QE:0<(acc++nR (rest.take k)).length:=by
     rw[hcb]; simp only[List.length_append,List.length_cons,List.length_nil]; omega
    refine hc (vs:=[av,t36,t39,t41]) (xss:=[acc,fC k++[13,10],rest.take k,[13,10]]) n6 l6 rfl (by simp) (fun j v x hv hx=>?_) (by rw[hfl]; exact QE) (by
      rw[hfl]
      have:i * 30≤1001 * 30:=Nat.mul_le_mul_right _ (by omega)
      omega) fun r M7 o7 k7=>?_
    ·rcases j with _ | _ | _ | _ | j
     ·cases hv; cases hx; exact aL.keep (Own.ol a5) k6 (by simp)
     ·cases hv; cases hx; exact aL.keep h36.sl k6 (by simp)
     ·cases hv; cases hx; exact aL.keep b5.sl k6 (by simp)
     ·cases hv; cases hx; exact aL.keep h41.sl k6 (by simp)
     ·cases hv
    rw[hfl] at o7
    have k47:=k5.trans (k6.trans k7)
    rw[e46,dU]
    simp only[bE,df]
    rw[add1 (by omega)]
    refine hnext _ _ _ (by omega) ⟨i + 1,r,t46,acc++nR (rest.take k),rest.drop k,rfl,rfl,by omega,k4.trans k47,Own.mono o7 (Nat.le_trans (k14.trans k5).next k6.next),h46.keep k47 (by simp),fun x hx=>hrb x (NJ x hx),by rw[hch,hstep], ?_⟩
    have:(rest.drop k).length=rest.length - k:=by simp
    omega
   refine⟨?_, ?_⟩
   ·rw[e39,dU]
    refine⟨[N .u8 13,N .u8 10],rfl, ?_⟩
    simp only[BV]
    have k5:ae [] M4 (M4.push (.row [N .u8 13,N .u8 10] false T8 0)):=(ae.refl _ _).push _
    have n5:(M4.push (.row [N .u8 13,N .u8 10] false T8 0)).heap M4.next=some (.row [N .u8 13,N .u8 10] false T8 0):=by simp[RM.push]
    have l5:M4.next<(M4.push (.row [N .u8 13,N .u8 10] false T8 0)).next:=by simp[RM.push]
    generalize M4.push (.row [N .u8 13,N .u8 10] false T8 0)=M5 at *
    refine hf ((k34.trans k5).base.trans hB) (by omega) fun M6 k6=>?_
    have n6:=k6.aO n5 l5 (by simp)
    have l6:=Nat.lt_of_lt_of_le l5 k6.next
    rw[dU]
    refine⟨rfl,[N .u8 13,N .u8 10],rfl,⟨n6,rfl⟩, ?_⟩
    rw[bL]
    refine⟨by simp; omega, ?_⟩
    rw[gV]
    have b7:=Bs.new M6 T8 (fC k++[13,10])
    have k7:ae [] M6 (M6.push (.row (BY.row (fC k++[13,10])) true T8 0)):=(ae.refl _ _).push _
    have n7:=k7.aO n6 l6 (by simp)
    have m7:(M6.push (.row (BY.row (fC k++[13,10])) true T8 0)).heap M6.next=some (.row (BY.row (fC k++[13,10])) true T8 0):=by simp[RM.push]
    have l7:M4.next<(M6.push (.row (BY.row (fC k++[13,10])) true T8 0)).next:=by simp[RM.push]; omega
    have l7' : M6.next<(M6.push (.row (BY.row (fC k++[13,10])) true T8 0)).next:=by simp[RM.push]
    generalize hM7:M6.push (.row (BY.row (fC k++[13,10])) true T8 0)=M7 at *
    refine⟨M4.next,0,2,2,[N .u8 13,N .u8 10],T8,rfl,n7, ?_⟩
    have k47:ae [] M4 M7:=k5.trans (k6.trans k7)
    have k8:ae [] M4 (M7.put M4.next (.row [N .u8 13,N .u8 10] false T8 (([N .u8 13,N .u8 10] : List AV).length + 1))):=k47.new _ (Nat.le_refl _)
    have m8:(M7.put M4.next (.row [N .u8 13,N .u8 10] false T8 (([N .u8 13,N .u8 10] : List AV).length + 1))).heap M6.next=some (.row (BY.row (fC k++[13,10])) true T8 0):=rU m7 (by omega)
    dsimp only
    rw[gV]
    refine⟨⟨m8,rfl⟩, ?_⟩
    rw[dU]
    refine⟨rfl, ?_⟩
    refine fin _ _ _ k8 ⟨?_,rfl⟩ ⟨?_,Nat.le_refl _⟩
    ·exact aL.slc _ _ _ _ _ (by rw[EW]; exact l7') (by rw[RM.gD m8 (by rw[Enc.eY]; simp[BY]),List.drop_zero,List.take_of_length_le (by rw[Enc.eY]; simp[BY])])
    ·refine aL.slc _ _ _ _ _ (by rw[EW]; exact l7) ?_
     rw[RM.gD (aM _) (by decide)]
     rfl
   ·refine⟨[N .u8 13,N .u8 10],rfl, ?_⟩
    simp only[BV]
    rw[e39,dU]
    refine⟨M4.next,0,2,2,[N .u8 13,N .u8 10],T8,rfl,by simp[RM.push], ?_⟩
    have k5:ae [] M4 ((M4.push (.row [N .u8 13,N .u8 10] false T8 0)).put M4.next (.row [N .u8 13,N .u8 10] false T8 (([N .u8 13,N .u8 10] : List AV).length + 1))):=((ae.refl _ _).push _).new _ (Nat.le_refl _)
    have b5:Bs ((M4.push (.row [N .u8 13,N .u8 10] false T8 0)).put M4.next (.row [N .u8 13,N .u8 10] false T8 (([N .u8 13,N .u8 10] : List AV).length + 1))) (.slc M4.next 0 2 (.ex 2)) [13,10]:=⟨by
     refine aL.slc _ _ _ _ _ (by simp[RM.push,RM.put]) ?_
     rw[RM.gD (aM _) (by decide)]
     rfl,Nat.le_refl _⟩
    dsimp only
    rw[dU]
    refine⟨rfl, ?_⟩
    refine hf ((k34.trans k5).base.trans hB) (by omega) fun M6 k6=>?_
    rw[dU]
    refine⟨rfl, ?_⟩
    rw[bL]
    refine⟨by simp; omega, ?_⟩
    rw[gV]
    have k7:ae [] M6 (M6.push (.row (BY.row (fC k++[13,10])) true T8 0)):=(ae.refl _ _).push _
    exact fin _ _ _ (k5.trans (k6.trans k7)) (Bs.new M6 T8 _) (b5.keep (k6.trans k7) (by simp))
 ·have:i=ns.length:=by simp at h; omega
  subst this
  rw[List.drop_length] at hch
  have hch' : iR ns [] body=(acc,rest):=hch
  rw[hch'] at hQ hE
  have:ns.length * 30≤1001 * 30:=Nat.mul_le_mul_right _ hnl
  refine Gr oa k14.next (by simp; omega) fun v5 M5 o5 k5=>?_
  have k15:ae [] M1 M5:=ae.own k14 k5 (fun x hx=>(Own.blk oa x hx).1)
  have k05:ae [] M M5:=k01.trans k15
  rw[ld k15 0 (St m) rfl,bL]
  refine⟨by simp; omega, ?_⟩
  rw[ld k15 1 (St p) rfl,bL]
  refine⟨by simp; omega, ?_⟩
  rw[bL]
  refine⟨by simp; omega, ?_⟩
  rw[bL]
  refine⟨by simp; omega, ?_⟩
  rw[ld k15 2 hv rfl,gy]
  refine⟨_,zT rfl rfl rfl rfl, ?_⟩
  rw[ld k15 3 bv rfl,hb.len]
  have hl5:(acc++Gw).length≤100000000 - 2048:=by simp; omega
  refine hp (more:=(Hf,CO)) (body:=acc++Gw) (sz:=body.length) (k05.base.trans hB) (aL.keep hh k05 (by simp)) hll hle (by simp; omega) (by simp) (by simp) (Own.ol o5) (by omega) (fun s v' M6 e6 hl6 k6 o6=>?_) (fun e' M6 e6 he k6=>?_)
  ·simp only[aT,aU]
   exact hQ s v' M6 e6 (by omega) (k05.trans k6) (Own.mono o6 k05.next)
  ·simp only[aT,aU]
   exact hE e' M6 e6 he (k05.trans k6)
end Go.Ab.Hw
set_option maxRecDepth 20000
namespace Go.Ab.Hw
open Go Go.Ab Go.Ab.Sm
open Go.Ab.Vl (oV)
theorem jF {f:(List AV→RM→Prop)→Prop} {g:List AV→RM→Prop} (x:List AV) (N:RM) (hf:∀ J:List AV→RM→Prop,J x N→f J) (hg:g x N) : dF f g:=hf g hg
def uD (n:Nat) : Int:=Pw .u8 (n:Int) 32
def EY (c:ai) : Prop:=∀ {M:RM} {x:UInt8} {Q:ah},Q (N .u8 (uD x.toNat)) M→c [By x] M Q
theorem Iy:EY fun args M Q=>∃ a0,args=[a0]∧gF a0 M Q:=by
 intro M x Q hQ
 refine⟨_,rfl, ?_⟩
 unfold gF
 rw[LU]
 exact hQ
def Hm (n:Nat) : Bool:=!(kF (bU (UInt8.ofNat n)) && !dD (UInt8.ofNat n)) || (decide (97≤uD n) && decide (uD n≤122) && decide (uD n - 97 + 10=(lG (UInt8.ofNat n) : Int)) && !decide (n=95))
theorem JV:(List.range 256).all Hm=true:=by decide +kernel
theorem K6 (x:UInt8) : Hm x.toNat=true:=List.all_eq_true.1 JV x.toNat (List.mem_range.2 x.toNat_lt)
theorem F5 {x:UInt8} (h:kF (bU x)=true) (hd:dD x=false) : 97≤uD x.toNat∧uD x.toNat≤122∧uD x.toNat - 97 + 10=(lG x:Int)∧x.toNat≠95:=by
 have:=K6 x
 unfold Hm at this
 rw[UInt8.ofNat_toNat,h,hd] at this
 simp only[Bool.not_false,Bool.and_self,Bool.not_true,Bool.false_or,Bool.and_eq_true,decide_eq_true_eq,Bool.not_eq_true',decide_eq_false_iff_not] at this
 exact⟨this.1.1.1,this.1.1.2,this.1.2,this.2⟩
theorem J3 {s:Str} {i:Nat} (hi:i<s.length) : kH (s.take (i + 1))=kH (s.take i) * 16 + lG s[i]:=by
 unfold kH
 rw[List.take_succ_eq_append_getElem hi,List.foldl_append]
 rfl
theorem Al {n:Int} (h0:0≤n) (h1:n<18446744073709551616) : IntKind.wrap .u64 n=n:=by
 simp only[IntKind.wrap,show(2:Int) ^ IntKind.u64.bits=18446744073709551616 from by decide]
 simp[IntKind.signed]
 omega
theorem AP {TE T8:Nat} {cl cu:ai} (hl:EY cl) : BG fun args M Q=>∃ a0 a1 a2,args=[a0,a1,a2]∧eT TE cl T8 cu a0 a1 a2 M Q:=by
 intro M s Q h1 h8 hx hQ
 refine⟨_,_,_,rfl, ?_⟩
 unfold eT
 have hne:(s == [])=false:=by cases s with | nil=>simp at h1 | cons a b=>rfl
 rw[dQ,hne,bf,bB,show((16:Int) == 0)=false from rfl]
 refine jF (x:=[St s,N .i64 16]) (N:=M) (fun J hJ=>?_) ?_
 ·rw[qj,show decide ((2:Int)≤16)=true from rfl]
  simp only[bZ,qj]
  rw[show decide ((16:Int)≤36)=true from rfl]
  simp only[dx,bR]
  exact hJ
 simp only[bE,df]
 refine jF (x:=[N .i64 64]) (N:=M) (fun J hJ=>?_) ?_
 ·rw[bB,show((64:Int) == 0)=false from rfl,bf,iG,show decide ((64:Int)<0)=false from rfl]
  simp only[dI,fo]
  rw[show decide ((64:Int) > 64)=false from rfl]
  simp only[dY,bf]
  exact hJ
 simp only[bE,df]
 refine jF (x:=[N .u64 1152921504606846976]) (N:=M) (fun J hJ=>?_) ?_
 ·rw[bB,show((16:Int) == 10)=false from rfl,bf,bB,show((16:Int) == 16)=true from rfl,bR]
  exact hJ
 simp only[bE,df]
 rw[kU,L9]
 refine⟨by decide, ?_⟩
 rw[jS,gV]
 simp only[aS,jL]
 have hmax:IntKind.wrap .u64 (MX .u64 1 (IntKind.wrap .u64 64) - 1)=18446744073709551615:=by decide +kernel
 rw[hmax]
 have hk1:ae [] M (M.push (.row (BY.row s) true T8 0)):=(ae.refl _ _).push _
 have hr1:Rw BY (M.push (.row (BY.row s) true T8 0)) M.next true T8 s:=Rw.new M s
 generalize M.push (.row (BY.row s) true T8 0)=M1 at *
 refine dW (fun m ys M3=>∃ i:Nat,m=s.length - i∧ys=[Bo false,N .u64 (kH (s.take i) : Int),N .i64 (i:Int)]∧i≤s.length∧M3=M1) _ ⟨0,rfl,rfl,Nat.zero_le _,rfl⟩ ?_
 rintro next m ys M3 hnext ⟨i,rfl,rfl,hi,rfl⟩
 simp only[bE,df,yO]
 refine dL (fun h=>?_) fun h=>?_
 ·have hlt:i<s.length:=by simpa using h
  have hc:=hr1.ax hlt
  have cb:=Aq s[i]
  have hmem:kF (bU s[i])=true:=by
   unfold low at hx
   rw[List.all_map] at hx
   exact List.all_eq_true.1 hx s[i] (List.getElem_mem hlt)
  have hdv:=Gq hmem
  have hall:(low (s.take i)).all kF=true:=by
   rw[List.all_eq_true]
   intro y hy
   unfold low at hy
   rw[List.mem_map] at hy
   obtain⟨z,hz,rfl⟩:=hy
   unfold low at hx
   rw[List.all_map] at hx
   exact List.all_eq_true.1 hx z (List.mem_of_mem_take hz)
  have hlt2:=Gg hall (by simp; omega)
  have ht:=J3 hlt
  refine jF (x:=[Bo false,N .u64 (kH (s.take (i + 1)) : Int)]) (N:=M3) (fun J hJ=>?_) ?_
  rotate_left
  ·simp only[bE,df]
   rw[add1 (by omega)]
   exact hnext _ _ _ (by omega) ⟨i + 1,rfl,rfl,by omega,rfl⟩
  rw[pW]
  refine⟨by omega,by omega, ?_⟩
  rw[dE]
  refine⟨By s[i],by simpa using hc, ?_⟩
  refine jF (x:=[Bo false,N .u8 (lG s[i] : Int)]) (N:=M3) (fun J2 hJ2=>?_) ?_
  rotate_left
  ·simp only[bE,df]
   rw[kU,show IntKind.wrap .u8 16=16 by decide,dh,show decide ((lG s[i] : Int) ≥ 16)=false by simp; omega,bf,dh,show decide ((kH (s.take i) : Int) ≥ 1152921504606846976)=false by simp; omega,bf,kU,show IntKind.wrap .u64 16=16 by decide,
    K5,Al (by omega) (by omega),kU,Al (by omega) (by omega),ui,Al (by omega) (by omega),iG,show decide ((kH (s.take i) : Int) * 16 + (lG s[i] : Int)<(kH (s.take i) : Int) * 16)=false from decide_eq_false (by omega)]
   simp only[dI,fo]
   rw[show decide ((kH (s.take i) : Int) * 16 + (lG s[i] : Int) > 18446744073709551615)=false by simp; omega]
   simp only[dY,bf]
   have e:((kH (s.take (i + 1)) : Nat) : Int)=(kH (s.take i) : Int) * 16 + (lG s[i] : Int):=by rw[ht]; omega
   rw[e] at hJ
   exact hJ
  rw[bB]
  have h95:((s[i].toNat:Int) == 95)=false:=by
   cases hd:dD s[i] with
   | true =>
     unfold dD at hd
     simp only[Bool.and_eq_true,decide_eq_true_eq] at hd
     simp; omega
   | false =>
     have:=(F5 hmem hd).2.2.2
     simp; omega
  rw[h95]
  simp only[iW,dY,bf,cO,bE,qj]
  cases hd:dD s[i] with
  | true =>
    have hd':=hd
    unfold dD at hd'
    simp only[Bool.and_eq_true,decide_eq_true_eq] at hd'
    rw[show decide ((48:Int)≤(s[i].toNat:Int))=true by simp; omega]
    simp only[bZ]
    rw[show decide ((s[i].toNat:Int)≤57)=true by simp; omega]
    simp only[dx,bR]
    rw[jS,jh (by omega) (by omega)]
    have hv:(s[i].toNat:Int) - 48=(lG s[i] : Int):=by unfold lG; rw[if_pos (by omega)]; omega
    rw[hv]
    exact hJ2
  | false =>
    obtain⟨q1,q2,q3,_⟩:=F5 hmem hd
    have hno:(decide ((48:Int)≤(s[i].toNat:Int)) && decide ((s[i].toNat:Int)≤57))=false:=by
     rw[← hd]; unfold dD; rfl
    refine nL (p:=decide ((s[i].toNat:Int)≤57)) (fun _ k hk=>hk) ?_
    rw[hno,bf]
    refine hl ?_
    rw[qj,show decide ((97:Int)≤uD s[i].toNat)=true by simpa using q1]
    simp only[bZ]
    refine hl ?_
    rw[qj,show decide (uD s[i].toNat≤(122:Int))=true by simpa using q2]
    simp only[dx,bR]
    refine hl ?_
    rw[jS,jh (by omega) (by omega),ui,jh (by omega) (by omega),q3]
    exact hJ2
 ·have:i=s.length:=by simp at h; omega
  subst this
  simp only[iW,dY,bf]
  rw[List.take_length]
  exact hQ _ hk1
theorem BL {cp ct:ai} (hp:BG cp) : BG fun args M Q=>∃ a0 a1 a2,args=[a0,a1,a2]∧jB cp ct a0 a1 a2 M Q:=by
 intro M s Q h1 h8 hx hQ
 refine⟨_,_,_,rfl, ?_⟩
 unfold jB
 refine hp h1 h8 hx fun M1 k1=>?_
 simp only[aT,aU]
 refine .inr ⟨rfl,rfl, ?_⟩
 dsimp only
 rw[show(!true)=false from rfl,bf]
 exact hQ M1 k1
def vM (n:Nat) : UInt8:=if n<10 then UInt8.ofNat (48 + n) else UInt8.ofNat (87 + n)
theorem zS {base f n:Nat} (h:n<base) : l8 base (f + 1) n=[vM n]:=by
 rw[l8,Au h]; rfl
theorem EP {base f n:Nat} (h:¬ n<base) : l8 base (f + 1) n=l8 base f (n / base)++[vM (n % base)]:=by
 rw[l8,l9 h]; rfl
abbrev yC:Str:=[48,49,50,51,52,53,54,55,56,57,97,98,99,100,101,102,103,104,105,106,107,108,109,110,111,112,113,114,115,116,117,118,119,120,121,122]
theorem KW:∀ m:Fin 16,yC[m.val]?=some (vM m.val):=by decide
theorem FU {n:Nat} (h:n<16) {K:AV→Prop} : dN (St yC) (N .u64 (n:Int)) K=K (By (vM n)):=by
 have hl:n<yC.length:=Nat.lt_of_lt_of_le h (by decide)
 rw[oV hl]
 have:=KW ⟨n,h⟩
 rw[List.getElem?_eq_getElem hl] at this
 rw[Option.some.inj this]
def Pq (B:Base) (c:ai) : Prop:=∀ {M:RM} {Q:ah},M.base=B→Q (N .i64 4) M→c [N .u64 16] M Q
def G6 (c:ai) : Prop:=∀ {M:RM} {Q:ah},Q (Bo true) M→c [N .i64 16] M Q
theorem Kl:G6 fun args M Q=>∃ a0,args=[a0]∧ed a0 M Q:=by
 intro M Q hQ
 refine⟨_,rfl, ?_⟩
 unfold ed
 rw[jS,DR,show Iq .i64 16 (IntKind.wrap .i64 (16 - 1))=0 by decide +kernel,bB,show((0:Int) == 0)=true from rfl]
 exact hQ
def Gy (B:Base) (c:ai) : Prop:=∀ {M:RM} {n:Nat} {Q:ah},M.base=B→n<4294967296→(∀ M',ae [] M M'→Q (.tup [aH,St (fC n)]) M')→c [aH,N .u64 (n:Int),N .i64 16,Bo false,Bo false] M Q
theorem Jo {B:Base} {TA n:Nat} {cp ct:ai} (hp:G6 cp) (ht:Pq B ct) {M M0:RM} {zs:List AV} (hB:M.base=B) (hn:n<4294967296) (hzl:zs.length=65) (k0:ae [] M M0) (n0:M0.heap M.next=some (.row zs false TA 0)) (l0:M.next<M0.next) :
  ∀ J13:List AV→RM→Prop,(∀ (i:Nat) (M3:RM) (X:List AV),M3.heap M.next=some (.row (X++BY.row (fC n)) false TA 0)→X.length=i→i + (fC n).length=65→ae [] M M3→M.next<M3.next→J13 [N .i64 (i:Int)] M3) →
    dF (fun J13=>cp [N .i64 16] M0 fun t34 NB=>ak t34 ( gM .u64 (N .i64 16) fun t36=>ct [t36] NB fun t37 Qe=>gM .u64 t37 fun t38=>gM .u64 (N .i64 16) fun t40=>gM .u64 (N .i64 16) fun t42=>af .sub t42 (N .u64 1) fun t43=>fI (fun next xC Nz=>af .geq (au xC 0) t40 fun t46=>ak t46 ( af .sub (au xC 1) (N .i64 1) fun t48=>af .and (au xC 0) t43 fun t52=>dN (St yC) t52 fun t53=>mi (.ptr M.next 0) t48 65 1 fun t54=>aF Nz t54 t53 1 fun Lp=>xY .shr (au xC 0) t38 fun t57=>next [t57,t48] Lp) ( af .sub (au xC 1) (N .i64 1) fun t59=>dN (St yC) (au xC 0) fun t62=>mi (.ptr M.next 0) t59 65 1 fun t63=>aF Nz t63 t62 1 fun QA=>J13 [t59] QA)) [N .u64 (n:Int),(N .i64 65)] Qe) ( gM .u64 (N .i64 16) fun t65=>fI (fun Mh wW Nb=>af .geq (au wW 0) t65 fun t68=>ak t68 ( af .sub (au wW 1) (N .i64 1) fun t70=>af .quo (au wW 0) t65 fun t73=>af .mul t73 t65 fun t78=>af .sub (au wW 0) t78 fun t79=>dN (St yC) t79 fun t80=>mi (.ptr M.next 0) t70 65 1 fun t81=>aF Nb t81 t80 1 fun KX=>Mh [t73,t70] KX) ( af .sub (au wW 1) (N .i64 1) fun t84=>dN (St yC) (au wW 0) fun t87=>mi (.ptr M.next 0) t84 65 1 fun t88=>aF Nb t88 t87 1 fun Qa=>J13 [t84] Qa)) [N .u64 (n:Int),(N .i64 65)] NB)) J13:=by
 intro J13 hJ
 refine(show ∀ (f:(List AV→RM→Prop)→Prop) (g:List AV→RM→Prop),f g→dF f g from fun _ _ h=>h) _ _ ?_
 refine hp ?_
 rw[bR,kU,show IntKind.wrap .u64 16=16 by decide]
 refine ht (k0.base.trans hB) ?_
 rw[kU,show IntKind.wrap .u64 4=4 by decide,kU,show IntKind.wrap .u64 16=16 by decide,kU,show IntKind.wrap .u64 16=16 by decide,jS,show IntKind.wrap .u64 (16 - 1)=15 by decide]
 refine dW (fun m ys M3=>∃ (u f:Nat) (X:List AV) (ds:Str),u=m∧ys=[N .u64 (u:Int),N .i64 (X.length:Int)]∧X.length + ds.length=65∧f + ds.length=20∧1≤f∧u<16 ^ f∧u<4294967296∧fC n=l8 16 f u++ds∧M3.heap M.next=some (.row (X++BY.row ds) false TA 0)∧ae [] M M3∧M.next<M3.next) _
  ⟨n,20,zs,[],rfl,by rw[hzl]; rfl,by rw[hzl]; rfl,rfl,by decide,Nat.lt_of_lt_of_le hn (by decide),hn,by unfold fC; rw[List.append_nil],by rw[Enc.LW,List.append_nil]; exact n0,k0,l0⟩ ?_
 rintro next m ys M3 hnext ⟨u,f,X,ds,rfl,rfl,hXl,hf,hf1,huf,hu,Od,hrow,k3,l3⟩
 simp only[bE,df]
 have hXp:1≤X.length:=by omega
 obtain⟨Y,y,rfl⟩ : ∃ Y y,X=Y++[y]:=⟨X.dropLast,X.getLast (by intro e; rw[e] at hXp; simp at hXp),(List.dropLast_concat_getLast _).symm⟩
 simp only[List.length_append,List.length_cons,List.length_nil,Nat.zero_add] at hXl
 have hsub:∀ K:AV→Prop,af .sub (N .i64 (((Y++[y]).length:Nat) : Int)) (N .i64 1) K=K (N .i64 (Y.length:Int)):=fun K=>by
  rw[show(N .i64 1)=N .i64 ((1:Nat) : Int) from rfl,Gv (by simp) (by simp; omega)]
  simp
 have hidx:∀ K:AV→Prop,mi (.ptr M.next 0) (N .i64 (Y.length:Int)) 65 1 K=K (.ptr M.next Y.length):=fun K=>by
  rw[Kh]
  simp only[Int.toNat_natCast,Nat.mul_one,Nat.zero_add]
  exact propext ⟨fun h=>h.2.2,fun h=>⟨by omega,by omega,h⟩⟩
 have hset:∀ d:UInt8,((Y++[y])++BY.row ds).set Y.length (By d)=Y++BY.row (d :: ds):=fun d=>by
  rw[List.append_assoc,List.set_append_right _ _ (Nat.le_refl _),Nat.sub_self]
  rfl
 have hput:∀ (d:UInt8) (K:RM→Prop),aF M3 (.ptr M.next Y.length) (By d) 1 K=K (M3.put M.next (.row (Y++BY.row (d :: ds)) false TA 0)):=fun d K =>
  fE _ hrow (by simp) rfl rfl (hset d)
 have MN:∀ d:UInt8,ae [] M (M3.put M.next (.row (Y++BY.row (d :: ds)) false TA 0)):=fun d=>k3.new _ (Nat.le_refl _)
 rw[dh]
 refine dL (fun h=>?_) fun h=>?_
 ·have h16:¬ u<16:=by simp at h; omega
  obtain⟨g,rfl⟩ : ∃ g,f=g + 1:=⟨f - 1,by omega⟩
  have hg1:1≤g:=by
   rcases Nat.eq_zero_or_pos g with e | e
   ·subst e; simp at huf; omega
   ·exact e
  rw[hsub,DR,show(15:Int)=((15:Nat) : Int) from rfl,K4 rfl]
  have hand:(u &&& 15) % 2 ^ Ap .u64=u % 16:=by
   rw[show(15:Nat)=2 ^ 4 - 1 from rfl,Nat.and_two_pow_sub_one_eq_mod]
   exact Nat.mod_eq_of_lt (Nat.lt_of_lt_of_le (Nat.mod_lt _ (by decide)) (by decide))
  rw[hand,FU (Nat.mod_lt _ (by decide)),hidx,hput,Mk]
  refine⟨by decide, ?_⟩
  have PY:Lj .u64 (u:Int) 4=((u / 16:Nat) : Int):=by
   unfold Lj
   rw[show(2:Int) ^ min (Int.toNat 4) IntKind.u64.bits=16 by decide,Int.fdiv_eq_ediv_of_nonneg _ (by decide)]
   omega
  rw[PY]
  refine hnext (u / 16) _ _ (by omega) ⟨u / 16,g,Y,vM (u % 16) :: ds,rfl,rfl,by simp; omega,by simp; omega,hg1, ?_,by omega, ?_,aM _,MN _,l3⟩
  ·rw[Nat.pow_succ] at huf
   exact Nat.div_lt_of_lt_mul (by rw[Nat.mul_comm]; exact huf)
  ·rw[Od,EP h16]; simp
 ·have h16:u<16:=by simp at h; omega
  obtain⟨g,rfl⟩ : ∃ g,f=g + 1:=⟨f - 1,by omega⟩
  rw[hsub,FU h16,hidx,hput]
  have hd:fC n=vM u :: ds:=by rw[Od,zS h16]; rfl
  refine hJ Y.length _ Y ?_ rfl (by rw[hd]; simp; omega) (MN _) l3
  rw[hd]; exact aM _
theorem JC {B:Base} {TS TA T8:Nat} {cp ct:ai} (hp:G6 cp) (ht:Pq B ct) : Gy B fun args M Q=>∃ a0 a1 a2 a3 a4,args=[a0,a1,a2,a3,a4]∧eH TS TA cp ct T8 a0 a1 a2 a3 a4 M Q:=by
 intro M n Q hB hn hQ
 refine⟨_,_,_,_,_,rfl, ?_⟩
 unfold eH
 refine jF [] M (fun J hJ=>?_) ?_
 ·rw[iG,show decide ((16:Int)<2)=false from rfl]
  simp only[dI,bB]
  rw[show((16:Int) == 10)=false from rfl]
  simp only[dY,dI,fo]
  rw[show decide ((16:Int) > 36)=false from rfl]
  simp only[dY,bf]
  exact hJ
 simp only[aS]
 generalize hz:([(N .u8 0),(N .u8 0),(N .u8 0),(N .u8 0),(N .u8 0),(N .u8 0),(N .u8 0),(N .u8 0),(N .u8 0),(N .u8 0),(N .u8 0),(N .u8 0),(N .u8 0),(N .u8 0),(N .u8 0),(N .u8 0),(N .u8 0),(N .u8 0),(N .u8 0),(N .u8 0),(N .u8 0),(N .u8 0),(N .u8 0),(N .u8 0),(N .u8 0),(N .u8 0),(N .u8 0),(N .u8 0),(N .u8 0),(N .u8 0),(N .u8 0),(N .u8 0),(N .u8 0),(N .u8 0),(N .u8 0),(N .u8 0),(N .u8 0),(N .u8 0),(N .u8 0),(N .u8 0),(N .u8 0),(N .u8 0),(N .u8 0),(N .u8 0),(N .u8 0),(N .u8 0),(N .u8 0),(N .u8 0),(N .u8 0),(N .u8 0),(N .u8 0),(N .u8 0),(N .u8 0),(N .u8 0),(N .u8 0),(N .u8 0),(N .u8 0),(N .u8 0),(N .u8 0),(N .u8 0),(N .u8 0),(N .u8 0),(N .u8 0),(N .u8 0),(N .u8 0)] : List AV)=zs
 have hzl:zs.length=65:=by rw[← hz]; rfl
 have k0:ae [] M (M.push (.row zs false TA 0)):=(ae.refl _ _).push _
 have n0:(M.push (.row zs false TA 0)).heap M.next=some (.row zs false TA 0):=by simp[RM.push]
 have l0:M.next<(M.push (.row zs false TA 0)).next:=by simp[RM.push]
 generalize M.push (.row zs false TA 0)=M0 at *
 refine jF [N .u64 (n:Int)] M0 (fun J hJ=>?_) ?_
 ·rw[bf]; exact hJ
 simp only[bE]
 -- the digits
 refine Jo hp ht hB hn hzl k0 n0 l0 _ ?_
 intro i M3 X hrow hX hil k3 l3
 simp only[bE]
 refine jF [N .i64 (i:Int)] M3 (fun J hJ=>?_) ?_
 ·rw[bf]; exact hJ
 simp only[bE]
 have hpos:0<(fC n).length:=by
  unfold fC
  rw[l8]
  split <;> simp
 have hsub:pO 65 1 (.ptr M.next 0) (some (N .i64 (i:Int))) none=some (.slc M.next i (65 - i) (.ex (65 - i))):=by
  have e1:bnd 0 (some (N .i64 (i:Int)))=some i:=kI _ _ _
  have e2:bnd 65 none=some 65:=rfl
  simp only[pO,e1,e2]
  rw[if_pos ⟨(by omega:i≤65),Nat.le_refl _⟩,if_neg (by omega),Nat.zero_add,Nat.mul_one]
 rw[bf,hsub,dU]
 have hs:Sl BY M3 (.slc M.next i (65 - i) (.ex (65 - i))) (fC n):=by
  have e:65 - i=(fC n).length:=by omega
  unfold Sl
  rw[e]
  refine aL.slc _ _ _ _ _ ?_ ?_
  ·exact l3
  ·rw[RM.gD hrow (by rw[List.length_append,jN,hX]; simp[BY])]
   rw[List.drop_left' hX,List.take_of_length_le (by rw[jN]; simp[BY])]
 rw[hs.str]
 exact hQ M3 k3
end Go.Ab.Hw
namespace Go.Ab.Hw
open Go Go.Ab Go.Ab.Sm
theorem Jg {B:Base} {TA:Nat} {c1 c2 c3 cb:ai} (hb:Gy B cb) : BN B fun args M Q=>∃ a0 a1,args=[a0,a1]∧fe c1 TA c2 c3 cb a0 a1 M Q:=by
 intro M n Q hB hn hQ
 refine⟨_,_,rfl, ?_⟩
 unfold fe
 rw[bB,show((16:Int) == 10)=false from rfl,bf,kU,Al (by omega) (by omega),iG,show decide ((n:Int)<0)=false by simp]
 refine hb hB hn fun M1 k1=>?_
 simp only[aT,aU]
 exact hQ M1 k1
theorem Lb {B:Base} {cf:ai} (hf:BN B cf) : BN B fun args M Q=>∃ a0 a1,args=[a0,a1]∧mM cf a0 a1 M Q:=by
 intro M n Q hB hn hQ
 exact⟨_,_,rfl,hf hB hn hQ⟩
end Go.Ab.Hw
set_option maxRecDepth 100000
namespace Go.Ab.Dk
open Go Go.Ab
end Go.Ab.Dk
namespace Go.Ab.Crw
open Go Go.Ab
end Go.Ab.Crw
namespace Go.Ab
open Go Go.RowKit
section
variable {P:Program} {ρ:Ren} {M:RM} {w w' : World}
theorem I8 {base:Base} {A:AW} (hw0:bu P base ρ A w) (hbl:Below w.heap.size w w') (hbase:base≤w.heap.size) {x:fK} {ob:Obj} {i:dR} (hge:w.heap.size≤i.cb) (hob:w'.heap[i.cb]?=some ob)
  (hrel:fV P (ρ.add A.next i) i x ob) : bu P base (ρ.add A.next i) (A.push x) w'∧Step base A.next ρ w (ρ.add A.next i) w':=by
 have hb:ρ A.next=none:=hw0.fresh (Nat.le_refl _)
 have hw:=rX hw0 x
 have hx:(A.push x).heap.get A.next=some x:=by simp[AW.push,Tree.aQ]
 have hlt:A.next<(A.push x).next:=by simp[AW.push]
 have hle:=Ren.pU (i:=i) hb
 have hadd:∀ c j,ρ.add A.next i c=some j→(c=A.next∧j=i)∨(c≠A.next∧ρ c=some j):=by
  intro c j h
  unfold Ren.add at h
  split at h
  ·cases h; exact .inl ⟨‹_›,rfl⟩
  ·exact .inr ⟨‹_›,h⟩
 have hcb:i.cb<w'.heap.size:=(Array.getElem?_eq_some_iff.1 hob).1
 refine⟨⟨?_, ?_, ?_,hw.top, ?_,base.low w _ (fun c hc=>hbl.block c (by omega)) hw.inv⟩,⟨hbl.os,hbl.tape,hbl.output,hbl.size, ?_, ?_, ?_,fun c hc=>hbl.block c (by omega)⟩⟩
 ·intro c j h
  rcases hadd c j h with⟨rfl,rfl⟩ | ⟨_,h⟩
  ·exact⟨hlt,hcb⟩
  ·have:=hw.dom c j h; have:=hbl.size; omega
 ·intro c j y h hy
  rcases hadd c j h with⟨rfl,rfl⟩ | ⟨_,h⟩
  ·rw[hx] at hy; cases hy
   exact⟨ob,hob,hrel⟩
  ·obtain⟨o,ho,hr⟩:=hw.blk c j y h hy
   exact⟨o,by rw[hbl.block j.cb (hw.dom c j h).2]; exact ho,hr.mono hle⟩
 ·intro b1 b2 i1 i2 x1 x2 h1 h2 g1 g2 he
  rcases hadd _ _ h1 with⟨e1,f1⟩ | ⟨_,k1⟩ <;> rcases hadd _ _ h2 with⟨e2,f2⟩ | ⟨_,k2⟩
  ·rw[e1,e2]
  ·have:=(hw.dom _ _ k2).2; subst f1; omega
  ·have:=(hw.dom _ _ k1).2; subst f2; omega
  ·exact hw.sep _ _ _ _ _ _ k1 k2 g1 g2 he
 ·intro c j y h hy
  rcases hadd c j h with⟨rfl,rfl⟩ | ⟨_,h⟩
  ·omega
  ·exact hw.lo c j y h hy
 ·intro c hc _; exact hbl.block c hc
 ·intro c hc; unfold Ren.add; rw[if_neg (by omega)]
 ·intro c j h
  rcases hadd c j h with⟨rfl,rfl⟩ | ⟨_,h⟩
  ·exact .inr hge
  ·exact .inl ⟨c,j,h,rfl⟩
theorem dm.Oc {f:FuncId} {args:List AV} {T n:Nat} {cs:List AV} {Q:ah} (hP:BC P f) (hsz:aJ P T=some 1) (h1:cs.all oneCell=true) (hlen:cs.length=n)
  (h:∀ (ρ:Ren) (w:World) (us:List Value),aD ρ args us→bi P ρ M w→Calls P f ⟨us⟩ w fun e w'=>∃ v xs,e=.returned v∧w'.ownsRow w.heap.size T 1 v n xs∧(∀ ρ',aD ρ' cs xs)∧Below w.heap.size w w')
  (hQ:∀ v M',Own M' M.next T 1 v cs n→ae [] M M'→Q v M') : dm P f args M Q:=by
 refine⟨hP,fun ρ w us hargs hw=>(h ρ w us hargs hw).mono fun e w' hR=>?_⟩
 obtain⟨v,xs,rfl,⟨hxl,hrow⟩,hrel,hbl⟩:=hR
 rcases hrow with⟨rfl,h0⟩ | ⟨g,cap,cur,rfl,hge,hg,r1,r2,r3,r4⟩
 ·have:cs=[]:=List.length_eq_zero_iff.1 (by omega)
  subst this
  have hn:n=0:=h0
  subst hn
  exact⟨_,aH,M,ρ,rfl,After.below hw hbl,.sc _ rfl,hQ _ _ .nil (ae.refl _ _)⟩
 ·obtain⟨A,hA⟩:=hw
  obtain⟨tr,htr⟩:=gZ cs .leaf 0 h1
  obtain⟨_,hget⟩:=dw _ _ _ htr
  obtain⟨_,hcell⟩:=qX htr
  have hblk:fV P (ρ.add A.next ⟨g,0,cap,1⟩) ⟨g,0,cap,1⟩ (.row n tr [] true T 0) (.cells cur T (0,0)):=by
   refine⟨cur,(0,0),rfl,⟨by show 0 + n≤_; omega,fun k x hx=>?_,fun k _ _=>by simp,fun h=>(by cases h),fun _=>⟨Nat.one_pos,by show cur.size=0 + cap * 1; omega,hsz⟩,rfl⟩⟩
   obtain⟨hk1,hk2⟩:=iT hx
   rw[hget,if_pos (by omega),Nat.sub_zero] at hk2
   obtain⟨v,hv,hvr⟩:=(hrel (ρ.add A.next ⟨g,0,cap,1⟩)).get hk2
   refine⟨v, ?_,hvr⟩
   show cur[0 + k]?=some v
   rw[Nat.zero_add,← Array.getElem?_toList]
   rw[← r4,Nat.mul_one,List.getElem?_take_of_lt (by omega)] at hv
   exact hv
  obtain⟨q1,q2⟩:=I8 hA.rel hbl (Nat.le_trans (show M.base.n≤M.lo from Nat.le_refl _) hA.size) (i:=⟨g,0,cap,1⟩) hge hg hblk
  obtain⟨k1,k2,k3⟩:=RM.rZ hA (x:=.row cs true T 0) (y:=.row n tr [] true T 0) ⟨hlen,rfl,rfl,rfl,fun k v hk=>by rw[← hlen]; exact hcell k v hk⟩
  have hnx:=hA.next
  refine⟨_,.slc M.next 0 n (.op 1),M.push (.row cs true T 0),_,rfl,fP hA q2 q1 k1 k2 (by simp[AW.push]) k3, ?_,hQ _ _ (.op M.next n cs (Nat.le_refl _) (by simp[RM.push]) (RM.lq _) (by omega)) ((ae.refl _ _).push _)⟩
  have:=ag.iy (ρ:=ρ.add A.next ⟨g,0,cap,1⟩) M.next 0 n ⟨g,0,cap,1⟩ (by rw[← hnx]; simp[Ren.add]) (by show 0 + n≤cap; omega)
  simpa using this
end
end Go.Ab
set_option maxRecDepth 10000
namespace Go.Ab.Hw
open Go Go.Ab Go.Ab.Sm
end Go.Ab.Hw
namespace Go.Ab
open Go Go.RowKit
variable {H:Type} {enc:TypeId × Value→H}
theorem xL {a:Assume} {C:Checked} {os:Os} {f:FuncId} {fn:Func} {s:ChangeSpec} {conds:List PathCond} {apart fresh handsOn again:Bool} {X:World→Array Value→Prop}
  (hX:∀ (w w' : World) (args:Array Value),w.heap=w'.heap→X w args→X w' args)
  (own:ownKnob C.prog.godebug=none) (started:os.Started) (noInit:C.prog.inits.idxOf? f=none) (hfn:C.prog.funcs[f]?=some fn)
  (witness:∃ (w:World) (tape:Tape) (i:Input),w.os=os∧(w.forCall tape i).Shaped C.prog∧i.vars=[]∧Input.okWide C.prog (w.forCall tape i) .any w.heap.size f i ∧
   ((s.pre enc C.prog fn conds apart (w.forCall tape i).memory i.args∧X (w.forCall tape i).memory i.args)∧sizedMet enc C.prog fn (OpenSpec.ofChange s) apart (w.forCall tape i).memory i.args)∧a.holds C.prog (lone (Frame.enter C.prog f i.args .normal) [] (w.forCall tape i)))
  (contract:∀ (W:World) (base:Nat) (args:Array Value) (ds gs:List (DataW H)) (before:List MemPlace),
   (∀ (j:Nat) t v,fn.params[j]?=some t→args[j]?=some v→Value.okWide C.prog W .any base t v) →
   DataW.Whole enc C.prog fn.params.toList s.vars apart W args.toList ds gs before →
   conds.all (PathCond.test C.prog ⟨fn.params.toList,ds,s.plain.varTypes C.prog,gs⟩)=true →
   (DataW.weightsEach C.prog (fn.params.toList++s.plain.varTypes C.prog) (ds++gs)).all (· ≤ reachBytes)=true→X W args →
   W.ShapedOpen C.prog →
   a.holds C.prog (lone (Frame.enter C.prog f args .normal) [] W) →
   Calls C.prog f args W fun e W'=>∃ v,e=.returned v∧s.post enc C.prog fn apart fresh handsOn again W args v W') :
  ReturnsInHanded a C os f .any (fun w args=>(s.pre enc C.prog fn conds apart w args∧X w args)∧sizedMet enc C.prog fn (OpenSpec.ofChange s) apart w args) (s.post enc C.prog fn apart fresh handsOn again):=by
 refine returnsInHanded_of_calls own started noInit witness ?_
 intro w tape i _ hsh _ hok hpre hholds
 obtain⟨_,_,_,fn',hfn',_,_,_,_,hval⟩:=hok
 have e:fn'=fn:=Option.some.inj (hfn'.symm.trans hfn)
 subst e
 obtain⟨⟨⟨ds,gs,before,hw,hc⟩,hx⟩,hz⟩:=hpre
 have hw':=DataW.Whole.of_heap (w':=w.forCall tape i) (by rfl) hw
 refine(contract (w.forCall tape i) w.heap.size i.args ds gs before hval hw' hc (hz.weights hw) (hX _ _ _ (by rfl) hx) hsh hholds).mono fun e W' ⟨v,he,hp⟩=>?_
 subst he
 exact ChangeSpec.post_blind hp
end Go.Ab
