/- 'TopEvicted' returns true for any two texts and any flag, in whatever world it is called: a device that is evicted with an edit that was not pushed makes it anew. The card's listed variables are tied to the program's text. No other condition. By an AI agent. -/
import Derived.Test.YtcoihknokhdbkaaGreatDoorTev9
import Derived.Test.YtcoihknokhdbkaaGreatDoorTev12
import Derived.Test.YtcoihknokhdbkaaGreatDoorTev13
import Derived.Test.YtcoihknokhdbkaaGreatDoorTev14
import Derived.Test.YtcoihknokhdbkaaGreatDoorTev15
import Derived.Test.YtcoihknokhdbkaaGreatDoorTev16
import Derived.Test.YtcoihknokhdbkaaGreatDoorTev17
import Derived.Test.YtcoihknokhdbkaaGreatDoorTev18
import Derived.Test.YtcoihknokhdbkaaGreatDoorTev19
import Derived.Test.YtcoihknokhdbkaaGreatDoorTev20
import Derived.Test.YtcoihknokhdbkaaGreatDoorTev21
import Derived.Test.YtcoihknokhdbkaaGreatDoorTev22
import Derived.Test.YtcoihknokhdbkaaGreatDoorTev23
import Derived.Test.YtcoihknokhdbkaaGreatDoorTev24
import Derived.Test.YtcoihknokhdbkaaGreatDoorTev26
import Derived.Test.YtcoihknokhdbkaaGreatDoorTev27
import Derived.Test.YtcoihknokhdbkaaGreatDoorRows
import Derived.Test.YtcoihknokhdbkaaGreatDoorCards
import Derived.Carry
import Derived.WalkKit
import Derived.ProofKit
import Derived.OpenShut
import Derived.LaidMore
import Derived.Lay
import Derived.SevenTiedAt
import Derived.Stop.Joined
set_option maxRecDepth 1000000
set_option linter.unusedVariables false
namespace Go.Proofs.YtcoihknokhdbkaaGreatDoor
open Go Go.Ab Go.Ab.Sy
open Go.Ab.Hw (Iv base)
theorem aA{P:Program}{G:Gd}{B:Base}{f:Nat}{C:aI}(hC:fO P G B C){c:Cut}{l:List Cut}(h:PC C f c=true)(hl:Bl P G B f l):Bl P G B f (c::l):=by
 cases c
 exact .cons hC h hl
section
variable {w0:World} {hi:Iv w0} {at' : Nat→bQ}
theorem arc:kJ Tryz.prog (lZ at') (base w0 hi) N0 gL:=aDX
theorem ok0:fO Tryz.prog (lZ at') (base w0 hi) C0:=vW kE (fun _ _ h=>h) arc (uT kE (fun _ _ h=>h) arc) 1000
theorem ao5:kJ Tryz.prog (lZ at') (base w0 hi) N1 gL:=qc fun p hp=>by
 rcases List.mem_append.1 hp with hp|hp
 ·exact Ar p hp
 ·simp only[akn,List.mem_cons,List.not_mem_nil,or_false]at hp
  rcases hp with rfl|rfl
  ·exact aY (aA ok0 xK (aA ok0 ug (aA ok0 uz (aA ok0 uB (.nil)))))
  ·exact aY (aA ok0 xE (aA ok0 yU (.nil)))
theorem ok1:fO Tryz.prog (lZ at') (base w0 hi) C1:=vW kE (fun _ _ h=>h) ao5 (uT kE (fun _ _ h=>h) ao5) 1000
theorem aoY:kJ Tryz.prog (lZ at') (base w0 hi) N2 gL:=qc fun p hp=>by
 rcases List.mem_append.1 hp with hp|hp
 ·exact Ar p hp
 ·simp only[akh,List.mem_cons,List.not_mem_nil,or_false]at hp
  rcases hp with rfl|rfl|rfl|rfl|rfl|rfl|rfl|rfl|rfl|rfl|rfl|rfl
  ·exact aY (aA ok0 xK (aA ok0 ug (aA ok0 uz (aA ok0 uB (.nil)))))
  ·exact aY (aA ok0 xE (aA ok0 yU (.nil)))
  ·exact aY (aA ok1 Dx (aA ok1 Dr (aA ok1 Cr (aA ok1 Dm (.nil)))))
  ·exact aY (aA ok1 Pk (aA ok1 Oj (aA ok1 Lt (aA ok1 Li (.nil)))))
  ·exact aY (aA ok1 P7 (aA ok1 LK (aA ok1 LY (aA ok1 Ls (aA ok1 LZ (.nil))))))
  ·exact aY (aA ok1 Lf (aA ok1 G6 (aA ok1 Ho (aA ok1 Ha (aA ok1 Ip (aA ok1 Gp (aA ok1 Cw (aA ok1 Du (aA ok1 Iy (aA ok1 GZ (aA ok1 Gi (aA ok1 Cv (aA ok1 Cx (.nil))))))))))))))
  ·exact aY (aA ok1 LV (aA ok1 Lp (aA ok1 GK (aA ok1 Gw (.nil)))))
  ·exact aY (aA ok1 Lg (.nil))
  ·exact aY (aA ok1 Dw (.nil))
  ·exact aY (aA ok1 CO (aA ok1 Dj (aA ok1 CE (aA ok1 CK (aA ok1 adX (.nil))))))
  ·exact aY (aA ok1 Dz (aA ok1 CQ (aA ok1 CB (aA ok1 CG (aA ok1 adO (.nil))))))
  ·exact aY (aA ok1 Di (aA ok1 DD (aA ok1 Cs (aA ok1 Cn (aA ok1 Cq (aA ok1 CV (aA ok1 Cz (aA ok1 Cm (aA ok1 adJ (aA ok1 aal (.nil)))))))))))
theorem ou:fO Tryz.prog (lZ at') (base w0 hi) C2:=vW kE (fun _ _ h=>h) aoY (uT kE (fun _ _ h=>h) aoY) 1000
theorem apY:kJ Tryz.prog (lZ at') (base w0 hi) N3 gL:=qc fun p hp=>by
 rcases List.mem_append.1 hp with hp|hp
 ·exact Ar p hp
 ·simp only[aj3,List.mem_cons,List.not_mem_nil,or_false]at hp
  rcases hp with rfl|rfl|rfl|rfl|rfl|rfl|rfl|rfl|rfl|rfl|rfl|rfl
  ·exact aY (aA ok0 xK (aA ok0 ug (aA ok0 uz (aA ok0 uB (.nil)))))
  ·exact aY (aA ok0 xE (aA ok0 yU (.nil)))
  ·exact aY (aA ok1 Dx (aA ok1 Dr (aA ok1 Cr (aA ok1 Dm (.nil)))))
  ·exact aY (aA ok1 Pk (aA ok1 Oj (aA ok1 Lt (aA ok1 Li (.nil)))))
  ·exact aY (aA ok1 P7 (aA ok1 LK (aA ok1 LY (aA ok1 Ls (aA ok1 LZ (.nil))))))
  ·exact aY (aA ok1 Lf (aA ok1 G6 (aA ok1 Ho (aA ok1 Ha (aA ok1 Ip (aA ok1 Gp (aA ok1 Cw (aA ok1 Du (aA ok1 Iy (aA ok1 GZ (aA ok1 Gi (aA ok1 Cv (aA ok1 Cx (aA ou NV (aA ou Nf (.nil))))))))))))))))
  ·exact aY (aA ok1 LV (aA ok1 Lp (aA ok1 GK (aA ok1 Gw (aA ou XP (aA ou Qp (aA ou Rm (aA ou Rb (aA ou Rc (aA ou Rt (.nil)))))))))))
  ·exact aY (aA ok1 Lg (.nil))
  ·exact aY (aA ok1 Dw (.nil))
  ·exact aY (aA ok1 CO (aA ok1 Dj (aA ok1 CE (aA ok1 CK (aA ok1 adX (.nil))))))
  ·exact aY (aA ok1 Dz (aA ok1 CQ (aA ok1 CB (aA ok1 CG (aA ok1 adO (.nil))))))
  ·exact aY (aA ok1 Di (aA ok1 DD (aA ok1 Cs (aA ok1 Cn (aA ok1 Cq (aA ok1 CV (aA ok1 Cz (aA ok1 Cm (aA ok1 adJ (aA ok1 aal (.nil)))))))))))
theorem ok3:fO Tryz.prog (lZ at') (base w0 hi) C3:=vW kE (fun _ _ h=>h) apY (uT kE (fun _ _ h=>h) apY) 1000
theorem aoQ:kJ Tryz.prog (lZ at') (base w0 hi) N4 gL:=qc fun p hp=>by
 rcases List.mem_append.1 hp with hp|hp
 ·exact Ar p hp
 ·simp only[ajT,List.mem_cons,List.not_mem_nil,or_false]at hp
  rcases hp with rfl|rfl|rfl|rfl|rfl|rfl|rfl|rfl|rfl|rfl|rfl|rfl
  ·exact aY (aA ok0 xK (aA ok0 ug (aA ok0 uz (aA ok0 uB (.nil)))))
  ·exact aY (aA ok0 xE (aA ok0 yU (.nil)))
  ·exact aY (aA ok1 Dx (aA ok1 Dr (aA ok1 Cr (aA ok1 Dm (.nil)))))
  ·exact aY (aA ok1 Pk (aA ok1 Oj (aA ok1 Lt (aA ok1 Li (.nil)))))
  ·exact aY (aA ok1 P7 (aA ok1 LK (aA ok1 LY (aA ok1 Ls (aA ok1 LZ (.nil))))))
  ·exact aY (aA ok1 Lf (aA ok1 G6 (aA ok1 Ho (aA ok1 Ha (aA ok1 Ip (aA ok1 Gp (aA ok1 Cw (aA ok1 Du (aA ok1 Iy (aA ok1 GZ (aA ok1 Gi (aA ok1 Cv (aA ok1 Cx (aA ou NV (aA ou Nf (.nil))))))))))))))))
  ·exact aY (aA ok1 LV (aA ok1 Lp (aA ok1 GK (aA ok1 Gw (aA ou XP (aA ou Qp (aA ou Rm (aA ou Rb (aA ou Rc (aA ou Rt (aA ok3 ZE (aA ok3 aap (.nil)))))))))))))
  ·exact aY (aA ok1 Lg (.nil))
  ·exact aY (aA ok1 Dw (.nil))
  ·exact aY (aA ok1 CO (aA ok1 Dj (aA ok1 CE (aA ok1 CK (aA ok1 adX (.nil))))))
  ·exact aY (aA ok1 Dz (aA ok1 CQ (aA ok1 CB (aA ok1 CG (aA ok1 adO (.nil))))))
  ·exact aY (aA ok1 Di (aA ok1 DD (aA ok1 Cs (aA ok1 Cn (aA ok1 Cq (aA ok1 CV (aA ok1 Cz (aA ok1 Cm (aA ok1 adJ (aA ok1 aal (.nil)))))))))))
theorem ok4:fO Tryz.prog (lZ at') (base w0 hi) C4:=vW kE (fun _ _ h=>h) aoQ (uT kE (fun _ _ h=>h) aoQ) 1000
theorem ao2:kJ Tryz.prog (lZ at') (base w0 hi) N5 gL:=qc fun p hp=>by
 rcases List.mem_append.1 hp with hp|hp
 ·exact Ar p hp
 ·simp only[ajJ,List.mem_cons,List.not_mem_nil,or_false]at hp
  rcases hp with rfl|rfl|rfl|rfl|rfl|rfl|rfl|rfl|rfl|rfl|rfl|rfl|rfl
  ·exact aY (aA ok0 xK (aA ok0 ug (aA ok0 uz (aA ok0 uB (.nil)))))
  ·exact aY (aA ok0 xE (aA ok0 yU (.nil)))
  ·exact aY (aA ok1 Dx (aA ok1 Dr (aA ok1 Cr (aA ok1 Dm (.nil)))))
  ·exact aY (aA ok1 Pk (aA ok1 Oj (aA ok1 Lt (aA ok1 Li (.nil)))))
  ·exact aY (aA ok1 P7 (aA ok1 LK (aA ok1 LY (aA ok1 Ls (aA ok1 LZ (.nil))))))
  ·exact aY (aA ok1 Lf (aA ok1 G6 (aA ok1 Ho (aA ok1 Ha (aA ok1 Ip (aA ok1 Gp (aA ok1 Cw (aA ok1 Du (aA ok1 Iy (aA ok1 GZ (aA ok1 Gi (aA ok1 Cv (aA ok1 Cx (aA ou NV (aA ou Nf (.nil))))))))))))))))
  ·exact aY (aA ok1 LV (aA ok1 Lp (aA ok1 GK (aA ok1 Gw (aA ou XP (aA ou Qp (aA ou Rm (aA ou Rb (aA ou Rc (aA ou Rt (aA ok3 ZE (aA ok3 aap (.nil)))))))))))))
  ·exact aY (aA ok1 Lg (.nil))
  ·exact aY (aA ok1 Dw (.nil))
  ·exact aY (aA ok1 CO (aA ok1 Dj (aA ok1 CE (aA ok1 CK (aA ok1 adX (.nil))))))
  ·exact aY (aA ok1 Dz (aA ok1 CQ (aA ok1 CB (aA ok1 CG (aA ok1 adO (.nil))))))
  ·exact aY (aA ok1 Di (aA ok1 DD (aA ok1 Cs (aA ok1 Cn (aA ok1 Cq (aA ok1 CV (aA ok1 Cz (aA ok1 Cm (aA ok1 adJ (aA ok1 aal (.nil)))))))))))
  ·exact aY (aA ok4 aBf (.nil))
theorem ok5:fO Tryz.prog (lZ at') (base w0 hi) C5:=vW kE (fun _ _ h=>h) ao2 (uT kE (fun _ _ h=>h) ao2) 1000
end
end Go.Proofs.YtcoihknokhdbkaaGreatDoor
set_option maxRecDepth 100000
set_option linter.unusedSimpArgs false
namespace Go.Proofs.YtcoihknokhdbkaaGreatDoor.topEvicted
open Go Go.Ab Go.ChangeShapes Go.WideShapes Go.ChangeAt Go.RowKit
theorem own:ownKnob Tryz.prog.godebug=none:=by kernel_rfl
open Go.Ab.Hw Go.Ab.Sy Go.Proofs.YtcoihknokhdbkaaGreatDoor.ties
def at0(s t:bQ)(k:Nat):bQ:=if k=0 then s else t
def E0(w:World)(hi:Iv w)(s t:bQ):En:=⟨lZ (at0 s t),base w hi,fun _=>none,fun _=>none,fun _ _ h=>by cases h⟩
theorem hr0(w:World)(hi:Iv w)(s t:bQ):HR (E0 w hi s t) (uN .h []) (RM.old (base w hi) w):=by
 have hg:∀ k,hget (uN .h []) k=.gone:=fun k=>by
  show qm Bk.gone k .leaf=Bk.gone
  rw[iQ]
 refine⟨fun k=>?_,fun k k' b h _=>?_,fun k b h=>?_,fun k _=>⟨rfl,rfl⟩,rfl⟩
 ·rw[hg];trivial
 ·rw[hg]at h;cases h
 ·rw[hg]at h;cases h
theorem dens1{G:Gd}{i:It}{l:bQ}(h:BM G i l):bG G [i] l:=by
 have:=bG.cons i [] l [] h .nil
 rwa [List.append_nil]at this
theorem run(w:World)(hi:Iv w)(s t:bQ){b:Bool}{x y z:SV}(hx:SR (E0 w hi s t) x (St s))(hy:SR (E0 w hi s t) y (St t))(hz:SR (E0 w hi s t) z (Bo b))
  (h:C5 3 [x,y,z] (uN .h []) WG=true):dL Tryz.prog 3 [St s,St t,Bo b] (RM.old (base w hi) w) fun v _=>v=Bo true:=by
 refine(ok5 (hi:=hi) (at':=at0 s t) 3 [x,y,z] (uN .h []) WG (E0 w hi s t) (RM.old (base w hi) w) _ rfl rfl (hr0 w hi s t) (.cons _ _ _ _ hx (.cons _ _ _ _ hy (.cons _ _ _ _ hz .nil))) h).mono ?_
 rintro v M' ⟨E',sv,H',_,_,hv,hT⟩
 unfold WG at hT
 split at hT
 ·cases hv;rfl
 ·cases hT
theorem all(w:World)(hi:Iv w)(s t:bQ)(b:Bool)(hs:s.length≤281474976710656)(ht:t.length≤281474976710656):dL Tryz.prog 3 [St s,St t,Bo b] (RM.old (base w hi) w) fun v _=>v=Bo true:=by
 by_cases h1:s.length≤100
 ·by_cases h2:t.length≤100
  ·have hx:SR (E0 w hi s t) (.s [.a 0]) (St s):=.s _ _ (dens1 (.a 0 h1))
   have hy:SR (E0 w hi s t) (.s [.a 1]) (St t):=.s _ _ (dens1 (.a 1 h2))
   cases b
   ·exact run w hi s t hx hy (.b false) akT
   ·exact run w hi s t hx hy (.b true) an9
  ·exact run w hi s t (.s _ _ (dens1 (.u 0 100 s (Nat.zero_le _) h1))) (.s _ _ (dens1 (.u 101 281474976710656 t (by omega) ht))) (.top _) ayB
 ·exact run w hi s t (.s _ _ (dens1 (.u 101 281474976710656 s (by omega) hs))) (.s _ _ (dens1 (.u 0 281474976710656 t (Nat.zero_le _) ht))) (.top _) avO
theorem walk(w:World)(hi:Iv w)(v0 v1 v2:Value)(h0:zZ Tryz.prog (RM.old (base w hi) w) 9 (u6 w.heap.size v0))(h1:zZ Tryz.prog (RM.old (base w hi) w) 9 (u6 w.heap.size v1))(h2:zZ Tryz.prog (RM.old (base w hi) w) 4 (u6 w.heap.size v2)) :
  Calls Tryz.prog 3 #[v0,v1,v2] w fun e w'=>e=.returned (.bool true)∧Below w.heap.size w w':=by
 obtain⟨s,e0,g0⟩:=(h0.one (by kernel_rfl)).Zm Tryz.underlying9
 obtain⟨t,e1,g1⟩:=(h1.one (by kernel_rfl)).Zm Tryz.underlying9
 obtain⟨b,e2⟩:=(h2.one (by kernel_rfl)).ag8 Tryz.underlying4
 have hr:reachBytes≤281474976710656:=by decide +kernel
 refine dL.close (base:=base w hi) rfl hi ?_
 simp only[List.map_cons,List.map_nil]
 rw[show u6 (base w hi).n v0=St s from(List.cons.inj e0).1,show u6 (base w hi).n v1=St t from(List.cons.inj e1).1,show u6 (base w hi).n v2=Bo b from(List.cons.inj e2).1]
 exact all w hi s t b (Nat.le_trans g0 hr) (Nat.le_trans g1 hr)
set_option maxRecDepth 100000 in
theorem lifted(os:Os)(started:os.Started)(H:Type)(enc:TypeId×Value→H) :
  ReturnsInHanded {} Tryz.checked os 3 .any (fun w args=>(Rows.topEvictedSpec.pre enc Tryz.prog Tryz.f3 Rows.topEvictedRow.domain false w args∧laidMetH Tryz.prog Rows.topEvictedRow.laid w)∧sizedMet enc Tryz.prog Tryz.f3 (OpenSpec.ofChange Rows.topEvictedSpec) false w args)
   (Rows.topEvictedSpec.post enc Tryz.prog Tryz.f3 false true false false):=by
 refine Md (C:=Tryz.checked) (X:=fun w _=>laidMetH Tryz.prog Rows.topEvictedRow.laid w) (fun _ _ _ hh h=>h.of_heap hh) own started (by kernel_rfl) Tryz.func3
  (ChangeSpec.witness_shaped (enc:=enc) (C:=Tryz.checked) (os:=os) (X:=fun w _=>laidMetH Tryz.prog Rows.topEvictedRow.laid w) false (World.laidAll Tryz.prog os Rows.topEvictedRow.laid) #[.string ⟨#[]⟩,.string ⟨#[]⟩,.bool false] 8 (World.laidAll_os _ _ _)
   (World.shaped_of_ZipB (vz os) (tk os)) (okw os) (pre enc os) (siz enc os)
   (by rw[MakeChecks.laidMetH_plain _ _ _ (by kernel_rfl)];exact laidMet_laidAll _ (lf os) (li os))) ?_
 intro W b0 args ds gs before hval hW hcnd hwt hL hsh _
 have hW':=hW
 obtain⟨p,q,hA,hV,rfl,hfz,hnd⟩:=hW
 rw[Tryz.params3]at hA hwt
 have hi:Iv W:=inv_of W hL hsh
 obtain⟨rfl,rfl⟩:=trodVars_none hV
 have hfit:=UW (base:=base W hi) rfl hA (fun j t v hj hv=>hval j t v (by rw[Tryz.params3];simpa using hj) (by simpa using hv)) (fun y hy=>by
  have azd:(DataW.weightsEach Tryz.prog [9,9,4] (ds++[])).all (· ≤ reachBytes)=true:=hwt
  have:=List.all_eq_true.1 azd y (by rw[List.append_nil];exact hy)
  simpa using this)
 simp only[List.append_nil]at hW'
 have hlt:∀ x∈p,x.block<W.heap.size:=fun x hx=>hW'.lt x hx
 obtain⟨v0,v1,v2,d0,d1,d2,p0,p1,p2,rfl,rfl,rfl,h0,h1,h2⟩:=trodAll_three hA
 refine(walk W hi v0 v1 v2 (hfit 0 _ _ rfl rfl) (hfit 1 _ _ rfl rfl) (hfit 2 _ _ rfl rfl)).mono fun e W' ⟨he,hg⟩=>?_
 subst he
 exact⟨_,rfl,Tq (pa:=_) (pv:=[]) hW' (fun _ _ _=>(trodAll_cons_mk (shut_bool Tryz.underlying4 _) trodAll_mk0)) (fun sp hsp=>by
   rw[Tryz.params3]
   exact Ji laidOut hg (fun t ht=>by
    have ht:t=9∨t=9∨t=4:=by simpa using ht
    rcases ht with rfl|rfl|rfl<;>exact⟨by kernel_rfl,of_decide_eq_true (by kernel_rfl)⟩) hA hlt hsp) (fun _ _=>rfl) (by simp)
  hg (ok_one (by kernel_rfl) rfl (okWide_bool_mk Tryz.underlying4 _))⟩
theorem over:Rows.TopEvictedSaid :=
 OpenClaim.holds_of_wide 3 Tryz.f3 rfl rfl rfl rfl rfl rfl rfl ⟨rfl,rfl,rfl,rfl,rfl⟩ rfl rfl rfl rfl rfl Wh Tryz.func3 jf
  (of_decide_eq_true (by kernel_rfl)) (by unfold Func.isWrapper;first|(rw[if_pos (by decide +kernel)];kernel_rfl)|(rw[if_neg (by decide +kernel)];exact⟨rfl,rfl⟩))
  (fun os started H enc _=>lifted os started H enc)
theorem proved:Rows.TopEvictedCardSaid :=
 Claim7.holds_tied_plain_at .later [] [.pinned,.data,.data,.data,.data,.sentinel,.sentinel] true (true,"e108fbf0410e49292f163e1b022bc708076fefab669d641d544fac091534dfa2") true
  over (fun _ h=>by cases h) (by kernel_rfl) (fun _ h=>by cases h) alL rfl ⟨rfl,rfl⟩ (by kernel_rfl) rfl
  (fun f fn hf hfn=>by
   obtain rfl:f=3:=Option.some.inj (Wh.symm.trans hf) |>.symm
   obtain rfl:fn=Tryz.f3:=(Option.some.inj (Tryz.func3.symm.trans hfn)).symm
   exact⟨by kernel_rfl,fun j t ht=>by
    rw[Tryz.params3]at ht
    have hm:=Array.mem_of_getElem? ht
    have hm:t=9∨t=9∨t=4:=by simpa using hm
    rcases hm with rfl|rfl|rfl
    ·exact(by kernel_rfl:Tryz.prog.wantsStandIn 9=false)
    ·exact(by kernel_rfl:Tryz.prog.wantsStandIn 9=false)
    ·exact(by kernel_rfl:Tryz.prog.wantsStandIn 4=false)⟩)
  goesBy
end Go.Proofs.YtcoihknokhdbkaaGreatDoor.topEvicted
