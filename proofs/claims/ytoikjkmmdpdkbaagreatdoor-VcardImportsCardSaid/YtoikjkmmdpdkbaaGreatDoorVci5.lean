/- Part 5 of the ground of the proofs of this seat (texts N0 to WDot). By an AI agent. -/
import Derived.Test.YtoikjkmmdpdkbaaGreatDoorVci4
import Derived.Lib.ItoaLen
import Derived.Lib.AtoiAll
import Derived.RangeFuncRecord
import Derived.RangeFuncSeq
import Derived.OrdersIn
import Derived.LoopNIn
set_option maxRecDepth 10000
set_option linter.unusedVariables false
set_option linter.unusedSimpArgs false
namespace Go.Ab.Vc
open Go Go.Ab
abbrev Str:=List UInt8
abbrev OI:=Str × Nat × Nat
def toC (t:OI) : AV × AV × Nat:=(St t.1,N .i64 (t.2.1:Int),t.2.2)
def rY:List OI→Str→Option Nat
 | [],_=>none
 | t :: T,s=>if s=t.1 then some t.2.1 else rY T s
def K6 (s:Str) (v:Nat) : List OI→List OI
 | []=>[]
 | t :: T=>if s=t.1 then(s,v,t.2.2) :: T else t :: K6 s v T
theorem PN (s:Str) : ∀ (T:List OI) (i:Nat),(rY T s=none∧oq false [2] [St s] (T.map toC) i=some none) ∨
  ∃ j v,rY T s=some v∧oq false [2] [St s] (T.map toC) i=some (some (i + j,N .i64 ((v:Nat) : Int)))∧∀ w:Nat,II (St s) (N .i64 (w:Int)) (T.map toC) j=(K6 s w T).map toC
 | [],i=>.inl ⟨rfl,rfl⟩
 | t :: T,i=>by
   simp only[List.map_cons,toC,oq,iw,rY,K6]
   rw[if_pos (show([St t.1] : List AV).length=([2] : List Nat).length from rfl),Dq]
   by_cases hs:s=t.1
   ·simp only[if_pos hs,JJ]
    exact .inr ⟨0,t.2.1,rfl,rfl,fun w=>rfl⟩
   ·simp only[if_neg hs]
    rcases PN s T (i + 1) with⟨h1,h2⟩ | ⟨j,v,h1,h2,h3⟩
    ·exact .inl ⟨h1,h2⟩
    ·refine .inr ⟨j + 1,v,h1,by rw[h2,show i + 1 + j=i + (j + 1) by omega],fun w=>?_⟩
     rw[II,h3 w]; rfl
theorem Xk (s x:Str) (w:Nat) : ∀ (T:List OI) {v:Nat},rY T s=some v→rY (K6 s w T) x=if x=s then some w else rY T x
 | [],v,h=>by cases h
 | t :: T,v,h=>by
   rw[rY] at h
   rw[K6,rY]
   by_cases hs:s=t.1
   ·rw[if_pos hs,rY]
    by_cases hx:x=s
    ·rw[if_pos hx,if_pos hx]
    ·rw[if_neg hx,if_neg hx,if_neg (fun e=>hx (e.trans hs.symm))]
   ·rw[if_neg hs] at h
    rw[if_neg hs,rY,Xk s x w T h]
    by_cases hx:x=t.1
    ·rw[if_pos hx,if_pos hx,if_neg (fun e=>hs (e.symm.trans hx))]
    ·rw[if_neg hx,if_neg hx]
theorem SY (s x:Str) (w k:Nat) : ∀ (T:List OI),rY T s=none→rY (T++[(s,w,k)]) x=if x=s then some w else rY T x
 | [],_=>rfl
 | t :: T,h=>by
   rw[rY] at h
   by_cases hs:s=t.1
   ·rw[if_pos hs] at h; cases h
   ·rw[if_neg hs] at h
    rw[List.cons_append,rY,SY s x w k T h,rY]
    by_cases hx:x=t.1
    ·rw[if_pos hx,if_pos hx,if_neg (fun e=>hs (e.symm.trans hx))]
    ·rw[if_neg hx,if_neg hx]
structure mF (M:RM) (mb:Nat) (f:Str→Nat) : Prop where
 lt:mb<M.next
 ex:∃ T cl,M.heap mb=some (.map (T.map toC) cl)∧∀ s,f s=(rY T s).getD 0
section
variable {M M' : RM} {mb:Nat} {f:Str→Nat} {ks:List Nat} {s:Str}
theorem mF.keep (h:mF M mb f) (k:ag ks M M') (hd:mb ∉ ks) : mF M' mb f :=
 ⟨Nat.lt_of_lt_of_le h.lt k.next,let ⟨T,cl,h1,h2⟩:=h.ex; ⟨T,cl,k.ay h1 h.lt hd,h2⟩⟩
theorem mF.look (h:mF M mb f) {K:AV→Prop} (hK:K (N .i64 (f s:Int))) : wN false [2] (N .i64 (0:Int)) false M (.map mb) (St s) K:=by
 obtain⟨T,cl,h1,h2⟩:=h.ex
 have h2:=h2 s
 rcases PN s T 0 with⟨a1,a2⟩ | ⟨j,v,a1,a2,a3⟩
 ·rw[a1] at h2
  refine⟨mb,_,cl,[St s],none,rfl,h1,rfl,rfl,a2, ?_⟩
  rw[h2] at hK; exact hK
 ·rw[a1] at h2
  refine⟨mb,_,cl,[St s],_,rfl,h1,rfl,rfl,a2, ?_⟩
  rw[h2] at hK; exact hK
theorem mF.upd (h:mF M mb f) {w:Nat} {K:RM→Prop} (hK:∀ M',mF M' mb (fun x=>if x=s then w else f x)→ag [mb] M M'→M'.next=M.next→K M') : BJ false [2] M (.map mb) (St s) (N .i64 (w:Int)) K:=by
 obtain⟨T,cl,h1,h2⟩:=h.ex
 rcases PN s T 0 with⟨a1,a2⟩ | ⟨j,v,a1,a2,a3⟩
 ·refine⟨mb,_,cl,[St s],none,rfl,h1,rfl,rfl,a2,hK _ ⟨h.lt,T++[(s,w,cl)],cl + 1, ?_,fun x=>?_⟩ ((ag.refl _ _).put _ (.inr (by simp))) rfl⟩
  ·rw[aB]; simp[Yj,toC]
  ·rw[SY s x w cl T a1,h2 x]; split <;> rfl
 ·refine⟨mb,_,cl,[St s],_,rfl,h1,rfl,rfl,a2,hK _ ⟨h.lt,K6 s w T,cl, ?_,fun x=>?_⟩ ((ag.refl _ _).put _ (.inr (by simp))) rfl⟩
  ·rw[aB]; simp only[Yj,Nat.zero_add]; rw[a3 w]
  ·rw[Xk s x w T a1,h2 x]; split <;> rfl
theorem mF.new (M:RM) : mF (M.push (.map [] 0)) M.next (fun _=>0):=⟨Nat.lt_succ_self _,[],0,RM.aV _,fun s=>rfl⟩
end
end Go.Ab.Vc
namespace Go.Ab.Vc
open Go Go.Ab Go.Ab.Vl Go.Ab.Sm
def kX:Str:=[44,59,58,35]
def tO (s:Str) : Bool:=s.any fun c=>decide (c∈kX)
def q4 (v:Str) : Str:=if tO v then[34]++v++[34] else v
def qy (vs:List Str) : Str:=vs.flatMap fun v=>44 :: q4 v
def uf:List Str→Str
 | []=>[]
 | v :: vs=>q4 v++qy vs
def uR (p:jh) : Str:=[59]++p.1++[61]++uf p.2
def ma (ps:List jh) : Str:=ps.flatMap uR
def fI (L:Ln) : Str:=oV L++(L.n++ma L.ps)
abbrev jL:Str:=[114,97,119]
abbrev kM:Str:=[98,101,103,105,110]
abbrev dB:Str:=[118,101,114,115,105,111,110]
abbrev rQ:Str:=[101,110,100]
abbrev CB:Str:=[117,105,100]
abbrev dS:Str:=[118,99,97,114,100]
abbrev JV:Str:=[52,46,48]
def qd:List Str:=[[102,110],[110,105,99,107,110,97,109,101],[116,101,108],[101,109,97,105,108],[110,111,116,101],[111,114,103],[116,105,116,108,101],[114,111,108,101],[99,97,116,101,103,111,114,105,101,115]]
def uU (n:Str) : Bool:=decide (n∈qd)
def uL (n:Str) : Bool:=decide (n=kM) || decide (n=dB) || decide (n=rQ)
abbrev Fd:=Str × Str
def bS (L:Ln) : Fd :=
 if uU L.n then match fK L.v with
  | some s=>if esc s=L.v then(fI L,s) else(jL++[46]++fI L,L.v)
  | none=>(jL++[46]++fI L,L.v)
 else(fI L,L.v)
def iC (n:Str) (k:Int) : Str:=if k=0 then n else n++[35]++Lib.itoa (IntKind.wrap .i64 (k + 1))
def kJ (L:Ln) (k:Int) : Fd × Bool :=
 if (kH eG L).2=0∧L.g≠jL∧uL L.n=false∧0≤k then((iC (bS L).1 k,(bS L).2),true) else(([],[]),false)
def dP (L:Ln) (name:Str) : Bool :=
 decide (L.n=name) && decide (L.g=[]) && decide (L.ps.length=0) && (if name=dB then decide (L.v=JV) else decide (L.v.map dz=dS))
def gT (b:Int) : List (Ln × Int)→List (Ln × Int)→Except Int (List (Ln × Int) × List (Ln × Int))
 | [],_=>.error b
 | x :: r,acc=>if dP x.1 rQ then .ok (acc,r) else if uL x.1.n || decide (x.1.g=jL) then .error x.2 else gT b r (acc++[x])
def ni:Nat→List (Ln × Int)→List (List (Ln × Int))→Except Int (List (List (Ln × Int)))
 | 0,_,acc=>.ok acc
 | _ + 1,[],acc=>.ok acc
 | k + 1,x :: r,acc=>if dP x.1 kM=false then .error x.2 else match r with
   | []=>.error x.2
   | y :: r=>if dP y.1 dB=false then .error y.2 else match gT x.2 r [x] with
     | .error e=>.error e
     | .ok (c,r')=>ni k r' (acc++[c])
abbrev Cd:=Str × List Fd × Int
def fE (ns:List Str) (n:Str) : Nat:=ns.countP (· = n)
def mY:List (Ln × Int)→List Str→List Fd→Except (Int × Int) (List Fd)
 | [],_,acc=>.ok acc
 | x :: r,ns,acc =>
   if 64<(iC (bS x.1).1 (fE ns (bS x.1).1)).length∨512<(bS x.1).2.length then .error (x.2,2)
   else mY r (ns++[(bS x.1).1]) (acc++[(iC (bS x.1).1 (fE ns (bS x.1).1),(bS x.1).2)])
def iG (fs:List Fd) : Str:=fs.flatMap fun p=>p.1++[0]++p.2++[0]
def nI (h:Str→Str) (ls:List (Ln × Int)) (all:Str) : Str:=match ls.find? fun x=>decide (x.1.n=CB) && decide (x.1.g=[]) with
 | some x=>if 1≤x.1.v.length∧x.1.v.length≤64 then x.1.v else[99,45]++(h all).take 16
 | none=>[99,45]++(h all).take 16
def uk (h:Str→Str) : List (Ln × Int)→Except (Int × Int) Cd
 | []=>.error (0,0)
 | b :: ls=>match mY ls [] [] with
   | .error e=>.error e
   | .ok fs=>.ok (nI h ls (iG fs),fs,b.2)
def lq (h:Str→Str) : List (List (Ln × Int))→List Cd→Except (Int × Int) (List Cd)
 | [],acc=>.ok acc
 | l :: r,acc=>match uk h l with
   | .error e=>.error e
   | .ok c=>lq h r (acc++[c])
def sG (h:Str→Str) (s:Str) : Except (Int × Int) (List Cd):=match Ba eG s with
 | .bad k e=>.error (k,e)
 | .ok ls=>match ni (ls.length + 1) ls [] with
   | .error w=>.error (w,3)
   | .ok cs=>lq h cs []
def gF (s:Str) : Str × Str:=(s.takeWhile (fD.contains ·),s.dropWhile (fD.contains ·))
def vE (s:Str) : Str × Str × Bool :=
 if bn 34 s then match brk 34 (s.drop 1) with
  | some (a,b)=>(a,b,true)
  | none=>(s.drop 1,[],false)
 else if Lib.indexAny s kX<0 then(s,[],true) else(s.take (Lib.indexAny s kX).toNat,s.drop (Lib.indexAny s kX).toNat,true)
def jR:Nat→Str→List Str→Option (List Str × Str)
 | 0,_,_=>none
 | k + 1,s,acc=>match vE (s.drop 1) with
   | (v,r,true)=>if bn 44 r then jR k r (acc++[v]) else some (acc++[v],r)
   | _=>none
def mo:Nat→Str→List jh→Option (List jh × Str)
 | 0,_,_=>none
 | k + 1,s,acc=>if bn 59 s then
     if bn 61 (gF (s.drop 1)).2 then match jR (gF (s.drop 1)).2.length (gF (s.drop 1)).2 [] with
      | some (vs,r)=>mo k r (acc++[((gF (s.drop 1)).1,vs)])
      | none=>none
     else none
   else some (acc,s)
def Tx:Ln:=⟨[],[],[],[]⟩
def Cv (s:Str) : Int × Bool:=match Lib.atoiAll s with
 | .ok v=>(v,true)
 | .range=>(Lib.atoiSat s,false)
 | _ => (0, false)
def jM (s:Str) : Int × Bool :=
 let a:=Cv (if bn 35 s then s.drop 1 else s)
 (IntKind.wrap .i64 (a.1 - 1),bn 35 s && a.2 && decide (a.1 ≥ 2))
def Ha (s:Str) : Ln × Int × Bool :=
 let h:Str × Str × Str:=if bn 46 (gF s).2 then((gF s).1,(gF ((gF s).2.drop 1)).1,(gF ((gF s).2.drop 1)).2) else([],(gF s).1,(gF s).2)
 match mo (h.2.2.length + 1) h.2.2 [] with
 | none=>(Tx,0,false)
 | some (ps,r)=>if r=[] then(⟨h.1,h.2.1,ps,[]⟩,0,true) else(⟨h.1,h.2.1,ps,[]⟩,jM r)
def iZ:Str:=[114,97,119,46]
def fV (p:Fd) : Ln × Int × Bool :=
 let raw:=decide (p.1.take 4=iZ)
 let u:=Ha (if raw then p.1.drop 4 else p.1)
 let L:Ln := { u.1 with v:=if !raw && uU u.1.n then esc p.2 else p.2 }
 (L,u.2.1,u.2.2 && (kJ L u.2.1).2 && decide ((kJ L u.2.1).1=p))
def Gn (p:Fd) : Bool:=(fV p).2.2 && decide (p.1.length≤64) && decide (p.2.length≤512)
abbrev Z8:Str:=[66,69,71,73,78,58,86,67,65,82,68,13,10,86,69,82,83,73,79,78,58,52,46,48,13,10]
abbrev adQ:Str:=[69,78,68,58,86,67,65,82,68,13,10]
def JO:List Fd→List Str→Str→Option Str
 | [],_,acc=>some (acc++adQ)
 | p :: r,ns,acc =>
   if Gn p=false then none
   else if (fE ns (bS (fV p).1).1:Int)≠(fV p).2.1 then none
   else JO r (ns++[(bS (fV p).1).1]) (acc++(kH eG (fV p).1).1)
def U4 (fs:List Fd) : Option Str:=JO fs [] Z8
end Go.Ab.Vc
namespace Go.Ab
open Go Go.RowKit
def wd (ds:List Deferred) (a:Act) : Act := { a with defers:=ds }
section
variable {P:Program} {Q0:Act→World→Prop} {K K' : Act→World→Prop} {Q' : Exit→Act→World→Prop} {r:Option Nat} {n:Nat} {ds:List Deferred}
end
section
variable {P:Program} {nt:Nat} {ops:Array Oper} {M0:RM} {ρ0 ρ:Ren} {w0 w:World} {a:Act}
end
def adS (ρ:Ren) (c:Nat) : Prop:=∀ b i,ρ b=some i→i.cb≠c
def afs (D:Nat) : Deferred := { target:=.collected D,args := #[] }
structure adE (n0:Nat) (ρ:Ren) (w:World) (Ds:List Nat) : Prop where
 nodup:Ds.Nodup
 all:∀ D∈Ds,n0≤D∧w.heap[D]?=some (.deferred (some []))∧adS ρ D
inductive Head:AV→Nat→Prop
 | nil:Head (.sc (.slice none 0 0)) 0
 | emp (b:Nat) : Head (.emp b) 0
 | ex (b o len c:Nat) : len≤c→Head (.slc b o len (.ex c)) len
 | op (b o len:Nat) : Head (.slc b o len (.op 1)) len
section
variable {P:Program} {nt ret:Nat}
def Ve (P:Program) (nt n0:Nat) (rg:Bool) (Ds:List Nat) (M:RM) (ρ:Ren) (w:World) (T:Tree AV) (asg:Nat) (K:K3) (e:Exit) (a' : Act) (w' : World) : Prop :=
 ∃ x T' M' ρ' a0 Ds',e=afw x∧a'=wd (Ds'.map afs) a0∧(rg=false→Ds'=Ds)∧adE n0 ρ' w' Ds'∧After P M ρ w M' ρ' w'∧jc ρ' nt T' a0∧(∀ t,Nat.testBit asg t=false→T'.get t=T.get t)∧K x T' M'
theorem Ve.trans {n0:Nat} {rg:Bool} {Ds Ds1:List Nat} {M M1:RM} {ρ ρ1:Ren} {w w1:World} {T T1:Tree AV} {asg abC:Nat} {K:K3} (h:After P M ρ w M1 ρ1 w1) (hds:rg=false→Ds1=Ds) (hk:∀ t,Nat.testBit asg t=false→Nat.testBit abC t=false∧T1.get t=T.get t) {e:Exit} {a' : Act} {w' : World}
  (q:Ve P nt n0 rg Ds1 M1 ρ1 w1 T1 abC K e a' w') : Ve P nt n0 rg Ds M ρ w T asg K e a' w':=by
 obtain⟨x,T',M',ρ',a0,Ds',h1,h2,hx,h3,h4,h5,h6,h7⟩:=q
 exact⟨x,T',M',ρ',a0,Ds',h1,h2,fun hr=>(hx hr).trans (hds hr),h3,h.trans h4,h5,fun t ht=>by obtain⟨k1,k2⟩:=hk t ht; rw[h6 t k1,k2],h7⟩
end
end Go.Ab
set_option maxRecDepth 100000
namespace Go.Ab.Vc
open Go Go.Ab
def mZ (p1 p2 p3 p4:au) (a0:AV) (M0:RM) (Q:ak) : Prop:=p1 [] M0 fun v9 n=>fu v9 fun wa=>aj wa ( Q (Bo false) n) ( aQ a0 fun wb=>af .gtr wb (N .i64 5000) fun wc=>aj wc ( Q (Bo true) n) ( p2 [a0] n fun s vc=>aS s 0 fun j=>aS s 1 fun wd=>aS s 2 fun we=>p3 [a0] vc fun t u=>aS t 0 fun l=>aS t 1 fun wf=>aS t 2 fun wg=>af .neq we wg fun m=>aa m false (fun c=>c wd u) (fun c=>c .undef u) fun wh A=>aa m false (fun vm=>vm wf A) (fun c=>c .undef A) fun wi G=>aa m false (fun vt=>af .neq wh wi fun wj=>vt wj G) (fun c=>c .undef G) fun wk V=>aD m (Bo true) wk fun h=>aa h false (fun v2=>v2 j V) (fun c=>c .undef V) fun wl va=>aa h false (fun ve=>cK wl fun wm=>ve wm va) (fun c=>c .undef va) fun wn x=>aa h false (fun vg=>vg l x) (fun c=>c .undef x) fun wo y=>aa h false (fun vh=>cK wo fun wp=>vh wp y) (fun c=>c .undef y) fun wq z=>aa h false (fun vi=>af .neq wn wq fun wr=>vi wr z) (fun c=>c .undef z) fun ws B=>aD h (Bo true) ws fun wt=>aj wt ( Q (Bo false) B) ( bf (fun v8 g i=>cK j fun wu=>af .lss (ae g 0) wu fun wv=>aj wv ( aM j (ae g 0) 3 fun wx=>aF wx 0 fun wy=>ah i wy fun wz=>aM l (ae g 0) 3 fun w0=>aF w0 0 fun w1=>ah i w1 fun w2=>aX .neq wz w2 fun e=>aK e false (fun vj=>vj j i none) (fun c=>c .undef i none) fun w3 C x6=>aK e false (fun vk=>vk (ae g 0) C none) (fun c=>c .undef C none) fun w4 D x8=>aK e false (fun vl=>aM w3 w4 3 fun w5=>vl w5 D none) (fun c=>c .undef D none) fun w6 E x9=>aK e false (fun vn=>aF w6 2 fun w7=>vn w7 E none) (fun c=>c .undef E none) fun w8 o ya=>aK e false (fun vo=>ah o w8 fun w9=>vo w9 o none) (fun c=>c .undef o none) fun xa F yb=>aK e false (fun vp=>vp l F none) (fun c=>c .undef F none) fun xb H yc=>aK e false (fun vq=>vq (ae g 0) H none) (fun c=>c .undef H none) fun xc I yd=>aK e false (fun vr=>aM xb xc 3 fun xd=>vr xd I none) (fun c=>c .undef I none) fun xe L ye=>aK e false (fun vs=>aF xe 2 fun xf=>vs xf L none) (fun c=>c .undef L none) fun xg p yf=>aK e false (fun vu=>ah p xg fun xh=>vu xh p none) (fun c=>c .undef p none) fun xi O yg=>aK e false (fun vv=>af .neq xa xi fun xj=>vv xj O none) (fun c=>c .undef O none) fun xk P yh=>aD e (Bo true) xk fun d=>aK d false (fun vw=>vw j P none) (fun c=>c .undef P none) fun xl R yi=>aK d false (fun vx=>vx (ae g 0) R none) (fun c=>c .undef R none) fun xm S yj=>aK d false (fun vy=>aM xl xm 3 fun xn=>vy xn S none) (fun c=>c .undef S none) fun xo U yk=>aK d false (fun vz=>aF xo 1 fun xp=>vz xp U none) (fun c=>c .undef U none) fun xq q yl=>aK d false (fun v0=>ah q xq fun xr=>v0 xr q none) (fun c=>c .undef q none) fun xs W ym=>aK d false (fun v1=>v1 l W none) (fun c=>c .undef W none) fun xt X yn=>aK d false (fun v3=>v3 (ae g 0) X none) (fun c=>c .undef X none) fun xu Y yo=>aK d false (fun v4=>aM xt xu 3 fun xv=>v4 xv Y none) (fun c=>c .undef Y none) fun xw Z yp=>aK d false (fun v5=>aF xw 1 fun xx=>v5 xx Z none) (fun c=>c .undef Z none) fun xy r yq=>aK d false (fun v6=>ah r xy fun xz=>v6 xz r none) (fun c=>c .undef r none) fun x0 vb yr=>aa d false (fun v7=>p4 [xs,x0] vb fun x1 vd=>v7 x1 vd) (fun c=>c .undef vb) fun x2 v=>aK d false (fun vf=>fu x2 fun x3=>vf x3 v none) (fun c=>c .undef v none) fun x4 w x7=>aD d (Bo true) x4 fun x5=>aj x5 ( Q (Bo false) w) ( af .add (ae g 0) (N .i64 1) fun ww=>v8 [ww] w)) ( Q (Bo true) i)) [(N .i64 0)] B)))
def vG (p1 p2 p3:au) (p4:Nat) (p5:au) (p6:Nat) (p7:au) (M0:RM) (Q:ak) : Prop:=p1 [(St [66,69,71,73,78,58,86,67,65,82,68,10,86,69,82,83,73,79,78,58,52,46,48,10,70,78,58,65,110,110,92,44,32,66,10,84,69,76,59,84,89,80,69,61,104,111,109,101,58,49,10,84,69,76,59,84,89,80,69,61,104,111,109,101,58,50,10,69,78,68,58,86,67,65,82,68,10])] M0 fun H V=>aS H 0 fun g=>aS H 1 fun c2=>aS H 2 fun c3=>af .neq c3 (N .i64 0) fun L=>aa L false (fun c=>c c2 V) (fun c=>c .undef V) fun c4 W=>aa L false (fun wv=>af .neq c4 (N .i64 0) fun c5=>wv c5 W) (fun c=>c .undef W) fun c6 v1=>aD L (Bo true) c6 fun p=>aa p false (fun x2=>x2 g v1) (fun c=>c .undef v1) fun c7 v6=>aa p false (fun x8=>cK c7 fun c8=>x8 c8 v6) (fun c=>c .undef v6) fun c9 we=>aa p false (fun yh=>af .neq c9 (N .i64 1) fun d0=>yh d0 we) (fun c=>c .undef we) fun d1 Z=>aD p (Bo true) d1 fun j=>aa j false (fun w1=>w1 g Z) (fun c=>c .undef Z) fun d2 ve=>aa j false (fun w7=>aM d2 (N .i64 0) 3 fun d3=>w7 d3 ve) (fun c=>c .undef ve) fun d4 vl=>aa j false (fun xg=>aF d4 1 fun d5=>xg d5 vl) (fun c=>c .undef vl) fun d6 w=>aa j false (fun xp=>ah w d6 fun d7=>xp d7 w) (fun c=>c .undef w) fun d8 vy=>aa j false (fun xy=>cK d8 fun d9=>xy d9 vy) (fun c=>c .undef vy) fun e0 v0=>aa j false (fun xz=>af .neq e0 (N .i64 3) fun e1=>xz e1 v0) (fun c=>c .undef v0) fun e2 B=>aD j (Bo true) e2 fun e3=>aj e3 ( Q (Bo false) B) ( aM g (N .i64 0) 3 fun e4=>aL B e4 3 fun e5=>p2 [e5] B fun wl wq=>aS wl 0 fun e6=>aS wl 1 fun e7=>p1 [e6] wq fun O C=>aS O 0 fun P=>aS O 1 fun s3=>aS O 2 fun e8=>aM g (N .i64 0) 3 fun e9=>aF e9 1 fun g0=>ah C g0 fun g1=>aM g1 (N .i64 2) 2 fun g2=>aL C g2 2 fun g3=>p3 [g3] C fun wm wr=>aS wm 0 fun g4=>aS wm 1 fun g5=>aO (.row [(St []),(St []),(.sc (.slice none 0 0)),(St []),(N .i64 0)] false p4 0) (fun n=>.ptr n 0) wr fun U ws=>aC ws U g4 5 fun v2=>aL v2 U 5 fun g6=>p5 [g6,(N .i64 1)] v2 fun wn wt=>aS wn 0 fun g7=>aS wn 1 fun g8=>aO (.row [(St []),(St [])] false p6 0) (fun n=>.ptr n 0) wt fun F wu=>aC wu F g7 2 fun m=>aM g (N .i64 0) 3 fun g9=>aF g9 1 fun h0=>ah m h0 fun h1=>aM h1 (N .i64 0) 2 fun h2=>aL m h2 2 fun h3=>dW [(St []),(St [])] [(0,1,(St [102,110])),(1,1,(St [65,110,110,44,32,66]))] fun h4=>qc false [2,2] h3 h4 fun h=>aK h true (fun x0=>x0 g m none) (fun c=>c .undef m none) fun h5 v3 n=>aK h true (fun x1=>aM h5 (N .i64 0) 3 fun h6=>x1 h6 v3 none) (fun c=>c .undef v3 none) fun h7 v4 q7=>aK h true (fun x3=>aF h7 1 fun h8=>x3 h8 v4 none) (fun c=>c .undef v4 none) fun h9 D q8=>aK h true (fun x4=>ah D h9 fun i0=>x4 i0 D none) (fun c=>c .undef D none) fun i1 v5 q9=>aK h true (fun x5=>aM i1 (N .i64 2) 2 fun i2=>x5 i2 v5 none) (fun c=>c .undef v5 none) fun i3 E r0=>aK h true (fun x6=>aL E i3 2 fun i4=>x6 i4 E none) (fun c=>c .undef E none) fun i5 v7 r1=>aK h true (fun x7=>dW [(St []),(St [])] [(0,1,(St [116,101,108,59,116,121,112,101,61,104,111,109,101,35,50])),(1,1,(St [50]))] fun i6=>x7 i6 v7 none) (fun c=>c .undef v7 none) fun i7 v8 r2=>aK h true (fun x9=>qc false [2,2] i5 i7 fun i8=>x9 i8 v8 none) (fun c=>c .undef v8 none) fun i9 v9 r3=>aD h i9 (Bo false) fun R=>aK R true (fun ya=>ya e7 v9 none) (fun c=>c .undef v9 none) fun j0 wa r4=>aK R true (fun yb=>af .eql j0 (N .i64 0) fun j1=>yb j1 wa none) (fun c=>c .undef wa none) fun j2 wb r5=>aD R j2 (Bo false) fun S=>aK S true (fun yc=>yc e8 wb none) (fun c=>c .undef wb none) fun j3 wc r6=>aK S true (fun yd=>af .eql j3 (N .i64 0) fun j4=>yd j4 wc none) (fun c=>c .undef wc none) fun j5 wd r7=>aD S j5 (Bo false) fun q=>aK q true (fun ye=>ye P wd none) (fun c=>c .undef wd none) fun j6 wf r8=>aK q true (fun yf=>cK j6 fun j7=>yf j7 wf none) (fun c=>c .undef wf none) fun j8 wg r9=>aK q true (fun yg=>af .eql j8 (N .i64 1) fun j9=>yg j9 wg none) (fun c=>c .undef wg none) fun l0 wh s0=>aD q l0 (Bo false) fun l=>aK l true (fun yi=>yi P wh none) (fun c=>c .undef wh none) fun l1 wi s1=>aK l true (fun yj=>aM l1 (N .i64 0) 3 fun l2=>yj l2 wi none) (fun c=>c .undef wi none) fun l3 wj s2=>aK l true (fun yk=>aF l3 1 fun l4=>yk l4 wj none) (fun c=>c .undef wj none) fun l5 r l6=>aK l true (fun ww=>ah r l5 fun yl=>ww yl r none) (fun c=>c .undef r none) fun ym X l7=>aK l true (fun wx=>cK ym fun yn=>wx yn X none) (fun c=>c .undef X none) fun yo Y l8=>aK l true (fun wy=>af .eql yo (N .i64 3) fun yp=>wy yp Y none) (fun c=>c .undef Y none) fun yq va l9=>aD l yq (Bo false) fun d=>aK d true (fun wz=>wz P va none) (fun c=>c .undef va none) fun yr vb m0=>aK d true (fun w0=>aM yr (N .i64 0) 3 fun ys=>w0 ys vb none) (fun c=>c .undef vb none) fun yt vc m1=>aK d true (fun w2=>aF yt 0 fun yu=>w2 yu vc none) (fun c=>c .undef vc none) fun yv s m2=>aK d true (fun w3=>ah s yv fun yw=>w3 yw s none) (fun c=>c .undef s none) fun yx vd m3=>aK d true (fun w4=>w4 g vd none) (fun c=>c .undef vd none) fun yy vf m4=>aK d true (fun w5=>aM yy (N .i64 0) 3 fun yz=>w5 yz vf none) (fun c=>c .undef vf none) fun y0 vg m5=>aK d true (fun w6=>aF y0 0 fun y1=>w6 y1 vg none) (fun c=>c .undef vg none) fun y2 t m6=>aK d true (fun w8=>ah t y2 fun y3=>w8 y3 t none) (fun c=>c .undef t none) fun y4 vh m7=>aK d true (fun w9=>aX .eql yx y4 fun y5=>w9 y5 vh none) (fun c=>c .undef vh none) fun y6 vi m8=>aD d y6 (Bo false) fun i=>aK i true (fun xa=>xa g vi none) (fun c=>c .undef vi none) fun y7 vj m9=>aK i true (fun xb=>aM y7 (N .i64 0) 3 fun y8=>xb y8 vj none) (fun c=>c .undef vj none) fun y9 vk n0=>aK i true (fun xc=>aF y9 0 fun za=>xc za vk none) (fun c=>c .undef vk none) fun zb u n1=>aK i true (fun xd=>ah u zb fun zc=>xd zc u none) (fun c=>c .undef u none) fun zd vm n2=>aK i true (fun xe=>aQ zd fun ze=>xe ze vm none) (fun c=>c .undef vm none) fun zf vn n3=>aK i true (fun xf=>af .eql zf (N .i64 18) fun zg=>xf zg vn none) (fun c=>c .undef vn none) fun zh vo n4=>aD i zh (Bo false) fun G=>aK G true (fun xh=>xh g5 vo none) (fun c=>c .undef vo none) fun zi vp n5=>aK G true (fun xi=>af .eql zi (N .i64 0) fun zj=>xi zj vp none) (fun c=>c .undef vp none) fun zk vq n6=>aD G zk (Bo false) fun o=>aK o true (fun xj=>aF U 1 fun zl=>xj zl vq none) (fun c=>c .undef vq none) fun zm v n7=>aK o true (fun xk=>ah v zm fun zn=>xk zn v none) (fun c=>c .undef v none) fun zo vr n8=>aK o true (fun xl=>aX .eql zo (St [116,101,108]) fun zp=>xl zp vr none) (fun c=>c .undef vr none) fun zq vs n9=>aD o zq (Bo false) fun wk=>aK wk true (fun xm=>xm g8 vs none) (fun c=>c .undef vs none) fun zr x p0=>aD wk zr (Bo false) fun e=>aK e true (fun xn=>aL x F 2 fun zs=>xn zs x none) (fun c=>c .undef x none) fun zt vt p8=>aK e true (fun xo=>xo g vt none) (fun c=>c .undef vt none) fun zu vu p9=>aK e true (fun xq=>aM zu (N .i64 0) 3 fun zv=>xq zv vu none) (fun c=>c .undef vu none) fun zw vv q0=>aK e true (fun xr=>aF zw 1 fun zx=>xr zx vv none) (fun c=>c .undef vv none) fun zy y q1=>aK e true (fun xs=>ah y zy fun zz=>xs zz y none) (fun c=>c .undef y none) fun z0 vw q2=>aK e true (fun xt=>aM z0 (N .i64 2) 2 fun z1=>xt z1 vw none) (fun c=>c .undef vw none) fun z2 z q3=>aK e true (fun xu=>aL z z2 2 fun z3=>xu z3 z none) (fun c=>c .undef z none) fun z4 vx q4=>aK e true (fun xv=>qc false [2,2] zt z4 fun z5=>xv z5 vx none) (fun c=>c .undef vx none) fun z6 A q5=>aD e z6 (Bo false) fun I=>aK I true (fun xw=>aL A F 2 fun z7=>xw z7 A none) (fun c=>c .undef A none) fun z8 vz q6=>aa I true (fun xx=>p7 [z8] vz fun z9 wo=>xx z9 wo) (fun c=>c .undef vz) fun c0 wp=>aD I c0 (Bo false) fun c1=>Q c1 wp)
def sS (p1 p2 p3:au) (p4:Nat) (a0:AV) (M0:RM) (Q:ak) : Prop:=p1 [a0] M0 fun g i=>aS g 0 fun z=>aS g 1 fun A=>aS g 2 fun m=>af .neq m (N .i64 0) fun B=>aj B ( Q (.tup [(.sc (.slice none 0 0)),A,m]) i) ( p2 [z] i fun n j=>aS n 0 fun o=>aS n 1 fun p=>af .gtr p (N .i64 0) fun C=>aj C ( Q (.tup [(.sc (.slice none 0 0)),p,(N .i64 3)]) j) ( cK o fun D=>bf (fun x c d=>af .lss (ae c 1) D fun E=>aj E ( aM o (ae c 1) 1 fun F=>ah d F fun G=>p3 [G] d fun h r=>aS h 0 fun H=>aS h 1 fun I=>aS h 2 fun q=>aO (.row [(St []),(.sc (.slice none 0 0)),(N .i64 0)] false p4 0) (fun v=>.ptr v 0) r fun l s=>aC s l H 3 fun e=>af .neq q (N .i64 0) fun L=>aj L ( Q (.tup [(.sc (.slice none 0 0)),I,q]) e) ( aL e l 3 fun O=>bM p4 1 [(St []),(.sc (.slice none 0 0)),(N .i64 0)] [(0,3,O)] fun y w=>aO y w e fun P t=>appW p4 3 48 [(St []),(.sc (.slice none 0 0)),(N .i64 0)] false (ae c 0) P t fun R u=>af .add (ae c 1) (N .i64 1) fun S=>x [R,S] u)) ( Q (.tup [(ae c 0),(N .i64 0),(N .i64 0)]) d)) [(.sc (.slice none 0 0)),(N .i64 0)] j))
def sZ (p1 p2:Nat) (p3:au) (p4:Nat) (p5 p6 p7:au) (a0:AV) (M0:RM) (Q:ak) : Prop:=jU p1 a0 fun L F=>aO L F M0 fun O A=>aO (.map [] 0) (fun d=>.map d) A fun m r=>aF O 1 fun P=>ah r P fun x=>cK x fun R=>bf (fun I e i=>af .lss (ae e 1) R fun S=>aj S ( aM x (ae e 1) 2 fun U=>aL i U 2 fun V=>aO (.row [(St []),(St [])] false p2 0) (fun d=>.ptr d 0) i fun p C=>aC C p V 2 fun v=>aL v p 2 fun W=>p3 [W] v fun n D=>aS n 0 fun X=>aS n 1 fun Y=>aS n 2 fun Z=>aO (.row [(St []),(St []),(.sc (.slice none 0 0)),(St []),(N .i64 0)] false p4 0) (fun d=>.ptr d 0) D fun q E=>aC E q X 5 fun l=>fu Z fun h=>aa h false (fun c=>aL l p 2 fun va=>c va l) (fun c=>c .undef l) fun vb w=>aa h false (fun H=>p5 [vb] w fun vc B=>H vc B) (fun c=>c .undef w) fun vd s=>aa h false (fun G=>fu vd fun ve=>G ve s) (fun c=>c .undef s) fun vf j=>aD h (Bo true) vf fun vg=>aj vg ( Q (.tup [(St []),(N .i64 1)]) j) ( aL j q 5 fun vh=>p6 [vh] j fun vi g=>Ou vi 0 fun o=>wN false [2] (N .i64 0) false g m o fun vj=>af .neq vj Y fun vk=>aj vk ( Q (.tup [(St []),(N .i64 1)]) g) ( wN false [2] (N .i64 0) false g m o fun vl=>af .add vl (N .i64 1) fun vm=>BJ false [2] g m o vm fun t=>aL t q 5 fun vn=>p7 [vn] t fun y u=>aS y 0 fun vo=>aS y 1 fun z=>af .neq z (N .i64 0) fun vp=>aj vp ( Q (.tup [(St []),z]) u) ( aX .add (ae e 0) vo fun vq=>af .add (ae e 1) (N .i64 1) fun vr=>I [vq,vr] u)))) ( aX .add (ae e 0) (St [69,78,68,58,86,67,65,82,68,13,10]) fun vs=>Q (.tup [vs,(N .i64 0)]) i)) [(St [66,69,71,73,78,58,86,67,65,82,68,13,10,86,69,82,83,73,79,78,58,52,46,48,13,10]),(N .i64 0)] r
def yZ (p1:Nat) (p2:au) (p3:Nat) (a0:AV) (M0:RM) (Q:ak) : Prop:=jU p1 a0 fun E w=>aO E w M0 fun i j=>aL j i 2 fun vd=>p2 [vd] j fun r s=>aS r 0 fun ve=>aS r 1 fun vf=>aO (.row [(St []),(St []),(.sc (.slice none 0 0)),(St []),(N .i64 0)] false p3 0) (fun v=>.ptr v 0) s fun vc t=>aC t vc ve 5 fun o=>af .eql vf (N .i64 0) fun d=>aa d true (fun c=>aF i 0 fun F=>c F o) (fun c=>c .undef o) fun G h=>aa d true (fun C=>ah h G fun H=>C H h) (fun c=>c .undef h) fun I q=>aa d true (fun D=>aQ I fun L=>D L q) (fun c=>c .undef q) fun O l=>aa d true (fun x=>af .leq O (N .i64 64) fun P=>x P l) (fun c=>c .undef l) fun R m=>aD d R (Bo false) fun e=>aa e true (fun y=>aF i 1 fun S=>y S m) (fun c=>c .undef m) fun U g=>aa e true (fun z=>ah g U fun V=>z V g) (fun c=>c .undef g) fun W n=>aa e true (fun A=>aQ W fun X=>A X n) (fun c=>c .undef n) fun Y p=>aa e true (fun B=>af .leq Y (N .i64 512) fun Z=>B Z p) (fun c=>c .undef p) fun va u=>aD e va (Bo false) fun vb=>Q vb u
def si (p1 p2:au) (p3:Nat) (p4 p5:au) (p6:Nat) (p7 p8:au) (a0:AV) (M0:RM) (Q:ak) : Prop:=p1 [a0] M0 fun v y=>aS v 0 fun e=>aS v 1 fun wy=>aS v 2 fun I=>af .neq I (N .i64 0) fun wz=>aj wz ( Q (.tup [(.sc (.slice none 0 0)),wy,I]) y) ( p2 [e] y fun L z=>af .gtr L (N .i64 0) fun w0=>aj w0 ( Q (.tup [(.sc (.slice none 0 0)),L,(N .i64 3)]) z) ( lX p3 48 [(St []),(.sc (.slice none 0 0)),(N .i64 0)] (N .i64 0) (N .i64 0) fun vs ve=>aO vs ve z fun w1 O=>bf (fun vq d g=>cK e fun w2=>af .lss (ae d 1) w2 fun w3=>aj w3 ( bG (fun q=>aM e (ae d 1) 5 fun w5=>aF w5 1 fun w6=>ah g w6 fun w7=>aX .eql w7 (St [98,101,103,105,110]) fun w8=>aj w8 ( aM e (ae d 1) 5 fun w9=>aF w9 4 fun xa=>ah g xa fun xb=>dW [(St []),(.sc (.slice none 0 0)),(N .i64 0)] [(2,1,xb)] fun xc=>bM p3 1 [(St []),(.sc (.slice none 0 0)),(N .i64 0)] [(0,3,xc)] fun vt vf=>aO vt vf g fun xd Y=>appW p3 3 48 [(St []),(.sc (.slice none 0 0)),(N .i64 0)] false (ae d 0) xd Y fun xe vd=>q [xe] vd) ( aM e (ae d 1) 5 fun xf=>aF xf 1 fun xg=>ah g xg fun xh=>aX .eql xh (St [118,101,114,115,105,111,110]) fun i=>aa i false (fun c=>c e g) (fun c=>c .undef g) fun xi E=>aa i false (fun vp=>vp (ae d 1) E) (fun c=>c .undef E) fun xj F=>aa i false (fun vh=>aM xi xj 5 fun xk=>vh xk F) (fun c=>c .undef F) fun xl A=>aa i false (fun vi=>aF xl 1 fun xm=>vi xm A) (fun c=>c .undef A) fun xn r=>aa i false (fun vj=>ah r xn fun xo=>vj xo r) (fun c=>c .undef r) fun xp B=>aa i false (fun vk=>aX .eql xp (St [101,110,100]) fun xq=>vk xq B) (fun c=>c .undef B) fun xr m=>aD i (Bo true) xr fun xs=>aj xs ( bG (fun w=>aM e (ae d 1) 5 fun xt=>aF xt 1 fun xu=>ah m xu fun xv=>aX .eql xv (St [101,110,100]) fun xw=>aj xw ( cK (ae d 0) fun xx=>af .sub xx (N .i64 1) fun xy=>aM (ae d 0) xy 3 fun xz=>bP (jD 5 e none (some (ae d 1)) none) fun x0=>p4 [xz,x0] m fun ye P=>w [] P) ( w [] m)) (fun yf R=>q [(ae d 0)] R)) ( cK (ae d 0) fun x1=>af .sub x1 (N .i64 1) fun x2=>aM (ae d 0) x2 3 fun p=>aM e (ae d 1) 5 fun x3=>aL m x3 5 fun x4=>p5 [x4] m fun x5 S=>aO (.row [(St []),(St [])] false p6 0) (fun G=>.ptr G 0) S fun h U=>aC U h x5 2 fun V=>bf (fun vr l j=>jA p fun x6=>aF x6 1 fun x7=>ah j x7 fun x8=>cK x8 fun x9=>af .lss (ae l 1) x9 fun ya=>aj ya ( bG (fun x=>jA p fun vw=>aF vw 1 fun vx=>ah j vx fun vy=>aM vy (ae l 1) 2 fun vz=>aF vz 0 fun v0=>ah j v0 fun v1=>p7 [v1] j fun H s=>aS H 0 fun v2=>aS H 1 fun yd=>aF h 0 fun v3=>ah s v3 fun v4=>aX .eql v2 v4 fun v5=>aj v5 ( af .add (ae l 0) (N .i64 1) fun v6=>x [v6] s) ( x [(ae l 0)] s)) (fun yb W=>af .add (ae l 1) (N .i64 1) fun vv=>vr [(ae yb 0),vv] W)) ( aF h 0 fun v7=>ah j v7 fun v8=>p8 [v8,(ae l 0)] j fun v9 X=>aF h 0 fun wa=>aC X wa v9 1 fun t=>aF h 0 fun wb=>ah t wb fun wc=>aQ wc fun wd=>af .gtr wd (N .i64 64) fun o=>aa o false (fun vl=>aF h 1 fun we=>vl we t) (fun c=>c .undef t) fun wf u=>aa o false (fun vm=>ah u wf fun wg=>vm wg u) (fun c=>c .undef u) fun wh C=>aa o false (fun vn=>aQ wh fun wi=>vn wi C) (fun c=>c .undef C) fun wj D=>aa o false (fun vo=>af .gtr wj (N .i64 512) fun wk=>vo wk D) (fun c=>c .undef D) fun wl n=>aD o (Bo true) wl fun wm=>aj wm ( aM e (ae d 1) 5 fun wn=>aF wn 4 fun wo=>ah n wo fun wp=>Q (.tup [(.sc (.slice none 0 0)),wp,(N .i64 2)]) n) ( jA p fun wq=>aF wq 1 fun wr=>ah n wr fun ws=>aL n h 2 fun wt=>bM p6 1 [(St []),(St [])] [(0,2,wt)] fun vu vg=>zZ vu vg n fun wu Z G=>appW p6 2 32 [(St []),(St [])] false ws wu Z fun wv va=>jA p fun ww=>aF ww 1 fun wx=>aC va wx wv 1 fun vb=>q [(ae d 0)] vb))) [(N .i64 0),(N .i64 0)] V))) (fun yc vc=>af .add (ae d 1) (N .i64 1) fun w4=>vq [(ae yc 0),w4] vc)) ( Q (.tup [(ae d 0),(N .i64 0),(N .i64 0)]) g)) [w1,(N .i64 0)] O))
def uS (a0 a1:AV) (M0:RM) (Q:ak) : Prop:=cK a0 fun vn=>cK a1 fun vo=>af .neq vn vo fun E=>aj E ( Q (Bo false) M0) ( bf (fun D e g=>cK a0 fun F=>af .lss (ae e 0) F fun G=>aj G ( aM a0 (ae e 0) 2 fun I=>aF I 0 fun L=>ah g L fun O=>aM a1 (ae e 0) 2 fun P=>aF P 0 fun R=>ah g R fun S=>aX .neq O S fun d=>aK d false (fun c=>c a0 g none) (fun c=>c .undef g none) fun U j vp=>aK d false (fun t=>t (ae e 0) j none) (fun c=>c .undef j none) fun V n vw=>aK d false (fun B=>aM U V 2 fun W=>B W n none) (fun c=>c .undef n none) fun X s vz=>aK d false (fun C=>aF X 1 fun Y=>C Y s none) (fun c=>c .undef s none) fun Z h vq=>aK d false (fun u=>ah h Z fun va=>u va h none) (fun c=>c .undef h none) fun vb l vr=>aK d false (fun v=>v a1 l none) (fun c=>c .undef l none) fun vc m vs=>aK d false (fun w=>w (ae e 0) m none) (fun c=>c .undef m none) fun vd o vt=>aK d false (fun x=>aM vc vd 2 fun ve=>x ve o none) (fun c=>c .undef o none) fun vf p vu=>aK d false (fun y=>aF vf 1 fun vg=>y vg p none) (fun c=>c .undef p none) fun vh i vv=>aK d false (fun z=>ah i vh fun vi=>z vi i none) (fun c=>c .undef i none) fun vj q vx=>aK d false (fun A=>aX .neq vb vj fun vk=>A vk q none) (fun c=>c .undef q none) fun vl r vy=>aD d (Bo true) vl fun vm=>aj vm ( Q (Bo false) r) ( af .add (ae e 0) (N .i64 1) fun H=>D [H] r)) ( Q (Bo true) g)) [(N .i64 0)] M0)
def xJ (p1 p2:Nat) (p3:au) (a0:AV) (M0:RM) (Q:ak) : Prop:=jU p1 a0 fun q p=>aO q p M0 fun t m=>aO (.row [(St []),(St []),(.sc (.slice none 0 0)),(St []),(N .i64 0)] false p2 0) (fun e=>.ptr e 0) m fun c h=>aL h t 2 fun z=>p3 [z] h fun g n=>aS g 0 fun u=>aS g 1 fun A=>aS g 2 fun v=>aO (.row [(St []),(St []),(.sc (.slice none 0 0)),(St []),(N .i64 0)] false p2 0) (fun e=>.ptr e 0) n fun l o=>aC o l u 5 fun d=>fu v fun w=>aj w ( dW [(St []),(St []),(.sc (.slice none 0 0)),(St []),(N .i64 0)] [] fun x=>aC d c x 5 fun i=>aL i c 5 fun r=>Q (.tup [r,(N .i64 1)]) i) ( aL d l 5 fun y=>aC d c y 5 fun j=>aL j c 5 fun s=>Q (.tup [s,(N .i64 0)]) j)
def uW (p1 p2:Nat) (p3 p4 p5 p6:au) (a0 a1:AV) (M0:RM) (Q:ak) : Prop:=jU p1 a0 fun U G=>aO U G M0 fun e B=>aO (.row [(St []),(St [])] false p2 0) (fun n=>.ptr n 0) B fun h p=>aL p e 5 fun X=>p3 [X] p fun A q=>aS A 0 fun vx=>aS A 1 fun Y=>af .neq Y (N .i64 0) fun d=>aa d false (fun c=>aF e 0 fun Z=>c Z q) (fun c=>c .undef q) fun va m=>aa d false (fun R=>ah m va fun vb=>R vb m) (fun c=>c .undef m) fun vc y=>aa d false (fun S=>aX .eql vc (St [114,97,119]) fun vd=>S vd y) (fun c=>c .undef y) fun ve z=>aD d (Bo true) ve fun g=>aa g false (fun H=>aF e 1 fun vf=>H vf z) (fun c=>c .undef z) fun vg j=>aa g false (fun I=>ah j vg fun vh=>I vh j) (fun c=>c .undef j) fun vi r=>aa g false (fun L=>p4 [vi] r fun vj C=>L vj C) (fun c=>c .undef r) fun vk s=>aD g (Bo true) vk fun o=>aa o false (fun O=>O a1 s) (fun c=>c .undef s) fun vl t=>aa o false (fun P=>af .lss vl (N .i64 0) fun vm=>P vm t) (fun c=>c .undef t) fun vn l=>aD o (Bo true) vn fun vo=>aj vo ( dW [(St []),(St [])] [] fun vp=>aC l h vp 2 fun u=>aL u h 2 fun V=>Q (.tup [V,(Bo false)]) u) ( aL l e 5 fun vq=>p5 [vq] l fun vr D=>aO (.row [(St []),(St [])] false p2 0) (fun n=>.ptr n 0) D fun i E=>aC E i vr 2 fun v=>aF i 0 fun vs=>ah v vs fun vt=>p6 [vt,a1] v fun vu F=>aF i 0 fun vv=>aC F vv vu 1 fun w=>aL w i 2 fun vw=>aC w h vw 2 fun x=>aL x h 2 fun W=>Q (.tup [W,(Bo true)]) x)
def AB (p1:Nat) (p2 p3:au) (p4:Nat) (a0:AV) (M0:RM) (Q:ak) : Prop:=bf (fun vs l p=>cK a0 fun xp=>af .lss (ae l 1) xp fun vx=>aj vx ( aM a0 (ae l 1) 5 fun vz=>aL p vz 5 fun v0=>aO (.row [(St []),(St []),(.sc (.slice none 0 0)),(St []),(N .i64 0)] false p1 0) (fun X=>.ptr X 0) p fun j O=>aC O j v0 5 fun u=>aL u j 5 fun v1=>p2 [v1,(St [98,101,103,105,110])] u fun v2 m=>fu v2 fun v3=>aj v3 ( aF j 4 fun v4=>ah m v4 fun v5=>Q (.tup [(.sc (.slice none 0 0)),v5]) m) ( aL m j 5 fun v6=>bM p1 1 [(St []),(St []),(.sc (.slice none 0 0)),(St []),(N .i64 0)] [(0,5,v6)] fun vu Y=>aO vu Y m fun v7 A=>af .add (ae l 1) (N .i64 1) fun o=>cK a0 fun v8=>af .lss o v8 fun e=>aa e true (fun c=>c a0 A) (fun c=>c .undef A) fun v9 D=>aa e true (fun vo=>vo o D) (fun c=>c .undef D) fun wa L=>aa e true (fun vr=>aM v9 wa 5 fun wb=>vr wb L) (fun c=>c .undef L) fun wc t=>aa e true (fun vb=>aL t wc 5 fun wd=>vb wd t) (fun c=>c .undef t) fun we v=>aa e true (fun vc=>p2 [we,(St [118,101,114,115,105,111,110])] v fun wf P=>vc wf P) (fun c=>c .undef v) fun wg w=>aa e true (fun vd=>fu wg fun wh=>vd wh w) (fun c=>c .undef w) fun wi q=>aD e wi (Bo false) fun wj=>aj wj ( aM a0 o 5 fun wk=>aF wk 4 fun wl=>ah q wl fun wm=>Q (.tup [(.sc (.slice none 0 0)),wm]) q) ( af .add o (N .i64 1) fun wn=>bf (fun vt d x=>cK a0 fun wo=>af .lss (ae d 1) wo fun g=>aa g true (fun ve=>ve a0 x) (fun c=>c .undef x) fun wp y=>aa g true (fun vf=>vf (ae d 1) y) (fun c=>c .undef y) fun wq z=>aa g true (fun vg=>aM wp wq 5 fun wr=>vg wr z) (fun c=>c .undef z) fun ws r=>aa g true (fun vh=>aL r ws 5 fun wt=>vh wt r) (fun c=>c .undef r) fun wu B=>aa g true (fun vi=>p2 [wu,(St [101,110,100])] B fun wv R=>vi wv R) (fun c=>c .undef B) fun ww C=>aa g true (fun vj=>fu ww fun wx=>vj wx C) (fun c=>c .undef C) fun wy i=>aD g wy (Bo false) fun wz=>aj wz ( aM a0 (ae d 1) 5 fun w1=>aF w1 1 fun w2=>ah i w2 fun w3=>p3 [w3] i fun h E=>aa h false (fun vk=>vk a0 E) (fun c=>c .undef E) fun w4 F=>aa h false (fun vl=>vl (ae d 1) F) (fun c=>c .undef F) fun w5 G=>aa h false (fun vm=>aM w4 w5 5 fun w6=>vm w6 G) (fun c=>c .undef G) fun w7 H=>aa h false (fun vn=>aF w7 0 fun w8=>vn w8 H) (fun c=>c .undef H) fun w9 s=>aa h false (fun vp=>ah s w9 fun xa=>vp xa s) (fun c=>c .undef s) fun xb I=>aa h false (fun vq=>aX .eql xb (St [114,97,119]) fun xc=>vq xc I) (fun c=>c .undef I) fun xd n=>aD h (Bo true) xd fun xe=>aj xe ( aM a0 (ae d 1) 5 fun xf=>aF xf 4 fun xg=>ah n xg fun xh=>Q (.tup [(.sc (.slice none 0 0)),xh]) n) ( aM a0 (ae d 1) 5 fun xi=>aL n xi 5 fun xj=>bM p1 1 [(St []),(St []),(.sc (.slice none 0 0)),(St []),(N .i64 0)] [(0,5,xj)] fun vv Z=>aO vv Z n fun xk S=>appW p1 5 80 [(St []),(St []),(.sc (.slice none 0 0)),(St []),(N .i64 0)] false (ae d 2) xk S fun xl U=>af .add (ae d 1) (N .i64 1) fun w0=>vt [(ae d 0),w0,xl] U)) ( cK a0 fun xm=>af .geq (ae d 1) xm fun xn=>aj xn ( aF j 4 fun xo=>ah i xo fun xq=>Q (.tup [(.sc (.slice none 0 0)),xq]) i) ( bM p4 1 [(.sc (.slice none 0 0))] [(0,1,(ae d 2))] fun vw va=>aO vw va i fun xr V=>appW p4 1 24 [(.sc (.slice none 0 0))] false (ae d 0) xr V fun xs W=>af .add (ae d 1) (N .i64 1) fun vy=>vs [xs,vy] W))) [(ae l 0),wn,v7] q))) ( Q (.tup [(ae l 0),(N .i64 0)]) p)) [(.sc (.slice none 0 0)),(N .i64 0)] M0
def yO (p1 p2:Nat) (p3:au) (p4:Nat) (p5 p6:au) (a0:AV) (M0:RM) (Q:ak) : Prop:=aO (.row [(St []),(.sc (.slice none 0 0)),(N .i64 0)] false p1 0) (fun g=>.ptr g 0) M0 fun d u=>aM a0 (N .i64 0) 5 fun vb=>aF vb 4 fun vc=>ah u vc fun vd=>aF d 2 fun ve=>aC u ve vd 1 fun E=>aO (.map [] 0) (fun g=>.map g) E fun s F=>bP (jD 5 a0 (some (N .i64 1)) none none) fun B=>cK B fun vf=>bf (fun X j o=>af .lss (ae j 1) vf fun vg=>aj vg ( aM B (ae j 1) 5 fun vh=>aL o vh 5 fun vi=>aO (.row [(St []),(St []),(.sc (.slice none 0 0)),(St []),(N .i64 0)] false p2 0) (fun g=>.ptr g 0) o fun t L=>aC L t vi 5 fun z=>aL z t 5 fun vj=>p3 [vj] z fun vk O=>aO (.row [(St []),(St [])] false p4 0) (fun g=>.ptr g 0) O fun e P=>aC P e vk 2 fun r=>aF e 0 fun vl=>ah r vl fun l=>wN false [2] (N .i64 0) false r s l fun vm=>p5 [l,vm] r fun vn R=>aF e 0 fun vo=>aC R vo vn 1 fun A=>wN false [2] (N .i64 0) false A s l fun vp=>af .add vp (N .i64 1) fun vq=>BJ false [2] A s l vq fun m=>aF e 0 fun vr=>ah m vr fun vs=>aQ vs fun vt=>af .gtr vt (N .i64 64) fun i=>aa i false (fun c=>aF e 1 fun vu=>c vu m) (fun c=>c .undef m) fun vv n=>aa i false (fun U=>ah n vv fun vw=>U vw n) (fun c=>c .undef n) fun vx v=>aa i false (fun V=>aQ vx fun vy=>V vy v) (fun c=>c .undef v) fun vz w=>aa i false (fun W=>af .gtr vz (N .i64 512) fun v0=>W v0 w) (fun c=>c .undef w) fun v1 h=>aD i (Bo true) v1 fun v2=>aj v2 ( dW [(St []),(.sc (.slice none 0 0)),(N .i64 0)] [] fun v3=>aF t 4 fun C=>ah h C fun D=>aC h d v3 3 fun p=>ah p C fun v4=>(v4=D∧aL p d 3 fun Z=>Q (.tup [Z,D,(N .i64 2)]) p)) ( aF d 1 fun v5=>ah h v5 fun v6=>aL h e 2 fun v7=>bM p4 1 [(St []),(St [])] [(0,2,v7)] fun Y S=>aO Y S h fun v8 G=>appW p4 2 32 [(St []),(St [])] false v6 v8 G fun v9 H=>aF d 1 fun wa=>aC H wa v9 1 fun q=>aF e 0 fun wb=>ah q wb fun wc=>aX .add wc (St [0]) fun wd=>aF e 1 fun we=>ah q we fun wf=>aX .add wd wf fun wg=>aX .add wg (St [0]) fun wh=>aX .add (ae j 0) wh fun wi=>af .add (ae j 1) (N .i64 1) fun wj=>X [wi,wj] q)) ( bP (jD 5 a0 (some (N .i64 1)) none none) fun wk=>p6 [wk,(ae j 0)] o fun wl I=>aF d 0 fun wm=>aC I wm wl 1 fun x=>aL x d 3 fun wn=>aC x d wn 3 fun y=>aL y d 3 fun va=>Q (.tup [va,(N .i64 0),(N .i64 0)]) y)) [(St []),(N .i64 0)] F
def yR (p1 p2:Nat) (p3 p4 p5 p6 p7:au) (a0:AV) (M0:RM) (Q:ak) : Prop:=jU p1 a0 fun vf W=>aO vf W M0 fun h G=>aO (.row [(St []),(St []),(.sc (.slice none 0 0)),(St []),(N .i64 0)] false p2 0) (fun d=>.ptr d 0) G fun A t=>aF h 0 fun vh=>ah t vh fun vi=>p3 [vi,(St [114,97,119,46])] t fun z H=>aS z 0 fun vj=>aS z 1 fun vk=>p4 [vj] H fun r S=>aS r 0 fun vl=>aS r 1 fun B=>aS r 2 fun C=>aO (.row [(St []),(St []),(.sc (.slice none 0 0)),(St []),(N .i64 0)] false p2 0) (fun d=>.ptr d 0) S fun g U=>aC U g vl 5 fun x=>aF h 1 fun vm=>ah x vm fun vn=>aF g 3 fun vo=>aC x vo vn 1 fun y=>bG (fun s=>fu vk fun j=>aa j true (fun c=>aF g 1 fun vp=>c vp y) (fun c=>c .undef y) fun vq p=>aa j true (fun ve=>ah p vq fun vr=>ve vr p) (fun c=>c .undef p) fun vs u=>aa j true (fun X=>p5 [vs] u fun vt I=>X vt I) (fun c=>c .undef u) fun vu l=>aD j vu (Bo false) fun vv=>aj vv ( aF h 1 fun vw=>ah l vw fun vx=>p6 [vx] l fun vy L=>aF g 3 fun vz=>aC L vz vy 1 fun O=>s [] O) ( s [] l)) (fun wf v=>aL v g 5 fun v0=>p7 [v0,B] v fun D P=>aS D 0 fun v1=>aS D 1 fun v2=>aO (.row [(St []),(St [])] false p1 0) (fun d=>.ptr d 0) P fun q R=>aC R q v1 2 fun m=>aL m g 5 fun v3=>aK C true (fun Y=>Y v2 m none) (fun c=>c .undef m none) fun v4 n d=>aD C v4 (Bo false) fun e=>aK e true (fun Z=>aL n q 2 fun v5=>Z v5 n none) (fun c=>c .undef n none) fun E o wc=>aK e true (fun va=>aL o h 2 fun v7=>va v7 o none) (fun c=>c .undef o none) fun F w wd=>aK e true (fun vb=>qc false [2,2] E F fun v9=>vb v9 w none) (fun c=>c .undef w none) fun wa V we=>aD e wa (Bo false) fun wb=>aC V A v3 5 fun i=>uH e true (fun vc=>aL i q 2 fun v6=>(v6=E∧vc)) (fun c=>c) (uH e true (fun vd=>aL i h 2 fun v8=>(v8=F∧vd)) (fun c=>c) (aL i A 5 fun vg=>Q (.tup [vg,B,wb]) i)))
def yV (p1 p2:Nat) (p3 p4 p5 p6:au) (a0:AV) (M0:RM) (Q:ak) : Prop:=jU p1 a0 fun U I=>aO U I M0 fun i F=>aO (.row [(St []),(St [])] false p2 0) (fun e=>.ptr e 0) F fun h l=>aL l i 5 fun vx=>aF i 3 fun D=>ah l D fun E=>zZ (.row [(St []),(St [])] false p2 0) (fun e=>.ptr e 0) l fun d G e=>p3 [vx] G fun vy n=>ah n D fun vz=>(vz=E∧(BS e n (.row [(St []),(St [])] false p2 0) (fun e=>.ptr e 0) d∧dW [(St []),(St [])] [(0,1,vy),(1,1,E)] fun Y=>aC n d Y 2 fun t=>aF i 1 fun Z=>ah t Z fun va=>p4 [va] t fun vb j=>fu vb fun vc=>aj vc ( aL j d 2 fun vd=>aC j h vd 2 fun w=>aL w h 2 fun V=>Q V w) ( aF i 3 fun ve=>ah j ve fun vf=>p5 [vf] j fun z x=>aS z 0 fun A=>aS z 1 fun vg=>af .eql vg (N .i64 0) fun g=>aK g true (fun c=>c A x none) (fun c=>c .undef x none) fun vh y v3=>aK g true (fun S=>aF i 3 fun vk=>S vk y none) (fun c=>c .undef y none) fun B m v0=>aK g true (fun L=>ah m B fun vl=>L vl m none) (fun c=>c .undef m none) fun C q v1=>aa g true (fun O=>p6 [vh] q fun vi H=>O vi H) (fun c=>c .undef q) fun vj o=>uH g true (fun P=>ah o B fun vm=>(vm=C∧P)) (fun c=>c) (aK g true (fun R=>aX .eql vj C fun vn=>R vn o none) (fun c=>c .undef o none) fun vo p v2=>aD g vo (Bo false) fun vp=>aj vp ( aF d 1 fun vq=>aC p vq A 1 fun r=>aL r d 2 fun vr=>aC r h vr 2 fun s=>aL s h 2 fun W=>Q W s) ( aF d 0 fun vs=>ah p vs fun vt=>aX .add (St [114,97,119,46]) vt fun vu=>aF d 0 fun vv=>aC p vv vu 1 fun u=>aL u d 2 fun vw=>aC u h vw 2 fun v=>aL v h 2 fun X=>Q X v)))))
def uN (p1:Nat) (p2:au) (a0:AV) (M0:RM) (Q:ak) : Prop:=bf (fun P e i=>cK a0 fun wa=>af .lss (ae e 2) wa fun R=>aj R ( bG (fun h=>aM a0 (ae e 2) 5 fun U=>aL i U 5 fun V=>aO (.row [(St []),(St []),(.sc (.slice none 0 0)),(St []),(N .i64 0)] false p1 0) (fun C=>.ptr C 0) i fun d A=>aC A d V 5 fun g=>af .eql (ae e 0) (N .i64 0) fun vv=>aj vv ( aL g d 5 fun vw=>p2 [vw,(St [98,101,103,105,110]),(St [118,99,97,114,100])] g fun vx j=>fu vx fun vy=>aj vy ( aF d 4 fun vz=>ah j vz fun v0=>Q v0 j) ( aF d 4 fun v1=>ah j v1 fun v2=>h [(N .i64 1),v2] j)) ( af .eql (ae e 0) (N .i64 1) fun v3=>aj v3 ( aL g d 5 fun v4=>p2 [v4,(St [118,101,114,115,105,111,110]),(St [52,46,48])] g fun v5 r=>fu v5 fun v6=>aj v6 ( aF d 4 fun v7=>ah r v7 fun v8=>Q v8 r) ( h [(N .i64 2),(ae e 1)] r)) ( aL g d 5 fun W=>p2 [W,(St [101,110,100]),(St [118,99,97,114,100])] g fun X l=>aj X ( h [(N .i64 0),(ae e 1)] l) ( aF d 1 fun Y=>ah l Y fun Z=>aX .eql Z (St [98,101,103,105,110]) fun m=>aa m false (fun c=>aF d 1 fun va=>c va l) (fun c=>c .undef l) fun vb t=>aa m false (fun O=>ah t vb fun vc=>O vc t) (fun c=>c .undef t) fun vd y=>aa m false (fun D=>aX .eql vd (St [118,101,114,115,105,111,110]) fun ve=>D ve y) (fun c=>c .undef y) fun vf u=>aD m (Bo true) vf fun n=>aa n false (fun E=>aF d 1 fun vg=>E vg u) (fun c=>c .undef u) fun vh p=>aa n false (fun F=>ah p vh fun vi=>F vi p) (fun c=>c .undef p) fun vj v=>aa n false (fun G=>aX .eql vj (St [101,110,100]) fun vk=>G vk v) (fun c=>c .undef v) fun vl w=>aD n (Bo true) vl fun o=>aa o false (fun H=>aF d 0 fun vm=>H vm w) (fun c=>c .undef w) fun vn q=>aa o false (fun I=>ah q vn fun vo=>I vo q) (fun c=>c .undef q) fun vp x=>aa o false (fun L=>aX .eql vp (St [114,97,119]) fun vq=>L vq x) (fun c=>c .undef x) fun vr s=>aD o (Bo true) vr fun vs=>aj vs ( aF d 4 fun vt=>ah s vt fun vu=>Q vu s) ( h [(ae e 0),(ae e 1)] s))))) (fun z B=>af .add (ae e 2) (N .i64 1) fun S=>P [(ae z 0),(ae z 1),S] B)) ( af .neq (ae e 0) (N .i64 0) fun v9=>aj v9 ( Q (ae e 1) i) ( Q (N .i64 0) i))) [(N .i64 0),(N .i64 0),(N .i64 0)] M0
def yB (p1:Nat) (p2:au) (a0 a1:AV) (M0:RM) (Q:ak) : Prop:=bG (fun A=>bf (fun v2 e j=>cK a1 fun x9=>af .lss (ae e 0) x9 fun wa=>aj wa ( aM a1 (ae e 0) 5 fun we=>aF we 4 fun wf=>ah j wf fun wg=>jA a0 fun wh=>aF wh 2 fun wi=>ah j wi fun wj=>af .gtr wg wj fun g=>aK g true (fun c=>c a1 j none) (fun c=>c .undef j none) fun wk B yh=>aK g true (fun vk=>vk (ae e 0) B none) (fun c=>c .undef B none) fun wl E yo=>aK g true (fun vt=>aM wk wl 5 fun wm=>vt wm E none) (fun c=>c .undef E none) fun wn U ys=>aK g true (fun v1=>aF wn 1 fun wo=>v1 wo U none) (fun c=>c .undef U none) fun wp q yi=>aK g true (fun vl=>ah q wp fun wq=>vl wq q none) (fun c=>c .undef q none) fun wr C yj=>aK g true (fun vm=>aX .eql wr (St [117,105,100]) fun ws=>vm ws C none) (fun c=>c .undef C none) fun wt D yk=>aD g wt (Bo false) fun h=>aK h true (fun vn=>vn a1 D none) (fun c=>c .undef D none) fun wu F yl=>aK h true (fun vo=>vo (ae e 0) F none) (fun c=>c .undef F none) fun wv G ym=>aK h true (fun vp=>aM wu wv 5 fun ww=>vp ww G none) (fun c=>c .undef G none) fun wx H yn=>aK h true (fun vq=>aF wx 0 fun wy=>vq wy H none) (fun c=>c .undef H none) fun wz r yp=>aK h true (fun vr=>ah r wz fun w0=>vr w0 r none) (fun c=>c .undef r none) fun w1 I yq=>aK h true (fun vs=>aX .eql w1 (St []) fun w2=>vs w2 I none) (fun c=>c .undef I none) fun w3 n yr=>aD h w3 (Bo false) fun w4=>aj w4 ( aM a1 (ae e 0) 5 fun w5=>aF w5 3 fun w6=>ah n w6 fun w7=>aQ w7 fun w8=>af .geq w8 (N .i64 1) fun d=>aa d true (fun vu=>vu a1 n) (fun c=>c .undef n) fun w9 L=>aa d true (fun vv=>vv (ae e 0) L) (fun c=>c .undef L) fun xa O=>aa d true (fun vw=>aM w9 xa 5 fun xb=>vw xb O) (fun c=>c .undef O) fun xc P=>aa d true (fun vx=>aF xc 3 fun xd=>vx xd P) (fun c=>c .undef P) fun xe s=>aa d true (fun vy=>ah s xe fun xf=>vy xf s) (fun c=>c .undef s) fun xg R=>aa d true (fun vz=>aQ xg fun xh=>vz xh R) (fun c=>c .undef R) fun xi S=>aa d true (fun v0=>af .leq xi (N .i64 64) fun xj=>v0 xj S) (fun c=>c .undef S) fun xk t=>aD d xk (Bo false) fun xl=>aj xl ( aM a1 (ae e 0) 5 fun xm=>aF xm 3 fun xn=>ah t xn fun xo=>jA a0 fun xp=>aF xp 0 fun xq=>aC t xq xo 1 fun X=>Q (.tup []) X) ( A [] t)) ( af .add (ae e 0) (N .i64 1) fun wd=>v2 [wd] n)) ( A [] j)) [(N .i64 0)] M0) (fun yt Y=>bf (fun v3 i l=>jA a0 fun xr=>aF xr 1 fun xs=>ah l xs fun xt=>cK xt fun xu=>af .lss (ae i 1) xu fun xv=>aj xv ( jA a0 fun xx=>aF xx 1 fun xy=>ah l xy fun xz=>aM xz (ae i 1) 2 fun x0=>aF x0 0 fun x1=>ah l x1 fun x2=>bM p1 1 [(N .u8 0)] [(0,1,(N .u8 0))] fun v4 ve=>zZ v4 ve l fun W u vd=>jA a0 fun x5=>aF x5 1 fun w=>ah u w fun x=>aM x (ae i 1) 2 fun x8=>aF x8 1 fun y=>ah u y fun z=>bM p1 1 [(N .u8 0)] [(0,1,(N .u8 0))] fun v5 vf=>zZ v5 vf u fun p Z v=>appW p1 1 1 [(N .u8 0)] false (ae i 0) x2 Z fun x3 m=>bM p1 1 [(N .u8 0)] [(0,1,(N .u8 0))] fun v9 vj=>(BS vd m v9 vj W∧ah m w fun x7=>(x7=x∧ah m y fun yb=>(yb=z∧bM p1 1 [(N .u8 0)] [(0,1,(N .u8 0))] fun v8 vi=>(BS v m v8 vi p∧appW p1 1 1 [(N .u8 0)] false x3 W m fun x4 o=>ah o w fun x6=>(x6=x∧ah o y fun ya=>(ya=z∧bM p1 1 [(N .u8 0)] [(0,1,(N .u8 0))] fun v7 vh=>(BS v o v7 vh p∧appW p1 1 1 [(N .u8 0)] false x4 z o fun yc V=>bM p1 1 [(N .u8 0)] [(0,1,(N .u8 0))] fun v6 vg=>(BS v V v6 vg p∧appW p1 1 1 [(N .u8 0)] false yc p V fun yd va=>af .add (ae i 1) (N .i64 1) fun xw=>v3 [yd,xw] va))))))))) ( p2 [(ae i 0)] l fun ye vb=>bP (aR ye none (some (N .i64 16))) fun yf=>aX .add (St [99,45]) yf fun yg=>jA a0 fun wb=>aF wb 0 fun wc=>aC vb wc yg 1 fun vc=>Q (.tup []) vc)) [(.sc (.slice none 0 0)),(N .i64 0)] Y)
def u6 (p1 p2:Nat) (p3 p4 p5 p6:au) (a0:AV) (M0:RM) (Q:ak) : Prop:=jU p1 a0 fun S H=>aO S H M0 fun d F=>aO (.row [(St []),(St [])] false p2 0) (fun x=>.ptr x 0) F fun g j=>aF d 1 fun D=>ah j D fun E=>aL j d 5 fun v3=>p3 [v3,(Bo false),(St [44,59,58,35])] j fun v4 h=>ah h D fun v2=>(v2=E∧aX .add E v4 fun y=>bG (fun p=>aF d 0 fun X=>ah h X fun Y=>aX .neq Y (St []) fun Z=>aj Z ( aF d 0 fun va=>ah h va fun vb=>aX .add vb (St [46]) fun vc=>aX .add vc y fun vd=>p [vd] h) ( p [y] h)) (fun o r=>aF d 1 fun ve=>ah r ve fun vf=>p4 [vf] r fun vg i=>fu vg fun vh=>aj vh ( aF d 3 fun vi=>ah i vi fun vj=>dW [(St []),(St [])] [(0,1,(ae o 0)),(1,1,vj)] fun vk=>aC i g vk 2 fun u=>aL u g 2 fun U=>Q U u) ( aF d 3 fun vl=>ah i vl fun vm=>p5 [vm] i fun z v=>aS z 0 fun A=>aS z 1 fun vn=>fu vn fun e=>aK e false (fun c=>c A v none) (fun c=>c .undef v none) fun vo w x=>aK e false (fun R=>aF d 3 fun vr=>R vr w none) (fun c=>c .undef w none) fun B n v5=>aK e false (fun I=>ah n B fun vs=>I vs n none) (fun c=>c .undef n none) fun C q v6=>aa e false (fun L=>p6 [vo] q fun vp G=>L vp G) (fun c=>c .undef q) fun vq l=>uH e false (fun O=>ah l B fun vt=>(vt=C∧O)) (fun c=>c) (aK e false (fun P=>aX .neq vq C fun vu=>P vu l none) (fun c=>c .undef l none) fun vv m v7=>aD e (Bo true) vv fun vw=>aj vw ( aX .add (St [114,97,119,46]) (ae o 0) fun vx=>aF d 3 fun vy=>ah m vy fun vz=>dW [(St []),(St [])] [(0,1,vx),(1,1,vz)] fun v0=>aC m g v0 2 fun s=>aL s g 2 fun V=>Q V s) ( dW [(St []),(St [])] [(0,1,(ae o 0)),(1,1,A)] fun v1=>aC m g v1 2 fun t=>aL t g 2 fun W=>Q W t)))))
def Ap (a0:AV) (M0:RM) (Q:ak) : Prop:=bG (fun q=>bf (fun vm g m=>aQ a0 fun vo=>af .lss (ae g 2) vo fun vp=>aj vp ( bG (fun S=>bG (fun r=>bA a0 (ae g 2) fun vr=>af .eql vr (N .u8 34) fun vs=>aj vs ( fu (ae g 0) fun vt=>r [vt] m) ( r [(ae g 0)] m)) (fun P y=>bA a0 (ae g 2) fun vu=>af .eql vu (N .u8 35) fun o=>aa o true (fun c=>c (ae P 0) y) (fun c=>c .undef y) fun vv D=>aa o true (fun vj=>fu vv fun vw=>vj vw D) (fun c=>c .undef D) fun vx O=>aD o vx (Bo false) fun vy=>aj vy ( q [(ae g 2)] O) ( S [(ae P 0),(ae g 1)] O))) (fun R U=>af .add (ae g 2) (N .i64 1) fun vq=>vm [(ae R 0),(ae R 1),vq] U)) ( q [(ae g 1)] m)) [(Bo false),(N .i64 (-1)),(N .i64 0)] M0) (fun p n=>af .lss (ae p 0) (N .i64 0) fun vz=>aj vz ( Q (.tup [a0,(N .i64 1)]) n) ( af .add (ae p 0) (N .i64 1) fun v0=>bP (aR a0 (some v0) none) fun h=>aQ h fun v1=>af .lss v1 (N .i64 1) fun l=>aa l false (fun V=>V h n) (fun c=>c .undef n) fun v2 s=>aa l false (fun W=>bA v2 (N .i64 0) fun v3=>W v3 s) (fun c=>c .undef s) fun v4 t=>aa l false (fun X=>af .eql v4 (N .u8 48) fun v5=>X v5 t) (fun c=>c .undef t) fun v6 u=>aD l (Bo true) v6 fun v7=>aj v7 ( Q (.tup [a0,(N .i64 0)]) u) ( bf (fun vn e j=>aQ h fun v8=>af .lss (ae e 1) v8 fun v9=>aj v9 ( bA h (ae e 1) fun wb=>af .lss wb (N .u8 48) fun i=>aa i false (fun Y=>Y h j) (fun c=>c .undef j) fun wc v=>aa i false (fun Z=>Z (ae e 1) v) (fun c=>c .undef v) fun wd w=>aa i false (fun va=>bA wc wd fun we=>va we w) (fun c=>c .undef w) fun wf x=>aa i false (fun vb=>af .gtr wf (N .u8 57) fun wg=>vb wg x) (fun c=>c .undef x) fun wh z=>aD i (Bo true) wh fun d=>aa d false (fun vc=>vc (ae e 0) z) (fun c=>c .undef z) fun wi A=>aa d false (fun vd=>vd h A) (fun c=>c .undef A) fun wj B=>aa d false (fun ve=>ve (ae e 1) B) (fun c=>c .undef B) fun wk C=>aa d false (fun vf=>bA wj wk fun wl=>vf wl C) (fun c=>c .undef C) fun wm E=>aa d false (fun vg=>af .sub wm (N .u8 48) fun wn=>vg wn E) (fun c=>c .undef E) fun wo F=>aa d false (fun vh=>iH .i64 wo fun wp=>vh wp F) (fun c=>c .undef F) fun wq G=>aa d false (fun vi=>af .sub (N .i64 9223372036854775807) wq fun wr=>vi wr G) (fun c=>c .undef G) fun ws H=>aa d false (fun vk=>af .quo ws (N .i64 10) fun wt=>vk wt H) (fun c=>c .undef H) fun wu I=>aa d false (fun vl=>af .gtr wi wu fun wv=>vl wv I) (fun c=>c .undef I) fun ww L=>aD d (Bo true) ww fun wx=>aj wx ( Q (.tup [a0,(N .i64 0)]) L) ( af .mul (N .i64 10) (ae e 0) fun wy=>bA h (ae e 1) fun wz=>af .sub wz (N .u8 48) fun w0=>iH .i64 w0 fun w1=>af .add wy w1 fun w2=>af .add (ae e 1) (N .i64 1) fun wa=>vn [w2,wa] L)) ( af .lss (ae e 0) (N .i64 2) fun w3=>aj w3 ( Q (.tup [a0,(N .i64 0)]) j) ( bP (aR a0 none (some (ae p 0))) fun w4=>Q (.tup [w4,(ae e 0)]) j))) [(N .i64 0),(N .i64 0)] u)))
def yM (p1:au) (a0 a1:AV) (M0:RM) (Q:ak) : Prop:=af .eql a1 (N .i64 0) fun h=>aj h ( Q a0 M0) ( aX .add a0 (St [35]) fun i=>af .add a1 (N .i64 1) fun d=>p1 [d] M0 fun e c=>aX .add i e fun g=>Q g c)
def qF (a0:AV) (M0:RM) (Q:ak) : Prop:=aX .eql a0 (St [98,101,103,105,110]) fun d=>aa d false (fun c=>c a0 M0) (fun c=>c .undef M0) fun s g=>aa d false (fun l=>aX .eql s (St [118,101,114,115,105,111,110]) fun t=>l t g) (fun c=>c .undef g) fun u h=>aD d (Bo true) u fun e=>aa e false (fun m=>m a0 h) (fun c=>c .undef h) fun o i=>aa e false (fun n=>aX .eql o (St [101,110,100]) fun p=>n p i) (fun c=>c .undef i) fun q j=>aD e (Bo true) q fun r=>Q r j
def qH (p1:au) (a0 a1:AV) (M0:RM) (Q:ak) : Prop:=af .eql a1 (N .i64 0) fun h=>aj h ( Q a0 M0) ( aX .add a0 (St [35]) fun i=>af .add a1 (N .i64 1) fun d=>p1 [d] M0 fun e c=>aX .add i e fun g=>Q g c)
def rA (p1:Nat) (p2:au) (a0 a1:AV) (M0:RM) (Q:ak) : Prop:=jU p1 a0 fun H w=>aO H w M0 fun d j=>aF d 1 fun vs=>ah j vs fun vt=>aX .neq vt a1 fun i=>aa i false (fun c=>aF d 0 fun I=>c I j) (fun c=>c .undef j) fun L l=>aa i false (fun A=>ah l L fun O=>A O l) (fun c=>c .undef l) fun P t=>aa i false (fun F=>aX .neq P (St []) fun R=>F R t) (fun c=>c .undef t) fun S u=>aD i (Bo true) S fun g=>aa g false (fun G=>aF d 2 fun U=>G U u) (fun c=>c .undef u) fun V m=>aa g false (fun x=>ah m V fun W=>x W m) (fun c=>c .undef m) fun X o=>aa g false (fun y=>cK X fun Y=>y Y o) (fun c=>c .undef o) fun Z p=>aa g false (fun z=>af .gtr Z (N .i64 0) fun va=>z va p) (fun c=>c .undef p) fun vb e=>aD g (Bo true) vb fun vc=>aj vc ( Q (Bo false) e) ( aX .eql a1 (St [118,101,114,115,105,111,110]) fun vd=>aj vd ( aF d 3 fun ve=>ah e ve fun vf=>aX .eql vf (St [52,46,48]) fun vg=>Q vg e) ( aF d 3 fun vh=>ah e vh fun vi=>p2 [vi,(St [118,99,97,114,100])] e fun h q=>aa h true (fun B=>aF d 3 fun vj=>B vj q) (fun c=>c .undef q) fun vk n=>aa h true (fun C=>ah n vk fun vl=>C vl n) (fun c=>c .undef n) fun vm r=>aa h true (fun D=>aQ vm fun vn=>D vn r) (fun c=>c .undef r) fun vo s=>aa h true (fun E=>af .eql vo (N .i64 5) fun vp=>E vp s) (fun c=>c .undef s) fun vq v=>aD h vq (Bo false) fun vr=>Q vr v))
def rD (p1 p2:Nat) (p3 p4:au) (a0 a1:AV) (M0:RM) (Q:ak) : Prop:=bG (fun p=>cK a0 fun vu=>bf (fun G o i=>af .lss (ae o 0) vu fun I=>aj I ( aM a0 (ae o 0) 5 fun L=>aL i L 5 fun O=>aO (.row [(St []),(St []),(.sc (.slice none 0 0)),(St []),(N .i64 0)] false p1 0) (fun y=>.ptr y 0) i fun d t=>aC t d O 5 fun j=>aF d 1 fun P=>ah j P fun R=>aX .neq R (St [117,105,100]) fun h=>aa h false (fun c=>aF d 0 fun S=>c S j) (fun c=>c .undef j) fun U n=>aa h false (fun E=>ah n U fun V=>E V n) (fun c=>c .undef n) fun W s=>aa h false (fun F=>aX .neq W (St []) fun X=>F X s) (fun c=>c .undef s) fun Y g=>aD h (Bo true) Y fun Z=>aj Z ( af .add (ae o 0) (N .i64 1) fun vo=>G [vo] g) ( aF d 3 fun va=>ah g va fun vb=>aQ vb fun vc=>af .geq vc (N .i64 1) fun e=>aa e true (fun A=>aF d 3 fun vd=>A vd g) (fun c=>c .undef g) fun ve l=>aa e true (fun B=>ah l ve fun vf=>B vf l) (fun c=>c .undef l) fun vg q=>aa e true (fun C=>aQ vg fun vh=>C vh q) (fun c=>c .undef q) fun vi r=>aa e true (fun D=>af .leq vi (N .i64 64) fun vj=>D vj r) (fun c=>c .undef r) fun vk m=>aD e vk (Bo false) fun vl=>aj vl ( aF d 3 fun vm=>ah m vm fun vn=>Q vn m) ( p [] m))) ( p [] i)) [(N .i64 0)] M0) (fun vv u=>rR p2 a1 fun H z=>aO H z u fun vp v=>p3 [vp] v fun vq w=>p4 [vq] w fun vr x=>bP (aR vr none (some (N .i64 16))) fun vs=>aX .add (St [99,45]) vs fun vt=>Q vt x)
def rO (p1:Nat) (p2 p3 p4:au) (p5:Nat) (p6:au) (p7:Nat) (p8:au) (a0:AV) (M0:RM) (Q:ak) : Prop:=aO (.row [(St []),(St []),(.sc (.slice none 0 0)),(St []),(N .i64 0)] false p1 0) (fun h=>.ptr h 0) M0 fun c P=>p2 [a0] P fun B R=>aS B 0 fun vy=>aS B 1 fun C=>aF c 1 fun vz=>aC R vz vy 1 fun S=>bG (fun s=>p3 [C,(St [46])] S fun D m=>aS D 0 fun v0=>aS D 1 fun v1=>aj v1 ( aF c 1 fun v2=>ah m v2 fun v3=>aF c 0 fun v4=>aC m v4 v3 1 fun ve=>p2 [v0] ve fun E vg=>aS E 0 fun v5=>aS E 1 fun v6=>aF c 1 fun v7=>aC vg v7 v5 1 fun vi=>s [v6] vi) ( s [C] m)) (fun w9 vj=>bf (fun vq j vk=>p4 [(ae j 0),(St [59])] vk fun v8 g=>aj v8 ( aO (.row [(St []),(.sc (.slice none 0 0))] false p5 0) (fun h=>.ptr h 0) g fun i U=>bP (aR (ae j 0) (some (N .i64 1)) none) fun v9=>p2 [v9] U fun F V=>aS F 0 fun wa=>aS F 1 fun G=>aF i 0 fun wb=>aC V wb wa 1 fun W=>p4 [G,(St [61])] W fun wc t=>fu wc fun wd=>aj wd ( dW [(St []),(St []),(.sc (.slice none 0 0)),(St []),(N .i64 0)] [] fun we=>aC t c we 5 fun u=>aL u c 5 fun vu=>Q (.tup [vu,(N .i64 0),(Bo false)]) u) ( bf (fun vr r e=>aj (ae r 1) ( bP (aR (ae r 0) (some (N .i64 1)) none) fun wg=>p6 [wg] e fun o l=>aS o 0 fun wh=>aS o 1 fun H=>aS o 2 fun wi=>fu wi fun wj=>aj wj ( dW [(St []),(St []),(.sc (.slice none 0 0)),(St []),(N .i64 0)] [] fun wk=>aC l c wk 5 fun v=>aL v c 5 fun vv=>Q (.tup [vv,(N .i64 0),(Bo false)]) v) ( aF i 1 fun wl=>ah l wl fun wm=>bM p7 1 [(St [])] [(0,1,wh)] fun vs vl=>aO vs vl l fun wn X=>appW p7 1 16 [(St [])] false wm wn X fun wo Y=>aF i 1 fun wp=>aC Y wp wo 1 fun Z=>p4 [H,(St [44])] Z fun wf va=>vr [H,wf] va)) ( aF c 2 fun wq=>ah e wq fun wr=>aL e i 2 fun ws=>bM p5 1 [(St []),(.sc (.slice none 0 0))] [(0,2,ws)] fun vt vm=>aO vt vm e fun wt vb=>appW p5 2 40 [(St []),(.sc (.slice none 0 0))] false wr wt vb fun wu vc=>aF c 2 fun wv=>aC vc wv wu 1 fun vd=>vq [(ae r 0)] vd)) [G,(Bo true)] t)) ( aX .eql (ae j 0) (St []) fun ww=>aj ww ( aL g c 5 fun wx=>aC g c wx 5 fun w=>aL w c 5 fun vw=>Q (.tup [vw,(N .i64 0),(Bo true)]) w) ( p3 [(ae j 0),(St [35])] g fun I vf=>aS I 0 fun wy=>aS I 1 fun p=>p8 [wy] vf fun L n=>aS L 0 fun O=>aS L 1 fun wz=>aL n c 5 fun w0=>af .sub O (N .i64 1) fun w1=>aK p true (fun d=>d wz n none) (fun d=>d .undef n none) fun w2 x h=>aK p true (fun vn=>KG false w2 (.sc .nilIface) fun w3=>vn w3 x none) (fun d=>d .undef x none) fun w4 y xa=>aD p w4 (Bo false) fun q=>aK q true (fun vo=>vo O y none) (fun d=>d .undef y none) fun w5 z xb=>aK q true (fun vp=>af .geq w5 (N .i64 2) fun w6=>vp w6 z none) (fun d=>d .undef z none) fun w7 vh xc=>aD q w7 (Bo false) fun w8=>aC vh c w0 5 fun A=>aL A c 5 fun vx=>Q (.tup [vx,w1,w8]) A))) [(ae w9 0)] vj)
def sw (a0:AV) (M0:RM) (Q:ak) : Prop:=bG (fun o=>bG (fun c=>aX .eql a0 (St [102,110]) fun i=>aj i ( c [i] M0) ( aX .eql a0 (St [110,105,99,107,110,97,109,101]) fun j=>aj j ( c [j] M0) ( aX .eql a0 (St [116,101,108]) fun l=>aj l ( c [l] M0) ( aX .eql a0 (St [101,109,97,105,108]) fun m=>aj m ( c [m] M0) ( aX .eql a0 (St [110,111,116,101]) fun n=>aj n ( c [n] M0) ( aX .eql a0 (St [111,114,103]) fun e=>aj e ( c [e] M0) ( aX .eql a0 (St [116,105,116,108,101]) fun g=>aj g ( c [g] M0) ( aX .eql a0 (St [114,111,108,101]) fun h=>aj h ( c [h] M0) ( aX .eql a0 (St [99,97,116,101,103,111,114,105,101,115]) fun q=>c [q] M0))))))))) (fun r d=>aj (ae r 0) ( Q (Bo true) d) ( o [] d))) (fun s p=>Q (Bo false) p)
def vH (p1 p2:Nat) (p3:au) (a0:AV) (M0:RM) (Q:ak) : Prop:=jU p1 a0 fun E B=>aO E B M0 fun h d=>aF h 1 fun vo=>ah d vo fun u=>bG (fun n=>aF h 0 fun F=>ah d F fun G=>aX .neq G (St []) fun H=>aj H ( aF h 0 fun I=>ah d I fun L=>aX .add L (St [46]) fun O=>aX .add O u fun P=>n [P] d) ( n [u] d)) (fun vp q=>aF h 2 fun R=>ah q R fun s=>cK s fun S=>bf (fun C e i=>af .lss (ae e 1) S fun U=>aj U ( aM s (ae e 1) 2 fun V=>aL i V 2 fun W=>aO (.row [(St []),(.sc (.slice none 0 0))] false p2 0) (fun A=>.ptr A 0) i fun m z=>aC z m W 2 fun j=>aF m 0 fun X=>ah j X fun Y=>aX .add (St [59]) Y fun Z=>aX .add Z (St [61]) fun va=>aX .add (ae e 0) va fun vb=>aF m 1 fun vc=>ah j vc fun t=>cK t fun vd=>bf (fun D c g=>af .lss (ae c 1) vd fun ve=>aj ve ( bG (fun v=>aM t (ae c 1) 1 fun vf=>ah g vf fun l=>bG (fun p=>af .gtr (ae c 1) (N .i64 0) fun vg=>aj vg ( aX .add (ae c 0) (St [44]) fun vh=>p [vh] g) ( p [(ae c 0)] g)) (fun vq w=>bG (fun o=>p3 [l,(St [44,59,58,35])] w fun vi r=>aj vi ( aX .add (St [34]) l fun vj=>aX .add vj (St [34]) fun vk=>o [vk] r) ( o [l] r)) (fun vr x=>aX .add (ae vq 0) (ae vr 0) fun vl=>v [vl] x))) (fun vs y=>af .add (ae c 1) (N .i64 1) fun vm=>D [(ae vs 0),vm] y)) ( af .add (ae e 1) (N .i64 1) fun vn=>C [(ae c 0),vn] g)) [vb,(N .i64 0)] j) ( Q (ae e 0) i)) [(ae vp 0),(N .i64 0)] q)
def xH (p1:Nat) (p2:au) (a0 a1 a2:AV) (M0:RM) (Q:ak) : Prop:=jU p1 a0 fun P y=>aO P y M0 fun h i=>aF h 0 fun vr=>ah i vr fun vs=>aX .eql vs (St []) fun g=>aa g true (fun c=>aF h 2 fun R=>c R i) (fun c=>c .undef i) fun S j=>aa g true (fun D=>ah j S fun U=>D U j) (fun c=>c .undef j) fun V u=>aa g true (fun L=>cK V fun W=>L W u) (fun c=>c .undef u) fun X v=>aa g true (fun O=>af .eql X (N .i64 0) fun Y=>O Y v) (fun c=>c .undef v) fun Z n=>aD g Z (Bo false) fun e=>aa e true (fun z=>aF h 1 fun va=>z va n) (fun c=>c .undef n) fun vb l=>aa e true (fun A=>ah l vb fun vc=>A vc l) (fun c=>c .undef l) fun vd o=>aa e true (fun B=>B a1 o) (fun c=>c .undef o) fun ve p=>aa e true (fun C=>aX .eql vd ve fun vf=>C vf p) (fun c=>c .undef p) fun vg q=>aD e vg (Bo false) fun d=>aa d true (fun E=>aF h 3 fun vh=>E vh q) (fun c=>c .undef q) fun vi m=>aa d true (fun F=>ah m vi fun vj=>F vj m) (fun c=>c .undef m) fun vk r=>aa d true (fun G=>p2 [vk] r fun vl w=>G vl w) (fun c=>c .undef r) fun vm s=>aa d true (fun H=>H a2 s) (fun c=>c .undef s) fun vn t=>aa d true (fun I=>aX .eql vm vn fun vo=>I vo t) (fun c=>c .undef t) fun vp x=>aD d vp (Bo false) fun vq=>Q vq x
def wR (p1:Nat) (a0:AV) (M0:RM) (Q:ak) : Prop:=bM p1 9 [(St [])] [(0,1,(St [102,110])),(1,1,(St [110,105,99,107,110,97,109,101])),(2,1,(St [116,101,108])),(3,1,(St [101,109,97,105,108])),(4,1,(St [110,111,116,101])),(5,1,(St [111,114,103])),(6,1,(St [116,105,116,108,101])),(7,1,(St [114,111,108,101])),(8,1,(St [99,97,116,101,103,111,114,105,101,115]))] fun j h=>aO j h M0 fun e g=>bf (fun i d c=>cK e fun p=>af .lss (ae d 0) p fun q=>aj q ( aM e (ae d 0) 1 fun m=>ah c m fun n=>aX .eql n a0 fun o=>aj o ( Q (Bo true) c) ( af .add (ae d 0) (N .i64 1) fun l=>i [l] c)) ( Q (Bo false) c)) [(N .i64 0)] g
def AR (p1:au) (a0:AV) (M0:RM) (Q:ak) : Prop:=af .lss a0 (N .i64 10) fun n=>aj n ( af .add a0 (N .i64 1) fun o=>bP (aR (St [48,49,50,51,52,53,54,55,56,57]) (some a0) (some o)) fun p=>Q p M0) ( af .quo a0 (N .i64 10) fun h=>af .rem a0 (N .i64 10) fun c=>af .rem a0 (N .i64 10) fun j=>af .add j (N .i64 1) fun d=>bP (aR (St [48,49,50,51,52,53,54,55,56,57]) (some c) (some d)) fun e=>p1 [h] M0 fun i g=>bP (aR (St [48,49,50,51,52,53,54,55,56,57]) (some c) (some d)) fun l=>(l=e∧aX .add i e fun m=>Q m g))
def nW (p1 p2:au) (a0 a1:AV) (M0:RM) (Q:ak) : Prop:=aQ a0 fun wk=>aQ a1 fun wl=>L9 false wk wl fun wm=>bf (fun vz h i=>af .lss (ae h 0) wm fun wn=>aj wn ( bG (fun A=>bA a0 (ae h 0) fun j=>bA a1 (ae h 0) fun l=>af .or j l fun wp=>af .geq wp (N .u8 128) fun wq=>aj wq ( bP (aR a0 (some (ae h 0)) none) fun w8=>bP (aR a1 (some (ae h 0)) none) fun w9=>Gc w8 fun v1 vi=>aO v1 vi i fun xa vd=>bf (fun w p vf=>EK xa vf fun vb t=>aS vb 0 fun xb=>aj xb ( aS vb 2 fun n=>aQ (ae p 0) fun xc=>af .eql xc (N .i64 0) fun xd=>aj xd ( Q (Bo false) t) ( p1 [(ae p 0)] t fun vc u=>aS vc 0 fun o=>aS vc 1 fun xe=>bP (aR (ae p 0) (some xe) none) fun y=>af .eql o n fun xf=>aj xf ( w [y] u) ( bG (fun C=>af .lss o n fun xg=>aj xg ( C [o,n] u) ( C [n,o] u)) (fun d v=>af .lss (ae d 1) (N .i32 128) fun xh=>aj xh ( af .leq (N .i32 65) (ae d 0) fun z=>aa z true (fun c=>c (ae d 0) v) (fun c=>c .undef v) fun xi va=>aa z true (fun vj=>af .leq xi (N .i32 90) fun xj=>vj xj va) (fun c=>c .undef va) fun xk D=>aD z xk (Bo false) fun g=>aa g true (fun vk=>vk (ae d 1) D) (fun c=>c .undef D) fun xl E=>aa g true (fun vl=>vl (ae d 0) E) (fun c=>c .undef E) fun v2 F=>aa g true (fun vm=>af .add v2 (N .i32 97) fun v3=>vm v3 F) (fun c=>c .undef F) fun v4 G=>aa g true (fun vn=>af .sub v4 (N .i32 65) fun v5=>vn v5 G) (fun c=>c .undef G) fun v6 H=>aa g true (fun vo=>af .eql xl v6 fun v7=>vo v7 H) (fun c=>c .undef H) fun v8 I=>aD g v8 (Bo false) fun v9=>aj v9 ( w [y] I) ( Q (Bo false) I)) ( p2 [(ae d 0)] v fun wa ve=>bf (fun v0 q L=>af .neq (ae q 0) (ae d 0) fun m=>aa m true (fun vp=>vp (ae q 0) L) (fun c=>c .undef L) fun wb O=>aa m true (fun vq=>vq (ae d 1) O) (fun c=>c .undef O) fun wc P=>aa m true (fun vr=>af .lss wb wc fun wd=>vr wd P) (fun c=>c .undef P) fun we s=>aD m we (Bo false) fun wf=>aj wf ( p2 [(ae q 0)] s fun wg vg=>v0 [wg] vg) ( af .eql (ae q 0) (ae d 1) fun wh=>aj wh ( w [y] s) ( Q (Bo false) s))) [wa] ve))))) ( aQ (ae p 0) fun wi=>af .eql wi (N .i64 0) fun wj=>Q wj t)) [w9] vd) ( af .eql l j fun wr=>aj wr ( A [] i) ( bG (fun B=>af .lss l j fun ws=>aj ws ( B [l,j] i) ( B [j,l] i)) (fun r R=>af .leq (N .u8 65) (ae r 0) fun x=>aa x true (fun vs=>vs (ae r 0) R) (fun c=>c .undef R) fun wt S=>aa x true (fun vt=>af .leq wt (N .u8 90) fun wu=>vt wu S) (fun c=>c .undef S) fun wv U=>aD x wv (Bo false) fun e=>aa e true (fun vu=>vu (ae r 1) U) (fun c=>c .undef U) fun ww V=>aa e true (fun vv=>vv (ae r 0) V) (fun c=>c .undef V) fun wx W=>aa e true (fun vw=>af .add wx (N .u8 97) fun wy=>vw wy W) (fun c=>c .undef W) fun wz X=>aa e true (fun vx=>af .sub wz (N .u8 65) fun w0=>vx w0 X) (fun c=>c .undef X) fun w1 Y=>aa e true (fun vy=>af .eql ww w1 fun w2=>vy w2 Y) (fun c=>c .undef Y) fun w3 Z=>aD e w3 (Bo false) fun w4=>aj w4 ( A [] Z) ( Q (Bo false) Z))))) (fun xm vh=>af .add (ae h 0) (N .i64 1) fun wo=>vz [wo] vh)) ( aQ a0 fun w5=>aQ a1 fun w6=>af .eql w5 w6 fun w7=>Q w7 i)) [(N .i64 0)] M0
def xZ (p1:au) (a0:AV) (M0:RM) (Q:ak) : Prop:=aQ a0 fun h=>p1 [a0,(St [97,98,99,100,101,102,103,104,105,106,107,108,109,110,111,112,113,114,115,116,117,118,119,120,121,122,48,49,50,51,52,53,54,55,56,57,45])] M0 fun i d=>aQ i fun j=>af .sub h j fun c=>bP (aR a0 none (some c)) fun e=>bP (aR a0 (some c) none) fun g=>Q (.tup [e,g]) d
def uY (p1 p2 p3:au) (a0:AV) (M0:RM) (Q:ak) : Prop:=p1 [a0,(St [34])] M0 fun h e=>aS h 0 fun n=>aS h 1 fun o=>aj o ( p2 [n,(St [34])] e fun c l=>aS c 0 fun p=>aS c 1 fun q=>aS c 2 fun r=>Q (.tup [p,q,r]) l) ( p3 [a0,(St [44,59,58,35])] e fun i g=>bG (fun d=>af .lss i (N .i64 0) fun s=>aj s ( aQ a0 fun t=>d [t] g) ( d [i] g)) (fun j m=>bP (aR a0 none (some (ae j 0))) fun u=>bP (aR a0 (some (ae j 0)) none) fun v=>Q (.tup [u,v,(Bo true)]) m))
def gX (p1:au) (p2:Nat) (p3 p4 p5:au) (a0 a1:AV) (M0:RM) (Q:ak) : Prop:=aQ a1 fun e=>af .eql e (N .i64 0) fun q=>aa q false (fun c=>c a1 M0) (fun c=>c .undef M0) fun w2 w=>aa q false (fun vk=>vk a0 w) (fun c=>c .undef w) fun w3 x=>aa q false (fun vn=>aX .eql w2 w3 fun w4=>vn w4 x) (fun c=>c .undef x) fun w5 h=>aD q (Bo true) w5 fun w6=>aj w6 ( Q (N .i64 0) h) ( af .eql e (N .i64 1) fun w7=>aj w7 ( bA a1 (N .i64 0) fun w8=>p1 [a0,w8] h fun w9 vj=>Q w9 vj) ( aQ a0 fun xa=>af .geq e xa fun xb=>aj xb ( Q (N .i64 (-1)) h) ( ah h (KY h p2) fun xc=>af .leq e xc fun r=>aa r true (fun v3=>v3 a0 h) (fun c=>c .undef h) fun xd vb=>aa r true (fun v8=>aQ xd fun xe=>v8 xe vb) (fun c=>c .undef vb) fun xf y=>aa r true (fun vl=>af .leq xf (N .i64 64) fun xg=>vl xg y) (fun c=>c .undef y) fun xh z=>aD r xh (Bo false) fun xi=>aj xi ( p3 [a0,a1] z fun xj vh=>Q xj vh) ( bA a1 (N .i64 0) fun vf=>bA a1 (N .i64 1) fun xk=>aQ a0 fun xl=>af .sub xl e fun xm=>af .add xm (N .i64 1) fun t=>bf (fun v9 j s=>af .lss (ae j 0) t fun xn=>aj xn ( bG (fun v=>bA a0 (ae j 0) fun xo=>af .neq xo vf fun xp=>aj xp ( af .add (ae j 0) (N .i64 1) fun xq=>bP (aR a0 (some xq) (some t)) fun xr=>p1 [xr,vf] s fun vg A=>af .lss vg (N .i64 0) fun xs=>aj xs ( Q (N .i64 (-1)) A) ( af .add vg (N .i64 1) fun xt=>af .add (ae j 0) xt fun xu=>v [xu] A)) ( v [(ae j 0)] s)) (fun o B=>af .add (ae o 0) (N .i64 1) fun xv=>bA a0 xv fun xw=>af .eql xw xk fun d=>aa d true (fun vm=>vm a0 B) (fun c=>c .undef B) fun xx C=>aa d true (fun vo=>vo (ae o 0) C) (fun c=>c .undef C) fun xy D=>aa d true (fun vp=>vp (ae o 0) D) (fun c=>c .undef D) fun xz E=>aa d true (fun vq=>vq e E) (fun c=>c .undef E) fun x0 F=>aa d true (fun vr=>af .add xz x0 fun x1=>vr x1 F) (fun c=>c .undef F) fun x2 G=>aa d true (fun vs=>bP (aR xx (some xy) (some x2)) fun x3=>vs x3 G) (fun c=>c .undef G) fun x4 H=>aa d true (fun vt=>vt a1 H) (fun c=>c .undef H) fun x5 I=>aa d true (fun vu=>aX .eql x4 x5 fun x6=>vu x6 I) (fun c=>c .undef I) fun x7 l=>aD d x7 (Bo false) fun x8=>aj x8 ( Q (ae o 0) l) ( af .add (ae o 0) (N .i64 1) fun g=>af .add (ae j 1) (N .i64 1) fun u=>ah l (KY l p2) fun wa=>af .leq e wa fun n=>aa n true (fun vv=>vv u l) (fun c=>c .undef l) fun wb L=>aa n true (fun vw=>vw g L) (fun c=>c .undef L) fun wc O=>aa n true (fun vx=>p4 [wc] O fun wd vi=>vx wd vi) (fun c=>c .undef O) fun we P=>aa n true (fun vy=>af .gtr wb we fun wf=>vy wf P) (fun c=>c .undef P) fun wg m=>aD n wg (Bo false) fun wh=>aj wh ( bP (aR a0 (some g) none) fun wi=>p3 [wi,a1] m fun vd R=>af .geq vd (N .i64 0) fun wj=>aj wj ( af .add vd g fun wk=>Q wk R) ( Q (N .i64 (-1)) R)) ( ah m (KY m p2) fun wl=>af .gtr e wl fun i=>aa i true (fun vz=>vz u m) (fun c=>c .undef m) fun wm S=>aa i true (fun v0=>v0 g S) (fun c=>c .undef S) fun wn U=>aa i true (fun v1=>jZ .shr wn (N .u64 4) fun wo=>v1 wo U) (fun c=>c .undef U) fun wp V=>aa i true (fun v2=>af .add (N .i64 4) wp fun wq=>v2 wq V) (fun c=>c .undef V) fun wr W=>aa i true (fun v4=>af .geq wm wr fun ws=>v4 ws W) (fun c=>c .undef W) fun wt X=>aD i wt (Bo false) fun p=>aa p true (fun v5=>v5 g X) (fun c=>c .undef X) fun wu Y=>aa p true (fun v6=>v6 t Y) (fun c=>c .undef Y) fun wv Z=>aa p true (fun v7=>af .lss wu wv fun ww=>v7 ww Z) (fun c=>c .undef Z) fun wx va=>aD p wx (Bo false) fun wy=>aj wy ( bP (aR a0 (some g) none) fun wz=>p5 [wz,a1] va fun ve vc=>af .lss ve (N .i64 0) fun w0=>aj w0 ( Q (N .i64 (-1)) vc) ( af .add g ve fun w1=>Q w1 vc)) ( v9 [g,u] va))))) ( Q (N .i64 (-1)) s)) [(N .i64 0),(N .i64 0)] z))))
def lc (p1 p2 p3:au) (a0 a1:AV) (M0:RM) (Q:ak) : Prop:=af .leq (N .i32 0) a1 fun s=>aa s true (fun c=>c a1 M0) (fun c=>c .undef M0) fun v8 x=>aa s true (fun vi=>af .lss v8 (N .i32 128) fun v9=>vi v9 x) (fun c=>c .undef x) fun wa q=>aD s wa (Bo false) fun wb=>aj wb ( iH .u8 a1 fun wc=>p1 [a0,wc] q fun wd vd=>Q wd vd) ( af .eql a1 (N .i32 65533) fun we=>aj we ( Gc a0 fun v7 vh=>aO v7 vh q fun wf ve=>bf (fun v4 x2 vf=>EK wf vf fun t r=>aS t 0 fun wg=>aj wg ( aS t 1 fun wh=>aS t 2 fun wi=>af .eql wi (N .i32 65533) fun wj=>aj wj ( Q wh r) ( v4 [] r)) ( Q (N .i64 (-1)) r)) [] ve) ( p2 [a1] q fun wk Z=>fu wk fun wl=>aj wl ( Q (N .i64 (-1)) Z) ( Kz a1 fun g=>aQ g fun wm=>af .sub wm (N .i64 1) fun h=>bf (fun v6 e p=>aQ a0 fun wn=>af .lss (ae e 0) wn fun wo=>aj wo ( bG (fun w=>bA a0 (ae e 0) fun wp=>bA g h fun wq=>af .neq wp wq fun wr=>aj wr ( af .add (ae e 0) (N .i64 1) fun ws=>bP (aR a0 (some ws) none) fun wt=>bA g h fun wu=>p1 [wt,wu] p fun va y=>af .lss va (N .i64 0) fun wv=>aj wv ( Q (N .i64 (-1)) y) ( af .add va (N .i64 1) fun ww=>af .add (ae e 0) ww fun wx=>w [wx] y)) ( w [(ae e 0)] p)) (fun v vb=>bf (fun v5 o n=>aQ g fun wy=>af .lss (ae o 0) wy fun wz=>aj wz ( af .sub (ae v 0) (ae o 0) fun w1=>bA a0 w1 fun w2=>af .sub h (ae o 0) fun w3=>bA g w3 fun w4=>af .neq w2 w4 fun w5=>aj w5 ( af .add (ae e 1) (N .i64 1) fun u=>af .add (ae v 0) (N .i64 1) fun i=>aa (Bo true) true (fun vj=>vj u n) (fun c=>c .undef n) fun w7 z=>aa (Bo true) true (fun vk=>vk i z) (fun c=>c .undef z) fun w8 A=>aa (Bo true) true (fun vl=>p3 [w8] A fun w9 vc=>vl w9 vc) (fun c=>c .undef A) fun xa B=>aa (Bo true) true (fun vm=>af .gtr w7 xa fun xb=>vm xb B) (fun c=>c .undef B) fun xc C=>aD (Bo true) xc (Bo false) fun j=>aa j true (fun vn=>vn i C) (fun c=>c .undef C) fun xd D=>aa j true (fun vo=>vo a0 D) (fun c=>c .undef D) fun xe E=>aa j true (fun vp=>aQ xe fun xf=>vp xf E) (fun c=>c .undef E) fun xg F=>aa j true (fun vq=>af .lss xd xg fun xh=>vq xh F) (fun c=>c .undef F) fun xi G=>aD j xi (Bo false) fun l=>aa l false (fun vr=>vr (Bo false) G) (fun c=>c .undef G) fun d H=>aa d true (fun vs=>vs u H) (fun c=>c .undef H) fun xj I=>aa d true (fun vt=>vt i I) (fun c=>c .undef I) fun xk L=>aa d true (fun vu=>jZ .shr xk (N .u64 4) fun xl=>vu xl L) (fun c=>c .undef L) fun xm O=>aa d true (fun vv=>af .add (N .i64 4) xm fun xn=>vv xn O) (fun c=>c .undef O) fun xo P=>aa d true (fun vw=>af .geq xj xo fun xp=>vw xp P) (fun c=>c .undef P) fun xq R=>aa l false (fun vx=>aD d xq (Bo false) fun xr=>vx xr R) (fun c=>c .undef R) fun xs S=>aa l false (fun vy=>vy xs S) (fun c=>c .undef S) fun m U=>aa m true (fun vz=>vz i U) (fun c=>c .undef U) fun xt V=>aa m true (fun v0=>v0 a0 V) (fun c=>c .undef V) fun xu W=>aa m true (fun v1=>aQ xu fun xv=>v1 xv W) (fun c=>c .undef W) fun xw X=>aa m true (fun v2=>af .lss xt xw fun xx=>v2 xx X) (fun c=>c .undef X) fun xy Y=>aa l false (fun v3=>aD m xy (Bo false) fun xz=>v3 xz Y) (fun c=>c .undef Y) fun x0 vg=>aD l (Bo true) x0 fun x1=>aj x1 ( False) ( v6 [i,u] vg)) ( af .add (ae o 0) (N .i64 1) fun w0=>v5 [w0] n)) ( af .sub (ae v 0) h fun w6=>Q w6 n)) [(N .i64 1)] vb)) ( Q (N .i64 (-1)) p)) [h,(N .i64 0)] Z)))
end Go.Ab.Vc
set_option maxRecDepth 10000
namespace Go.Ab.Vc
open Go Go.Ab Go.Ab.Vl Go.Ab.Sm
def Oq (c:au) : Prop:=∀ {M:RM} {s:Str} {Q:ak},Q (Bo (uL s)) M→c [St s] M Q
theorem WY:Oq fun args M Q=>∃ a0,args=[a0]∧qF a0 M Q:=by
 intro M s Q hQ
 refine⟨_,rfl, ?_⟩
 unfold qF
 simp only[dN]
 rw[dm]
 have e1:∀ x:Str,(s == x)=decide (s=x):=fun x=>by by_cases h:s=x <;> simp[h]
 rw[e1]
 unfold uL at hQ
 cases h1:decide (s=kM) with
 | true =>
   simp only[h1,Bool.true_or] at hQ
   simp only[bU,dh]
   exact hQ
 | false =>
   simp only[h1,Bool.false_or] at hQ
   simp only[cz,dJ]
   rw[dm,e1]
   cases h2:decide (s=dB) with
   | true=>simp only[h2,Bool.true_or] at hQ; simp only[bU,dh]; exact hQ
   | false =>
     simp only[h2,Bool.false_or] at hQ
     simp only[cz,dJ]
     rw[dm,e1]
     exact hQ
def Oo (c:au) : Prop:=∀ {M:RM} {s:Str} {Q:ak},Q (Bo (uU s)) M→c [St s] M Q
theorem MO (s:Str) : uU s=qd.any fun x=>s == x:=by
 unfold uU
 cases h:qd.any (fun x=>s == x) with
 | true =>
   obtain⟨x,h1,h2⟩:=List.any_eq_true.1 h
   have e:s=x:=by simpa using h2
   subst e
   exact decide_eq_true h1
 | false =>
   refine decide_eq_false fun hm=>?_
   have:=List.any_eq_false.1 h s hm
   simp at this
theorem X5:Oo fun args M Q=>∃ a0,args=[a0]∧sw a0 M Q:=by
 intro M s Q hQ
 refine⟨_,rfl, ?_⟩
 unfold sw
 simp only[bL]
 rw[MO] at hQ
 refine aW (fun ys M'=>M'=M∧(qd.any fun x=>s == x)=false) (fun ys M' h=>by obtain⟨rfl,h⟩:=h; rw[h] at hQ; exact hQ) ?_
 intro J hJ
 refine aW (fun ys M'=>M'=M∧ys=[Bo (qd.any fun x=>s == x)]) (fun ys M' h=>?_) ?_
 ·obtain⟨rfl,rfl⟩:=h
  dsimp only[ae]
  refine aN (fun h=>by rw[h] at hQ; exact hQ) fun h=>hJ _ _ ⟨rfl,h⟩
 intro J2 hJ2
 unfold qd at hJ2
 simp only[List.any_cons,List.any_nil,Bool.or_false] at hJ2
 repeat' first
  | (rw[dm]; refine aN (fun h=>hJ2 _ _ ⟨rfl,by simp[h]⟩) fun h=>?_)
  | (rw[dm]; refine hJ2 _ _ ⟨rfl,by simp[*]⟩)
def Z0 (B:Base) (c:au) : Prop:=∀ {M:RM} {n:Int} {Q:ak},M.base=B→-9223372036854775808≤n→n≤9223372036854775807→(∀ M',ag [] M M'→Q (St (Lib.itoa n)) M')→c [N .i64 n] M Q
def TZ (B:Base) (c:au) : Prop:=∀ {M:RM} {s:Str} {k:Int} {Q:ak},M.base=B→s.length≤1000000000→(∀ M',ag [] M M'→Q (St (iC s k)) M')→c [St s,N .i64 k] M Q
theorem X6 {B:Base} {ci:au} (hi:Z0 B ci) : TZ B fun args M Q=>∃ a0 a1,args=[a0,a1]∧qH ci a0 a1 M Q:=by
 intro M s k Q hB hs hQ
 refine⟨_,_,rfl, ?_⟩
 unfold qH
 rw[bH]
 unfold iC at hQ
 refine aN (fun h=>?_) (fun h=>?_)
 ·have h:k=0:=by simpa using h
  rw[if_pos h] at hQ
  exact hQ M (ag.refl _ _)
 ·have h:¬ k=0:=by simpa using h
  rw[if_neg h] at hQ
  rw[bI]
  refine⟨by simp; omega, ?_⟩
  rw[bE]
  have hw : -9223372036854775808≤IntKind.wrap .i64 (k + 1)∧IntKind.wrap .i64 (k + 1)≤9223372036854775807:=by
   rw[IntKind.wrap_i64]; omega
  refine hi hB hw.1 hw.2 fun M' k'=>?_
  rw[bI]
  have:=Lib.itoa_length_le _ hw.1 hw.2
  refine⟨by simp; omega, ?_⟩
  exact hQ M' k'
def Uk (B:Base) (c:au) : Prop:=∀ {M:RM} {s:Str} {Q:ak},M.base=B→s.length≤1000000000→(∀ M',ag [] M M'→Q (Bo (tO s)) M')→c [St s,St kX] M Q
theorem MH (s:Str) : (Lib.indexAny s kX=-1∧∀ x∈s,x ∉ kX)∨∃ a c b,s=a++c :: b∧Lib.indexAny s kX=(a.length:Int)∧c∈kX∧∀ x∈a,x ∉ kX:=by
 induction s with
 | nil=>exact .inl ⟨rfl,by simp⟩
 | cons d s ih =>
   by_cases hd:d∈kX
   ·refine .inr ⟨[],d,s,rfl, ?_,hd,by simp⟩
    have:kX.contains d=true:=by simpa using hd
    simp[Lib.indexAny,hd]
   ·have hn:kX.contains d=false:=by simpa using hd
    rcases ih with⟨e,h⟩ | ⟨a,c,b,e1,e2,h1,h2⟩
    ·refine .inl ⟨by simp[Lib.indexAny,hd,e],fun x hx=>?_⟩
     rcases List.mem_cons.1 hx with rfl | hx
     ·exact hd
     ·exact h x hx
    ·refine .inr ⟨d :: a,c,b,by rw[e1]; rfl, ?_,h1,fun x hx=>?_⟩
     ·simp[Lib.indexAny,hd,e2]
     ·rcases List.mem_cons.1 hx with rfl | hx
      ·exact hd
      ·exact h2 x hx
theorem Xz {B:Base} {ci:au} (hi:oH kX B ci) : Uk B fun args M Q=>∃ a0 a1,args=[a0,a1]∧iK ci a0 a1 M Q:=by
 intro M s Q hM hl hQ
 refine⟨_,_,rfl, ?_⟩
 unfold iK
 refine hi hM hl fun M' k=>?_
 have hQ:=hQ M' k
 rw[dL]
 rcases MH s with⟨e,h⟩ | ⟨a,c,b,e1,e2,h1,h2⟩
 ·have:tO s=false:=by
   unfold tO
   rw[List.any_eq_false]
   intro x hx
   simpa using h x hx
  rw[this] at hQ
  rw[e]; exact hQ
 ·have:tO s=true:=by
   unfold tO
   rw[List.any_eq_true]
   exact⟨c,by rw[e1]; simp,by simpa using h1⟩
  rw[this] at hQ
  rw[e2,show decide ((a.length:Int) ≥ 0)=true from decide_eq_true (by omega)]; exact hQ
def UW (c:au) : Prop:=∀ {M:RM} {s:Str} {Q:ak},s.length≤1000000000→Q (Bo (tO s)) M→c [St s,St kX] M Q
theorem VT:UW fun args M Q=>∃ a0 a1,args=[a0,a1]∧Ay a0 a1 M Q:=by
 intro M s Q hl hQ
 refine⟨_,_,rfl, ?_⟩
 unfold Ay
 refine aI (fun m ys M'=>∃ i:Nat,m=s.length - i∧ys=[N .i64 (i:Int)]∧i≤s.length∧M'=M∧tO (s.drop i)=tO s) s.length ⟨0,rfl,rfl,Nat.zero_le _,rfl,rfl⟩ ?_
 rintro next m ys M' hnext ⟨i,rfl,rfl,hi,rfl,hh⟩
 dsimp only[ae]
 rw[bi,gQ]
 refine aN (fun hlt=>?_) (fun hge=>?_)
 ·have hlt:i<s.length:=of_decide_eq_true hlt
  rw[List.drop_eq_getElem_cons hlt] at hh
  refine aI (fun m ys M2=>∃ j:Nat,m=4 - j∧ys=[N .i64 (j:Int)]∧j≤4∧M2=M'∧∀ x∈kX.take j,s[i]≠x) 4 ⟨0,rfl,rfl,Nat.zero_le _,rfl,by simp⟩ ?_
  rintro pJ m ys M2 gm ⟨j,rfl,rfl,hj,rfl,hx⟩
  dsimp only[ae]
  rw[bi,show kX.length=4 from rfl,gQ]
  refine aN (fun hlt2=>?_) (fun Ai=>?_)
  ·have hlt2:j<4:=of_decide_eq_true hlt2
   have hm:j<kX.length:=hlt2
   rw[gM hlt,gM hm,By,By,bH]
   refine aN (fun hc=>?_) (fun hc=>?_)
   ·have he:s[i]=kX[j]:=by
     have:(s[i].toNat:Int)=(kX[j].toNat:Int):=by simpa using hc
     exact UInt8.toNat_inj.1 (by omega)
    have:tO s=true:=by
     rw[← hh]
     unfold tO
     rw[List.any_cons,decide_eq_true (he▸List.getElem_mem hm),Bool.true_or]
    rw[this] at hQ; exact hQ
   ·have he:s[i]≠kX[j]:=fun e=>by
     rw[e] at hc; simp at hc
    rw[add1 (by omega)]
    refine gm _ _ _ (by omega) ⟨j + 1,rfl,rfl,by omega,rfl,fun x hxm=>?_⟩
    rw[List.take_succ_eq_append_getElem hm,List.mem_append] at hxm
    rcases hxm with hxm | hxm
    ·exact hx x hxm
    ·simp at hxm; subst hxm; exact he
  ·have hj3:j=4:=by
    have:¬ j<4:=of_decide_eq_false Ai
    omega
   subst hj3
   rw[add1 (by omega)]
   refine hnext _ _ _ (by omega) ⟨i + 1,rfl,rfl,by omega,rfl, ?_⟩
   rw[← hh]
   unfold tO
   rw[List.any_cons,decide_eq_false (fun hm=>hx s[i] hm rfl),Bool.false_or]
 ·have he:i=s.length:=by
   have:¬ i<s.length:=of_decide_eq_false hge
   omega
  subst he
  rw[List.drop_length] at hh
  rw[← hh] at hQ; exact hQ
def vO (j:Nat) (vs:List Str) : Str:=if j=0 then uf vs else qy (vs.drop j)
theorem KI {vs:List Str} {j:Nat} (hj:j<vs.length) : vO j vs=(if 0<j then[44] else[])++(q4 vs[j]++vO (j + 1) vs):=by
 unfold vO
 rw[if_neg (by omega:¬ j + 1=0)]
 by_cases h:j=0
 ·subst h
  rw[if_pos rfl,if_neg (by omega)]
  cases vs with
  | nil=>simp at hj
  | cons v vs=>rfl
 ·rw[if_neg h,if_pos (by omega),List.drop_eq_getElem_cons hj]
  rfl
theorem Nq (vs:List Str) : vO vs.length vs=[]:=by
 unfold vO
 cases vs with
 | nil=>rfl
 | cons v vs=>rw[if_neg (by simp),List.drop_length]; rfl
def QF (c:au) : Prop:=∀ {M:RM} {cs:List AV} {L:Ln} {k:Int} {S:Nat→Prop} {Q:ak},gq.rel M cs (L,k) S→LB 1000000000 L→(ma L.ps).length≤140737488355328→(∀ M',ag [] M M'→Q (St (ma L.ps)) M')→c [.agg cs,Bo false,St kX] M Q
theorem U1 {TL:Nat} {cu ch:au} (hh:UW ch) : QF fun args M Q=>∃ a0 a1 a2,args=[a0,a1,a2]∧tL TL cu ch a0 a1 a2 M Q:=by
 intro M cs L k S Q hrel hB hPl hQ
 obtain⟨v,rfl,hps⟩:=hrel
 simp only at hps
 refine⟨_,_,_,rfl, ?_⟩
 unfold tL
 simp only[bL]
 have hall:([St L.g,St L.n,v,St L.v,N .i64 k] : List AV).all oneCell=true:=by simp[eu,hps.one]
 rw[fU hall (by simp),aG]
 have k1:ag [] M (M.push (.row [St L.g,St L.n,v,St L.v,N .i64 k] false TL 0)):=(ag.refl _ _).push _
 have h1:(M.push (.row [St L.g,St L.n,v,St L.v,N .i64 k] false TL 0)).heap M.next=some (.row [St L.g,St L.n,v,St L.v,N .i64 k] false TL 0):=RM.aV _
 have n1:(M.push (.row [St L.g,St L.n,v,St L.v,N .i64 k] false TL 0)).next=M.next + 1:=bZ _
 generalize M.push (.row [St L.g,St L.n,v,St L.v,N .i64 k] false TL 0)=M1 at *
 have P5:cB iI M1 v L.ps S:=hps.keep k1 (by simp)
 have ac7:=hB.ps
 unfold ma at hPl hQ
 generalize hP:L.ps.flatMap uR=P at *
 refine aI (fun m ys M5=>∃ (i:Nat) (xs:List UInt8),m=L.ps.length - i∧ys=[St xs,N .i64 (i:Int)]∧i≤L.ps.length∧ag [] M1 M5∧xs++(L.ps.drop i).flatMap uR=P) L.ps.length
  ⟨0,[],rfl,rfl,Nat.zero_le _,ag.refl _ _,by rw[List.drop_zero,List.nil_append]; exact hP⟩ ?_
 rintro next m ys M5 hnext ⟨i,xs,rfl,rfl,hi,k5,hx⟩
 dsimp only[ae]
 have h5:=k5.ay h1 (by omega) (by simp)
 have F4:=P5.keep k5 (by simp)
 rw[aT,aA h5 rfl,F4.len,gQ]
 refine aN (fun hlt=>?_) (fun hge=>?_)
 ·have hlt:i<L.ps.length:=of_decide_eq_true hlt
  have hmem:=List.getElem_mem hlt
  have b1:=hB.pn _ hmem
  have b2:=hB.pl _ hmem
  have b3:=hB.pv _ hmem
  rw[List.drop_eq_getElem_cons hlt,List.flatMap_cons] at hx
  have hpj:uR L.ps[i]=[59]++L.ps[i].1++[61]++uf L.ps[i].2:=rfl
  have hxl:=Bv hx
  rw[hpj] at hxl
  simp only[List.length_append,List.length_cons,List.length_nil] at hxl
  generalize hrest:(L.ps.drop (i + 1)).flatMap uR=rest at *
  refine aW (fun ys M'=>∃ zs,ys=[St zs]∧ag [] M1 M'∧zs++rest=P) ?_ ?_
  ·rintro _ M6 ⟨zs,rfl,k6,hz⟩
   dsimp only[ae]
   rw[add1 (by omega)]
   exact hnext _ _ _ (by omega) ⟨i + 1,zs,rfl,rfl,by omega,k6,by rw[hrest]; exact hz⟩
  intro J hJ
  obtain⟨pv,hpv,hf0,hf1⟩:=Ph F4 hlt
  rw[aT,aA h5 rfl,hf0]
  refine aW (fun ys M'=>ys=[St L.ps[i].1]∧ag [] M1 M') ?_ ?_
  ·rintro _ M6 ⟨rfl,k6⟩
   dsimp only[ae]
   rw[bI]
   refine⟨by simp; omega, ?_⟩
   rw[bI]
   refine⟨by simp; omega, ?_⟩
   rw[bI]
   refine⟨by simp; omega, ?_⟩
   refine aI (fun m ys M9=>∃ (j:Nat) (zs:List UInt8),m=L.ps[i].2.length - j∧ys=[St zs,N .i64 (j:Int)]∧j≤L.ps[i].2.length∧ag [] M1 M9∧zs++(vO j L.ps[i].2++rest)=P) L.ps[i].2.length
    ⟨0,_,rfl,rfl,Nat.zero_le _,k6, ?_⟩ ?_
   ·rw[← hx,hpj]
    simp only[List.append_assoc,vO,if_true]
   rintro pJ m ys M9 gm ⟨j,zs,rfl,rfl,hj,k9,hz⟩
   dsimp only[ae]
   have h9:=k9.ay h1 (by omega) (by simp)
   have afB:=P5.keep k9 (by simp)
   obtain⟨pv9,K7,hf09,acV⟩:=Ph afB hlt
   rw[aT,aA h9 rfl,acV,K7.len,gQ]
   refine aN (fun hlt2=>?_) (fun Ai=>?_)
   ·have hlt2:j<L.ps[i].2.length:=of_decide_eq_true hlt2
    rw[KI hlt2] at hz
    have b4:=b3 _ (List.getElem_mem hlt2)
    have hzl:=Bv hz
    simp only[List.length_append] at hzl
    refine aW (fun ys M'=>ys=[St (zs++((if 0<j then[44] else[])++q4 L.ps[i].2[j]))]∧ag [] M1 M') ?_ ?_
    ·rintro _ Ma ⟨rfl,ka⟩
     dsimp only[ae]
     rw[add1 (by omega)]
     refine gm _ _ _ (by omega) ⟨j + 1,_,rfl,rfl,by omega,ka, ?_⟩
     rw[← hz]
     simp only[List.append_assoc]
    intro J3 hJ3
    rw[aT,aA h9 rfl,acV,EH K7.sl hlt2]
    generalize L.ps[i].2[j]=x at *
    refine aW (fun ys M'=>ys=[St (zs++(if 0<j then[44] else[]))]∧M'=M9) ?_ ?_
    ·rintro _ Ma ⟨rfl,rfl⟩
     dsimp only[ae]
     refine aW (fun ys M'=>ys=[St (q4 x)]∧M'=Ma) ?_ ?_
     ·rintro _ Mb ⟨rfl,rfl⟩
      dsimp only[ae]
      rw[bI]
      refine⟨by simp only[List.length_append]; omega, ?_⟩
      exact hJ3 _ _ ⟨by rw[List.append_assoc],k9⟩
     intro J2 hJ2
     refine hh b4 ?_
     refine aN (fun hm=>?_) (fun hm=>?_)
     ·rw[bI]
      refine⟨by simp; omega, ?_⟩
      rw[bI]
      refine⟨by simp; omega, ?_⟩
      exact hJ2 _ _ ⟨by rw[q4,if_pos hm],rfl⟩
     ·exact hJ2 _ _ ⟨by rw[q4,if_neg (by rw[hm]; simp)],rfl⟩
    intro J2 hJ2
    rw[show(N .i64 (0:Int))=N .i64 ((0:Nat) : Int) from rfl,xQ]
    refine aN (fun hm=>?_) (fun hm=>?_)
    ·have hm:0<j:=of_decide_eq_true hm
     rw[if_pos hm] at hzl hJ2
     simp only[List.length_cons,List.length_nil] at hzl
     rw[bI]
     refine⟨by simp; omega, ?_⟩
     exact hJ2 _ _ ⟨rfl,rfl⟩
    ·have hm:¬ 0<j:=of_decide_eq_false hm
     refine hJ2 _ _ ⟨?_,rfl⟩
     rw[if_neg hm,List.append_nil]
   ·have he:j=L.ps[i].2.length:=by
     have:¬ j<L.ps[i].2.length:=of_decide_eq_false Ai
     omega
    subst he
    rw[Nq,List.nil_append] at hz
    exact hJ _ _ ⟨zs,rfl,k9,hz⟩
  intro J2 hJ2
  rw[bq]
  exact hJ2 _ _ ⟨rfl,k5⟩
 ·have he:i=L.ps.length:=by
   have:¬ i<L.ps.length:=of_decide_eq_false hge
   omega
  subst he
  rw[List.drop_length,List.flatMap_nil,List.append_nil] at hx
  subst hx
  exact hQ M5 (k1.trans k5)
def Qx (B:Base) (c:au) : Prop:=∀ {M:RM} {cs:List AV} {L:Ln} {k:Int} {S:Nat→Prop} {Q:ak},M.base=B→gq.rel M cs (L,k) S→LB 1000000000 L→(fI L).length≤140737488355328→(∀ M',ag [] M M'→Q (St (fI L)) M')→c [.agg cs] M Q
theorem UQ {B:Base} {TL TP:Nat} {ca:au} (ha:Uk B ca) : Qx B fun args M Q=>∃ a0,args=[a0]∧vH TL TP ca a0 M Q:=by
 intro M cs L k S Q hBM hrel hB hPl hQ
 obtain⟨v,rfl,hps⟩:=hrel
 simp only at hps
 refine⟨_,rfl, ?_⟩
 unfold vH
 simp only[bL]
 have hall:([St L.g,St L.n,v,St L.v,N .i64 k] : List AV).all oneCell=true:=by simp[eu,hps.one]
 rw[fU hall (by simp),aG]
 have k1:ag [] M (M.push (.row [St L.g,St L.n,v,St L.v,N .i64 k] false TL 0)):=(ag.refl _ _).push _
 have h1:(M.push (.row [St L.g,St L.n,v,St L.v,N .i64 k] false TL 0)).heap M.next=some (.row [St L.g,St L.n,v,St L.v,N .i64 k] false TL 0):=RM.aV _
 have n1:(M.push (.row [St L.g,St L.n,v,St L.v,N .i64 k] false TL 0)).next=M.next + 1:=bZ _
 generalize M.push (.row [St L.g,St L.n,v,St L.v,N .i64 k] false TL 0)=M1 at *
 have P5:cB iI M1 v L.ps S:=hps.keep k1 (by simp)
 have ac7:=hB.ps
 have hgl:=hB.g
 have hnl:=hB.n
 rw[aT,aA h1 rfl]
 have hP:oV L++L.n++L.ps.flatMap uR=fI L:=by unfold fI ma; rw[List.append_assoc]
 generalize fI L=P at *
 refine aW (fun ys M'=>ys=[St (oV L++L.n)]∧M'=M1) ?_ ?_
 rotate_left 1
 ·intro J hJ
  rw[aT,aA h1 rfl,jP]
  unfold oV at hJ
  refine aN (fun h=>?_) (fun h=>?_)
  ·have h:¬ L.g=[]:=by simpa using h
   rw[if_neg h] at hJ
   rw[aT,aA h1 rfl,bI]
   refine⟨by simp; omega, ?_⟩
   rw[bI]
   exact⟨by simp; omega,hJ _ _ ⟨rfl,rfl⟩⟩
  ·have h:L.g=[]:=by simpa using h
   rw[if_pos h] at hJ
   exact hJ _ _ ⟨rfl,rfl⟩
 rintro _ M' ⟨rfl,e⟩
 rw[e]
 clear e M'
 dsimp only[ae]
 rw[aT,aA h1 rfl,P5.len]
 refine aI (fun m ys M5=>∃ (i:Nat) (xs:List UInt8),m=L.ps.length - i∧ys=[St xs,N .i64 (i:Int)]∧i≤L.ps.length∧ag [] M1 M5∧xs++(L.ps.drop i).flatMap uR=P) L.ps.length
  ⟨0,_,rfl,rfl,Nat.zero_le _,ag.refl _ _,by rw[List.drop_zero]; exact hP⟩ ?_
 rintro next m ys M5 hnext ⟨i,xs,rfl,rfl,hi,k5,hx⟩
 dsimp only[ae]
 have F4:=P5.keep k5 (by simp)
 rw[gQ]
 refine aN (fun hlt=>?_) (fun hge=>?_)
 ·have hlt:i<L.ps.length:=of_decide_eq_true hlt
  have hmem:=List.getElem_mem hlt
  have b1:=hB.pn _ hmem
  have b2:=hB.pl _ hmem
  have b3:=hB.pv _ hmem
  rw[List.drop_eq_getElem_cons hlt,List.flatMap_cons] at hx
  have hpj:uR L.ps[i]=[59]++L.ps[i].1++[61]++uf L.ps[i].2:=rfl
  have hxl:=Bv hx
  rw[hpj] at hxl
  simp only[List.length_append,List.length_cons,List.length_nil] at hxl
  generalize hrest:(L.ps.drop (i + 1)).flatMap uR=rest at *
  obtain⟨pv,hpv,hpa⟩:=LZ F4 hlt
  rw[hpa,aG,bY (n:=2) (x:=.agg [St L.ps[i].1,pv]) (l:=[St [],aJ]) (RM.aV _) rfl rfl (by show([St L.ps[i].1,pv] : List AV).all oneCell=true; simp[eu,hpv.one])]
  have k6:ag [] M5 ((M5.push (.row [St [],aJ] false TP 0)).put M5.next (.row (AV.agg [St L.ps[i].1,pv]).cells false TP 0)):=((ag.refl _ _).push _).new _ (Nat.le_refl _)
  have h6:((M5.push (.row [St [],aJ] false TP 0)).put M5.next (.row (AV.agg [St L.ps[i].1,pv]).cells false TP 0)).heap M5.next=some (.row [St L.ps[i].1,pv] false TP 0):=aB _
  have n6:((M5.push (.row [St [],aJ] false TP 0)).put M5.next (.row (AV.agg [St L.ps[i].1,pv]).cells false TP 0)).next=M5.next + 1:=rfl
  generalize (M5.push (.row [St [],aJ] false TP 0)).put M5.next (.row (AV.agg [St L.ps[i].1,pv]).cells false TP 0)=M6 at *
  have UI:=hpv.keep k6 (by simp)
  rw[aT,aA h6 rfl,bI]
  refine⟨by simp; omega, ?_⟩
  rw[bI]
  refine⟨by simp; omega, ?_⟩
  rw[bI]
  refine⟨by simp; omega, ?_⟩
  rw[aT,aA h6 rfl,UI.len]
  refine aI (fun m ys M9=>∃ (j:Nat) (zs:List UInt8),m=L.ps[i].2.length - j∧ys=[St zs,N .i64 (j:Int)]∧j≤L.ps[i].2.length∧ag [] M6 M9∧zs++(vO j L.ps[i].2++rest)=P) L.ps[i].2.length
    ⟨0,_,rfl,rfl,Nat.zero_le _,ag.refl _ _, ?_⟩ ?_
  ·rw[← hx,hpj]
   simp only[List.append_assoc,vO,if_true]
  rintro pJ m ys M9 gm ⟨j,zs,rfl,rfl,hj,k9,hz⟩
  dsimp only[ae]
  rw[gQ]
  refine aN (fun hlt2=>?_) (fun Ai=>?_)
  ·have hlt2:j<L.ps[i].2.length:=of_decide_eq_true hlt2
   rw[KI hlt2] at hz
   have b4:=b3 _ (List.getElem_mem hlt2)
   have hzl:=Bv hz
   simp only[List.length_append] at hzl
   have K7:=UI.keep k9 (by simp)
   refine aW (fun ys M'=>ys=[St (zs++((if 0<j then[44] else[])++q4 L.ps[i].2[j]))]∧ag [] M6 M') ?_ ?_
   ·rintro _ Ma ⟨rfl,ka⟩
    dsimp only[ae]
    rw[add1 (by omega)]
    refine gm _ _ _ (by omega) ⟨j + 1,_,rfl,rfl,by omega,ka, ?_⟩
    rw[← hz]
    simp only[List.append_assoc]
   intro J3 hJ3
   rw[EH K7.sl hlt2]
   generalize L.ps[i].2[j]=x at *
   refine aW (fun ys M'=>ys=[St (zs++(if 0<j then[44] else[]))]∧M'=M9) ?_ ?_
   ·rintro _ Ma ⟨rfl,rfl⟩
    dsimp only[ae]
    refine aW (fun ys M'=>ys=[St (q4 x)]∧ag [] Ma M') ?_ ?_
    ·rintro _ Mb ⟨rfl,kb⟩
     dsimp only[ae]
     rw[bI]
     refine⟨by simp only[List.length_append]; omega, ?_⟩
     exact hJ3 _ _ ⟨by rw[List.append_assoc],k9.trans kb⟩
    intro J2 hJ2
    refine ha (((k1.trans k5).trans (k6.trans k9)).base.trans hBM) b4 fun Mb kb=>?_
    refine aN (fun hm=>?_) (fun hm=>?_)
    ·rw[bI]
     refine⟨by simp; omega, ?_⟩
     rw[bI]
     refine⟨by simp; omega, ?_⟩
     exact hJ2 _ _ ⟨by rw[q4,if_pos hm],kb⟩
    ·exact hJ2 _ _ ⟨by rw[q4,if_neg (by rw[hm]; simp)],kb⟩
   intro J2 hJ2
   rw[show(N .i64 (0:Int))=N .i64 ((0:Nat) : Int) from rfl,xQ]
   refine aN (fun hm=>?_) (fun hm=>?_)
   ·have hm:0<j:=of_decide_eq_true hm
    rw[if_pos hm] at hzl hJ2
    simp only[List.length_cons,List.length_nil] at hzl
    rw[bI]
    refine⟨by simp; omega, ?_⟩
    exact hJ2 _ _ ⟨rfl,rfl⟩
   ·have hm:¬ 0<j:=of_decide_eq_false hm
    refine hJ2 _ _ ⟨?_,rfl⟩
    rw[if_neg hm,List.append_nil]
  ·have he:j=L.ps[i].2.length:=by
    have:¬ j<L.ps[i].2.length:=of_decide_eq_false Ai
    omega
   subst he
   rw[Nq,List.nil_append] at hz
   rw[add1 (by omega)]
   exact hnext _ _ _ (by omega) ⟨i + 1,zs,rfl,rfl,by omega,k5.trans (k6.trans k9),by rw[hrest]; exact hz⟩
 ·have he:i=L.ps.length:=by
   have:¬ i<L.ps.length:=of_decide_eq_false hge
   omega
  subst he
  rw[List.drop_length,List.flatMap_nil,List.append_nil] at hx
  subst hx
  exact hQ M5 (k1.trans k5)
theorem Qd {f g:Prop→Prop} {k:Prop} : uH (Bo false) true f g k=g k:=rfl
theorem Xn {f g:Prop→Prop} {k:Prop} : uH (Bo true) true f g k=f k:=rfl
def gG (vs:List Str) : Nat:=(vs.map fun v=>v.length + 3).sum
def jY (ps:List jh) : Nat:=(ps.map fun p=>p.1.length + 3 + gG p.2).sum
theorem Gt (a:List Str) (v:Str) : gG (a++[v])=gG a + (v.length + 3):=by simp[gG]
theorem SQ (a:List jh) (p:jh) : jY (a++[p])=jY a + (p.1.length + 3 + gG p.2):=by simp[jY]
theorem RY:∀ {vs:List Str} {v:Str},v∈vs→v.length + 3≤gG vs
 | w :: vs,v,h=>by
   rw[show gG (w :: vs)=(w.length + 3) + gG vs by simp[gG]]
   rcases List.mem_cons.1 h with rfl | h
   ·omega
   ·have:=RY h; omega
theorem Sb:∀ vs:List Str,vs.length≤gG vs
 | []=>by simp
 | w :: vs=>by
   rw[show gG (w :: vs)=(w.length + 3) + gG vs by simp[gG]]
   have:=Sb vs; simp; omega
theorem Gm:∀ {ps:List jh} {p:jh},p∈ps→p.1.length + 3 + gG p.2≤jY ps
 | w :: vs,v,h=>by
   rw[show jY (w :: vs)=(w.1.length + 3 + gG w.2) + jY vs by simp[jY]]
   rcases List.mem_cons.1 h with rfl | h
   ·omega
   ·have:=Gm h; omega
theorem Ti:∀ vs:List jh,vs.length≤jY vs
 | []=>by simp
 | w :: vs=>by
   rw[show jY (w :: vs)=(w.1.length + 3 + gG w.2) + jY vs by simp[jY]]
   have:=Ti vs; simp; omega
theorem XZ (v:Str) : (q4 v).length≤v.length + 2:=by unfold q4; split <;> simp
theorem Nt:∀ vs:List Str,(qy vs).length≤gG vs
 | []=>by simp[qy]
 | v :: vs=>by
   rw[show gG (v :: vs)=(v.length + 3) + gG vs by simp[gG],show qy (v :: vs)=(44 :: q4 v)++qy vs from rfl]
   have:=Nt vs; have:=XZ v
   simp; omega
theorem XF (vs:List Str) : (uf vs).length≤gG vs:=by
 cases vs with
 | nil=>simp[uf]
 | cons v vs =>
   rw[show gG (v :: vs)=(v.length + 3) + gG vs by simp[gG],show uf (v :: vs)=q4 v++qy vs from rfl]
   have:=Nt vs; have:=XZ v
   simp; omega
theorem MX:∀ ps:List jh,(ma ps).length≤jY ps
 | []=>by simp[ma]
 | p :: ps=>by
   rw[show jY (p :: ps)=(p.1.length + 3 + gG p.2) + jY ps by simp[jY],show ma (p :: ps)=uR p++ma ps from rfl]
   have h1:=MX ps; have h2:=XF p.2
   unfold uR
   simp only[List.length_append,List.length_cons,List.length_nil]; omega
theorem MG:∀ vs:List Str,(tailV vs).length≤gG vs
 | []=>by simp[tailV]
 | v :: vs=>by
   rw[show gG (v :: vs)=(v.length + 3) + gG vs by simp[gG],show tailV (v :: vs)=(44 :: qv v)++tailV vs from rfl]
   have:=MG vs; have:=Xy v
   simp; omega
theorem TW (vs:List Str) : (rF vs).length≤gG vs:=by
 cases vs with
 | nil=>simp[rF]
 | cons v vs =>
   rw[show gG (v :: vs)=(v.length + 3) + gG vs by simp[gG],show rF (v :: vs)=qv v++tailV vs from rfl]
   have:=MG vs; have:=Xy v
   simp; omega
theorem NE:∀ ps:List jh,(ps.flatMap AQ).length≤jY ps
 | []=>by simp
 | p :: ps=>by
   rw[show jY (p :: ps)=(p.1.length + 3 + gG p.2) + jY ps by simp[jY],List.flatMap_cons]
   have h1:=NE ps; have h2:=TW p.2
   rw[show AQ p=[59]++p.1.map ul++[61]++rF p.2 from rfl]
   simp only[List.length_append,List.length_cons,List.length_nil,List.length_map]; omega
structure uA (N:Nat) (L:Ln) : Prop where
 g:L.g.length≤N
 n:L.n.length≤N
 v:L.v.length≤N
 ps:jY L.ps≤N
theorem uA.mono {N K:Nat} {L:Ln} (h:uA N L) (hk:N≤K) : uA K L:=⟨by have:=h.g; omega,by have:=h.n; omega,by have:=h.v; omega,by have:=h.ps; omega⟩
theorem uA.lb {N:Nat} {L:Ln} (h:uA N L) : LB N L where
 g:=h.g
 n:=h.n
 v:=h.v
 ps:=Nat.le_trans (Ti _) h.ps
 pn p hp:=by have:=Gm hp; have:=h.ps; omega
 pl p hp:=by have:=Gm hp; have:=h.ps; have:=Sb p.2; omega
 pv p hp v hv:=by have:=Gm hp; have:=h.ps; have:=RY hv; omega
theorem uA.nam {N:Nat} {L:Ln} (h:uA N L) : (fI L).length≤3 * N + 1:=by
 have:=MX L.ps
 have h1:=h.g; have h2:=h.n; have h3:=h.ps
 unfold fI oV
 split <;> simp <;> omega
theorem uA.laid {N:Nat} {L:Ln} (h:uA N L) : (lD L).length≤4 * N + 2:=by
 have:=NE L.ps
 have h1:=h.g; have h2:=h.n; have h3:=h.ps; have h4:=h.v
 unfold lD CX oV
 split <;> simp only[List.length_append,List.length_cons,List.length_nil,List.length_map] at * <;> omega
theorem aan (v:Str) : v.length≤(qv v).length:=by unfold qv; split <;> simp <;> omega
theorem QA:∀ vs:List Str,gG vs≤3 * (tailV vs).length
 | []=>by simp[gG]
 | v :: vs=>by
   rw[show gG (v :: vs)=(v.length + 3) + gG vs by simp[gG],show tailV (v :: vs)=(44 :: qv v)++tailV vs from rfl]
   have:=QA vs; have:=aan v
   simp; omega
theorem ZE (vs:List Str) : gG vs≤3 * (rF vs).length + 3:=by
 cases vs with
 | nil=>simp[gG]
 | cons v vs =>
   rw[show gG (v :: vs)=(v.length + 3) + gG vs by simp[gG],show rF (v :: vs)=qv v++tailV vs from rfl]
   have:=QA vs; have:=aan v
   simp; omega
theorem Po:∀ ps:List jh,jY ps≤3 * (ps.flatMap AQ).length
 | []=>by simp[jY]
 | p :: ps=>by
   rw[show jY (p :: ps)=(p.1.length + 3 + gG p.2) + jY ps by simp[jY],List.flatMap_cons]
   have h1:=Po ps; have h2:=ZE p.2
   rw[show AQ p=[59]++p.1.map ul++[61]++rF p.2 from rfl]
   simp only[List.length_append,List.length_cons,List.length_nil,List.length_map]; omega
theorem Sc {N:Nat} {L:Ln} (h:(lD L).length≤N) : uA (3 * N) L:=by
 have h1:=Po L.ps
 have h2:L.g.length≤(oV L).length:=by unfold oV; split <;> simp[*]
 unfold lD CX at h
 simp only[List.length_append,List.length_map,List.length_cons,List.length_nil] at h
 exact⟨by omega,by omega,by omega,by omega⟩
theorem Hg {L:Ln} (h:(kH eG L).2=0) : ou eG L=true∧(lD L).length≤912∧(kH eG L).1=fo 0 (lD L)++[13,10]:=by
 unfold kH at h ⊢
 split at h
 ·rename_i hg
  rw[if_pos hg]
  split at h
  ·cases h
  ·rename_i hl; rw[if_neg hl]; exact⟨hg,by omega,rfl⟩
 ·cases h
def oP (p:Fd) : AV:=.agg [St p.1,St p.2]
theorem vZ {M:RM} {cs:List AV} {L:Ln} {k:Int} {S:Nat→Prop} (h:gq.rel M cs (L,k) S) : ∃ v,cs=[St L.g,St L.n,v,St L.v,N .i64 k]∧cB iI M v L.ps S∧cs.all oneCell=true∧cs.length=5:=by
 obtain⟨v,rfl,h⟩:=h
 exact⟨v,rfl,h,by simp[eu,h.one],rfl⟩
theorem jo {M:RM} {v:AV} {L:Ln} {k:Int} {S:Nat→Prop} (h:cB iI M v L.ps S) : gq.rel M [St L.g,St L.n,v,St L.v,N .i64 k] (L,k) S:=⟨v,rfl,h⟩
theorem Sr (x:Str) : (jL++[46]++x).length=4 + x.length:=by simp; omega
def Jo (B:Base) (c:au) : Prop:=∀ {M:RM} {cs:List AV} {L:Ln} {k:Int} {S:Nat→Prop} {Q:ak},M.base=B→gq.rel M cs (L,k) S→LB 1000000 L→(fI L).length≤140737488355328→(∀ M',ag [] M M'→Q (oP (bS L)) M')→c [.agg cs] M Q
theorem Ja {L:Ln} (h:LB 1000000 L) : LB 1000000000 L:=h.mono (by omega)
theorem Xb {B:Base} {TL TP:Nat} {cn ct cu ce:au} (hn:Qx B cn) (ht:Oo ct) (hu:BG (N .i64 14) (N .i64 0) cu) (he:Iu ce) : Jo B fun args M Q=>∃ a0,args=[a0]∧yV TL TP cn ct cu ce a0 M Q:=by
 intro M cs L k S Q hBM hrel hB hPl hQ
 obtain⟨v,rfl,hps,hall,_⟩:=vZ hrel
 refine⟨_,rfl, ?_⟩
 unfold yV
 rw[fU hall (by simp),aG]
 have k1:ag [] M (M.push (.row [St L.g,St L.n,v,St L.v,N .i64 k] false TL 0)):=(ag.refl _ _).push _
 have h1:(M.push (.row [St L.g,St L.n,v,St L.v,N .i64 k] false TL 0)).heap M.next=some (.row [St L.g,St L.n,v,St L.v,N .i64 k] false TL 0):=RM.aV _
 have n1:(M.push (.row [St L.g,St L.n,v,St L.v,N .i64 k] false TL 0)).next=M.next + 1:=bZ _
 generalize M.push (.row [St L.g,St L.n,v,St L.v,N .i64 k] false TL 0)=M1 at *
 rw[aG]
 have k2:ag [] M1 (M1.push (.row [St [],St []] false TP 0)):=(ag.refl _ _).push _
 have h2:(M1.push (.row [St [],St []] false TP 0)).heap M1.next=some (.row [St [],St []] false TP 0):=RM.aV _
 have n2:(M1.push (.row [St [],St []] false TP 0)).next=M1.next + 1:=bZ _
 generalize M1.push (.row [St [],St []] false TP 0)=M2 at *
 have h12:=k2.ay h1 (by omega) (by simp)
 rw[aP (n:=5) h12 rfl,aT,aA h12 rfl,qL]
 have k3:ag [] M2 (M2.push (.row [St [],St []] false TP 0)):=(ag.refl _ _).push _
 have h3:(M2.push (.row [St [],St []] false TP 0)).heap M2.next=some (.row [St [],St []] false TP 0):=RM.aV _
 have n3:(M2.push (.row [St [],St []] false TP 0)).next=M2.next + 1:=bZ _
 generalize M2.push (.row [St [],St []] false TP 0)=M3 at *
 have k03:=(k1.trans k2).trans k3
 refine hn (k03.base.trans hBM) (jo (hps.keep k03 (by simp))) (Ja hB) hPl fun M4 k4=>?_
 have h14:=(k3.trans k4).ay h12 (by omega) (by simp)
 have h24:=(k3.trans k4).ay h2 (by omega) (by simp)
 have h34:=k4.ay h3 (by omega) (by simp)
 have n4:=k4.next
 rw[aA h14 rfl]
 refine⟨rfl,⟨h34,rfl⟩, ?_⟩
 rw[gN]
 refine⟨[St (fI L),St L.v],by simp[mf,known,AV.cells,oneCell], ?_⟩
 have k04:=k03.trans k4
 rw[bY (n:=2) (x:=.agg [St (fI L),St L.v]) (l:=[St [],St []]) h34 rfl rfl rfl]
 have k5:ag [] M (M4.put M2.next (.row (AV.agg [St (fI L),St L.v]).cells false TP 0)):=k04.put _ (.inl (by omega))
 have h15:(M4.put M2.next (.row (AV.agg [St (fI L),St L.v]).cells false TP 0)).heap M.next=_:=bJ h14 (by omega)
 have h25:(M4.put M2.next (.row (AV.agg [St (fI L),St L.v]).cells false TP 0)).heap M1.next=_:=bJ h24 (by omega)
 have h35:(M4.put M2.next (.row (AV.agg [St (fI L),St L.v]).cells false TP 0)).heap M2.next=some (.row [St (fI L),St L.v] false TP 0):=aB _
 have n5:(M4.put M2.next (.row (AV.agg [St (fI L),St L.v]).cells false TP 0)).next=M4.next:=rfl
 generalize M4.put M2.next (.row (AV.agg [St (fI L),St L.v]).cells false TP 0)=M5 at *
 rw[aT,aA h15 rfl]
 refine ht ?_
 rw[bX]
 have fin:∀ {M6:RM} {p:Fd} {Q' : AV→RM→Prop},ag [] M M6→M6.heap M1.next=some (.row [St [],St []] false TP 0)→M6.heap M2.next=some (.row [St p.1,St p.2] false TP 0)→(∀ M',ag [] M M'→Q' (oP p) M') →
   aL M6 (.ptr M2.next 0) 2 fun t15=>aC M6 (.ptr M1.next 0) t15 2 fun M_5=>aL M_5 (.ptr M1.next 0) 2 fun res=>Q' res M_5:=by
  intro M6 p Q' k6 g1 g2 hQ'
  rw[aP (n:=2) g2 rfl,bY (n:=2) (x:=.agg [St p.1,St p.2]) (l:=[St [],St []]) g1 rfl rfl rfl,aP (n:=2) (aB _) rfl]
  exact hQ' _ (k6.put _ (.inl (by omega)))
 unfold bS at hQ
 refine aN (fun h=>?_) (fun h=>?_)
 ·have h:uU L.n=false:=by simpa using h
  rw[h] at hQ
  exact fin (p:=(fI L,L.v)) k5 h25 h35 hQ
 ·have h:uU L.n=true:=by simpa using h
  rw[if_pos h] at hQ
  rw[aT,aA h15 rfl]
  refine hu hB.v fun M6 k6=>?_
  have k06:=k5.trans k6
  have h16:=k6.ay h15 (by omega) (by simp)
  have h26:=k6.ay h25 (by omega) (by simp)
  have h36:=k6.ay h35 (by omega) (by simp)
  have n6:=k6.next
  unfold mG
  cases hx:fK L.v with
  | none =>
    rw[hx] at hQ
    dsimp only at hQ ⊢
    rw[cO,df,bH,show((14:Int) == 0)=false from rfl]
    simp only[qM,dF,Qd,dJ,bq]
    rw[aT,aA h36 rfl,bI]
    refine⟨by simp; omega, ?_⟩
    rw[aT,bQ (l':=[St (jL++[46]++fI L),St L.v]) h36 (by simp) rfl rfl rfl]
    exact fin (p:=(jL++[46]++fI L,L.v)) (k06.put _ (.inl (by omega))) (bJ h26 (by omega)) (aB _) hQ
  | some x =>
    rw[hx] at hQ
    dsimp only at hQ ⊢
    have hxl:=qU _ L.v x (Nat.le_refl _) hx
    have hvl:=hB.v
    rw[cO,df,bH,show((0:Int) == 0)=true from rfl]
    simp only[oW,bV,Xn,dh]
    rw[aT,aA h16 rfl]
    refine he (by omega) fun M7 k7=>?_
    have k07:=k06.trans k7
    have h17:=k7.ay h16 (by omega) (by simp)
    have h27:=k7.ay h26 (by omega) (by simp)
    have h37:=k7.ay h36 (by omega) (by simp)
    have n7:=k7.next
    rw[aA h17 rfl]
    refine⟨rfl, ?_⟩
    rw[dm]
    refine aN (fun h=>?_) (fun h=>?_)
    ·have h:esc x=L.v:=by simpa using h
     rw[if_pos h] at hQ
     rw[aT,bQ (l':=[St (fI L),St x]) h37 (by simp) rfl rfl rfl]
     exact fin (p:=(fI L,x)) (k07.put _ (.inl (by omega))) (bJ h27 (by omega)) (aB _) hQ
    ·have h:¬ esc x=L.v:=by simpa using h
     rw[if_neg h] at hQ
     rw[aT,aA h37 rfl,bI]
     refine⟨by simp; omega, ?_⟩
     rw[aT,bQ (l':=[St (jL++[46]++fI L),St L.v]) h37 (by simp) rfl rfl rfl]
     exact fin (p:=(jL++[46]++fI L,L.v)) (k07.put _ (.inl (by omega))) (bJ h27 (by omega)) (aB _) hQ
theorem Ih {L:Ln} (h:LB 1000000 L) : (bS L).1.length≤4 + (fI L).length∧(bS L).2.length≤1000000:=by
 have hv:=h.v
 unfold bS
 split
 ·split
  ·rename_i x hx
   have:=qU _ L.v x (Nat.le_refl _) hx
   split
   ·exact⟨by dsimp only; omega,by dsimp only; omega⟩
   ·exact⟨by dsimp only; rw[Sr]; omega,hv⟩
  ·exact⟨by dsimp only; rw[Sr]; omega,hv⟩
 ·exact⟨by dsimp only; omega,hv⟩
def J7 (B:Base) (c:au) : Prop:=∀ {M:RM} {cs:List AV} {L:Ln} {k j:Int} {S:Nat→Prop} {Q:ak},M.base=B→gq.rel M cs (L,k) S→LB 1000000000 L→(lD L).length≤140737488355328→(∀ M',ag [] M M'→Q (.tup [oP (kJ L j).1,Bo (kJ L j).2]) M')→c [.agg cs,N .i64 j] M Q
theorem TQ {B:Base} {TL TP:Nat} {cp cr ca cn:au} (hp:Kb B (kH eG) cp) (hr:Oq cr) (ha:Jo B ca) (hn:TZ B cn) : J7 B fun args M Q=>∃ a0 a1,args=[a0,a1]∧uW TL TP cp cr ca cn a0 a1 M Q:=by
 intro M cs L k j S Q hBM hrel hB9 hLl hQ
 obtain⟨v,rfl,hps,hall,_⟩:=vZ hrel
 refine⟨_,_,rfl, ?_⟩
 unfold uW
 simp only[dN]
 rw[fU hall (by simp),aG]
 have k1:ag [] M (M.push (.row [St L.g,St L.n,v,St L.v,N .i64 k] false TL 0)):=(ag.refl _ _).push _
 have h1:(M.push (.row [St L.g,St L.n,v,St L.v,N .i64 k] false TL 0)).heap M.next=some (.row [St L.g,St L.n,v,St L.v,N .i64 k] false TL 0):=RM.aV _
 have n1:(M.push (.row [St L.g,St L.n,v,St L.v,N .i64 k] false TL 0)).next=M.next + 1:=bZ _
 generalize M.push (.row [St L.g,St L.n,v,St L.v,N .i64 k] false TL 0)=M1 at *
 rw[aG]
 have k2:ag [] M1 (M1.push (.row [St [],St []] false TP 0)):=(ag.refl _ _).push _
 have h2:(M1.push (.row [St [],St []] false TP 0)).heap M1.next=some (.row [St [],St []] false TP 0):=RM.aV _
 have n2:(M1.push (.row [St [],St []] false TP 0)).next=M1.next + 1:=bZ _
 generalize M1.push (.row [St [],St []] false TP 0)=M2 at *
 have h12:=k2.ay h1 (by omega) (by simp)
 have k02:=k1.trans k2
 rw[aP (n:=5) h12 rfl]
 refine hp (k02.base.trans hBM) (jo (hps.keep k02 (by simp))) hB9 hLl fun M3 k3=>?_
 have h13:=k3.ay h12 (by omega) (by simp)
 have h23:=k3.ay h2 (by omega) (by simp)
 have n3:=k3.next
 have k03:=k02.trans k3
 rw[cO,df,di]
 have hno:∀ {c:Bool},(kJ L j=(([],[]),false))→c=true→∀ {M6:RM},ag [] M M6→M6.heap M1.next=some (.row [St [],St []] false TP 0) →
   dW [(St []),(St [])] [] fun t30=>aC M6 (.ptr M1.next 0) t30 2 fun aci=>aL aci (.ptr M1.next 0) 2 fun res=>Q (.tup [res,(Bo false)]) aci:=by
  intro c hf _ M6 k6 g1
  rw[gN]
  refine⟨[St [],St []],rfl, ?_⟩
  rw[bY (n:=2) (x:=.agg [St [],St []]) (l:=[St [],St []]) g1 rfl rfl rfl,aP (n:=2) (aB _) rfl]
  rw[hf] at hQ
  exact hQ _ (k6.put _ (.inl (by omega)))
 refine jF (p:=L.g == jL) (fun hc kk hk=>?_) ?_
 ·rw[aT,aA h13 rfl,dm]; exact hk
 refine jF (p:=uL L.n) (fun hc kk hk=>?_) ?_
 ·rw[aT,aA h13 rfl]; exact hr hk
 refine jF (p:=decide (j<0)) (fun hc kk hk=>?_) ?_
 ·rw[dO]; exact hk
 refine aN (fun h=>?_) (fun h=>?_)
 ·refine hno (c:=true) ?_ rfl k03 h23
  unfold kJ
  rw[if_neg]
  rintro⟨a1,a2,a3,a4⟩
  have e1:((kH eG L).2 != 0)=false:=by simp[a1]
  have e2:(L.g == jL)=false:=by simpa using a2
  have e4:decide (j<0)=false:=decide_eq_false (by omega)
  rw[e1,e2,a3,e4] at h
  cases h
 ·simp only[Bool.or_eq_false_iff] at h
  obtain⟨⟨⟨a1,a2⟩,a3⟩,a4⟩:=h
  have e1:(kH eG L).2=0:=by simpa using a1
  have e2:L.g≠jL:=by simpa using a2
  have hsz:=Sc (Hg e1).2.1
  have hB:LB 1000000 L:=(hsz.mono (by omega)).lb
  have hPl:=hsz.nam
  have e4:0≤j:=by have:=of_decide_eq_false a4; omega
  have ef:kJ L j=((iC (bS L).1 j,(bS L).2),true):=by unfold kJ; rw[if_pos ⟨e1,e2,a3,e4⟩]
  rw[ef] at hQ
  rw[aP (n:=5) h13 rfl]
  refine ha (k03.base.trans hBM) (jo (hps.keep k03 (by simp))) hB (by omega) fun M4 k4=>?_
  have h24:=k4.ay h23 (by omega) (by simp)
  have n4:=k4.next
  have k04:=k03.trans k4
  unfold oP
  rw[aG,bY (n:=2) (x:=.agg [St (bS L).1,St (bS L).2]) (l:=[St [],St []]) (RM.aV _) rfl rfl rfl]
  have k5:ag [] M4 ((M4.push (.row [St [],St []] false TP 0)).put M4.next (.row (AV.agg [St (bS L).1,St (bS L).2]).cells false TP 0)):=((ag.refl _ _).push _).new _ (Nat.le_refl _)
  have h5:((M4.push (.row [St [],St []] false TP 0)).put M4.next (.row (AV.agg [St (bS L).1,St (bS L).2]).cells false TP 0)).heap M4.next=some (.row [St (bS L).1,St (bS L).2] false TP 0):=aB _
  have n5:((M4.push (.row [St [],St []] false TP 0)).put M4.next (.row (AV.agg [St (bS L).1,St (bS L).2]).cells false TP 0)).next=M4.next + 1:=rfl
  generalize (M4.push (.row [St [],St []] false TP 0)).put M4.next (.row (AV.agg [St (bS L).1,St (bS L).2]).cells false TP 0)=M5 at *
  have h25:=k5.ay h24 (by omega) (by simp)
  rw[aT,aA h5 rfl]
  have hpl:=Ih hB
  refine hn ((k04.trans k5).base.trans hBM) (by omega) fun M6 k6=>?_
  have h26:=k6.ay h25 (by omega) (by simp)
  have h56:=k6.ay h5 (by omega) (by simp)
  have n6:=k6.next
  have k06:=(k04.trans k5).trans k6
  rw[aT,bQ (l':=[St (iC (bS L).1 j),St (bS L).2]) h56 (by simp) rfl rfl rfl,aP (n:=2) (aB _) rfl,
   bY (n:=2) (x:=.agg [St (iC (bS L).1 j),St (bS L).2]) (l:=[St [],St []]) (bJ h26 (by omega)) rfl rfl rfl,aP (n:=2) (aB _) rfl]
  exact hQ _ ((k06.put _ (.inl (by omega))).put _ (.inl (by omega)))
def Lr (B:Base) (c:au) : Prop:=∀ {M:RM} {s:Str} {Q:ak},M.base=B→s.length≤1000000000→(∀ M' b,ag [] M M'→(b && decide (s.length=5))=decide (s.map dz=dS)→Q (Bo b) M')→c [St s,St dS] M Q
def Qc (B:Base) (c:au) : Prop:=∀ {M:RM} {cs:List AV} {L:Ln} {k:Int} {S:Nat→Prop} {n:Str} {Q:ak},M.base=B→gq.rel M cs (L,k) S→LB 1000000000 L→(∀ M',ag [] M M'→Q (Bo (dP L n)) M')→c [.agg cs,St n] M Q
theorem TD {B:Base} {TL:Nat} {ce:au} (he:Lr B ce) : Qc B fun args M Q=>∃ a0 a1,args=[a0,a1]∧rA TL ce a0 a1 M Q:=by
 intro M cs L k S n Q hBM hrel hB hQ
 obtain⟨v,rfl,hps,hall,_⟩:=vZ hrel
 refine⟨_,_,rfl, ?_⟩
 unfold rA
 simp only[dN]
 rw[fU hall (by simp),aG]
 have k1:ag [] M (M.push (.row [St L.g,St L.n,v,St L.v,N .i64 k] false TL 0)):=(ag.refl _ _).push _
 have h1:(M.push (.row [St L.g,St L.n,v,St L.v,N .i64 k] false TL 0)).heap M.next=some (.row [St L.g,St L.n,v,St L.v,N .i64 k] false TL 0):=RM.aV _
 have n1:(M.push (.row [St L.g,St L.n,v,St L.v,N .i64 k] false TL 0)).next=M.next + 1:=bZ _
 generalize M.push (.row [St L.g,St L.n,v,St L.v,N .i64 k] false TL 0)=M1 at *
 rw[aT,aA h1 rfl,jP]
 refine jF (p:=L.g != []) (fun hc kk hk=>?_) ?_
 ·rw[aT,aA h1 rfl,jP]; exact hk
 refine jF (p:=decide (L.ps.length > 0)) (fun hc kk hk=>?_) ?_
 ·rw[aT,aA h1 rfl,(hps.keep k1 (by simp)).len,show(N .i64 (0:Int))=N .i64 ((0:Nat) : Int) from rfl,xQ]; exact hk
 refine aN (fun h=>?_) (fun h=>?_)
 ·have:dP L n=false:=by
   unfold dP
   simp only[Bool.or_eq_true] at h
   rcases h with(h | h) | h
   ·have:¬ L.n=n:=by simpa using h
    rw[decide_eq_false this]; simp
   ·have:¬ L.g=[]:=by simpa using h
    rw[decide_eq_false this]; simp
   ·have:=of_decide_eq_true h
    rw[decide_eq_false (show ¬ L.ps.length=0 by omega)]; simp
  rw[this] at hQ
  exact hQ _ k1
 ·simp only[Bool.or_eq_false_iff] at h
  obtain⟨⟨a1,a2⟩,a3⟩:=h
  have e1:L.n=n:=by simpa using a1
  have e2:L.g=[]:=by simpa using a2
  have e3:L.ps.length=0:=by have:=of_decide_eq_false a3; omega
  have:dP L n=(if n=dB then decide (L.v=JV) else decide (L.v.map dz=dS)):=by
   unfold dP
   rw[decide_eq_true e1,decide_eq_true e2,decide_eq_true e3]; rfl
  rw[this] at hQ
  rw[dm]
  refine aN (fun h=>?_) (fun h=>?_)
  ·have h:n=dB:=by simpa using h
   rw[if_pos h] at hQ
   rw[aT,aA h1 rfl,dm]
   have:(L.v == [52,46,48])=decide (L.v=JV):=by by_cases h:L.v=JV <;> simp[h]
   rw[this]
   exact hQ _ k1
  ·have h:¬ n=dB:=by simpa using h
   rw[if_neg h] at hQ
   rw[aT,aA h1 rfl]
   refine he (k1.base.trans hBM) hB.v fun M2 b k2 hb=>?_
   have h12:=k2.ay h1 (by omega) (by simp)
   refine qw (p:=decide (L.v.length=5)) (fun hc kk hk=>?_) ?_
   ·rw[aT,aA h12 rfl,bi,bH]
    have:((L.v.length:Int) == 5)=decide (L.v.length=5):=by by_cases h:L.v.length=5 <;> simp[h]; omega
    rw[this]; exact hk
   rw[hb]
   exact hQ _ (k1.trans k2)
theorem DN {α:Type} (p:α→Bool) (s:List α) : s.length - (s.dropWhile p).length=(s.takeWhile p).length:=by
 have:=congrArg List.length (List.takeWhile_append_dropWhile (p:=p) (l:=s))
 rw[List.length_append] at this; omega
def Qh (B:Base) (c:au) : Prop:=∀ {M:RM} {s:Str} {Q:ak},M.base=B→s.length≤1000000000→(∀ M',ag [] M M'→Q (.tup [St (gF s).1,St (gF s).2]) M')→c [St s] M Q
theorem VJ {B:Base} {ct:au} (ht:OZ B ct) : Qh B fun args M Q=>∃ a0,args=[a0]∧xZ ct a0 M Q:=by
 intro M s Q hBM hl hQ
 refine⟨_,rfl, ?_⟩
 unfold xZ
 rw[bi]
 refine ht hBM hl fun M1 k1=>?_
 have hd:=nR (fD.contains ·) s
 rw[bi,acR hd (by omega),DN]
 have ht:=lL (fD.contains ·) s
 have hle:(s.takeWhile (fD.contains ·)).length≤s.length:=by rw[← DN]; omega
 rw[fO hle,bK,bB hle,bK,ht.1,ht.2]
 exact hQ M1 k1
def Ue (B:Base) (c:au) : Prop:=∀ {M:RM} {s:Str} {Q:ak},M.base=B→s.length≤1000000000→(∀ M',ag [] M M'→Q (.tup [St (vE s).1,St (vE s).2.1,Bo (vE s).2.2]) M')→c [St s] M Q
theorem XE {B:Base} {cp cc ci:au} (hp:lu cp) (hc:De 34 cc) (hi:oH kX B ci) : Ue B fun args M Q=>∃ a0,args=[a0]∧uY cp cc ci a0 M Q:=by
 intro M s Q hBM hl hQ
 refine⟨_,rfl, ?_⟩
 unfold uY
 simp only[bL]
 refine hp hl ?_
 unfold EC
 unfold vE at hQ
 cases hh:bn 34 s with
 | true =>
   rw[if_pos rfl,cO,df,bC]
   rw[if_pos hh] at hQ
   refine hc (by simp; omega) ?_
   unfold JM
   cases hb:brk 34 (s.drop 1) with
   | none =>
     rw[hb] at hQ
     dsimp only at hQ ⊢
     rw[cO,df,iO]
     exact hQ _ (ag.refl _ _)
   | some x =>
     rw[hb] at hQ
     dsimp only at hQ ⊢
     rw[cO,df,iO]
     exact hQ _ (ag.refl _ _)
 | false =>
   rw[if_neg (by simp),cO,df,bq]
   rw[if_neg (by rw[hh]; simp)] at hQ
   refine hi hBM hl fun M1 k1=>?_
   have hlt:=Am s kX
   have hge : -1≤Lib.indexAny s kX:=by
    rcases MH s with⟨e,_⟩ | ⟨a,c,b,_,e,_⟩ <;> omega
   refine aW (fun ys M'=>M'=M1∧ys=[N .i64 (if Lib.indexAny s kX<0 then(s.length:Int) else Lib.indexAny s kX)]) ?_ ?_
   ·rintro _ _ ⟨rfl,rfl⟩
    dsimp only[ae]
    by_cases h:Lib.indexAny s kX<0
    ·rw[if_pos h,fO (Nat.le_refl _),bK,bB (Nat.le_refl _),bK,List.take_length,List.drop_length]
     rw[if_pos h] at hQ
     exact hQ _ k1
    ·rw[if_neg h] at hQ ⊢
     obtain⟨i,hi⟩ : ∃ i:Nat,Lib.indexAny s kX=(i:Int):=⟨(Lib.indexAny s kX).toNat,by omega⟩
     rw[hi] at hQ hlt ⊢
     have hil:i≤s.length:=by omega
     rw[fO hil,bK,bB hil,bK]
     rw[Int.toNat_natCast] at hQ
     exact hQ _ k1
   intro J hJ
   rw[dO]
   refine aN (fun h=>?_) (fun h=>?_)
   ·have h:=of_decide_eq_true h
    rw[if_pos h] at hJ
    rw[bi]; exact hJ _ _ ⟨rfl,rfl⟩
   ·have h:=of_decide_eq_false h
    rw[if_neg h] at hJ
    exact hJ _ _ ⟨rfl,rfl⟩
theorem wK (s:Str) : (gF s).1.length + (gF s).2.length=s.length:=by
 have:=congrArg List.length (List.takeWhile_append_dropWhile (p:=(fD.contains ·)) (l:=s))
 rw[List.length_append] at this; exact this
theorem Sd {x:UInt8} {s a b:Str} (h:brk x s=some (a,b)) : a.length + b.length + 1=s.length:=by
 rcases sW x s with⟨h1,_⟩ | ⟨a',b',h1,_,h3,_⟩
 ·rw[h1] at h; cases h
 ·rw[h1] at h; cases h
  have:=congrArg List.length h3; simp at this; omega
theorem CP (s:Str) : (vE s).1.length + (vE s).2.1.length≤s.length:=by
 unfold vE
 cases hh:bn 34 s with
 | true =>
   have:=bu hh
   rw[if_pos rfl]
   cases hb:brk 34 (s.drop 1) with
   | none=>simp
   | some x =>
     have:=Sd (a:=x.1) (b:=x.2) (by rw[hb])
     simp at this ⊢; omega
 | false =>
   rw[if_neg (by simp)]
   split
   ·simp
   ·simp; omega
theorem Cc:∀ (k:Nat) (s:Str) (acc vs:List Str) (r:Str),1≤s.length→jR k s acc=some (vs,r)→gG vs + 3 * r.length≤gG acc + 3 * s.length
 | 0,_,_,_,_,_,h=>by cases h
 | k + 1,s,acc,vs,r,h1,h=>by
   rw[jR] at h
   have hl:=CP (s.drop 1)
   rw[List.length_drop] at hl
   generalize vE (s.drop 1)=x at *
   obtain⟨v,q,ok⟩:=x
   cases ok with
   | false=>cases h
   | true =>
     dsimp only at h hl
     split at h
     ·rename_i hh
      have:=Cc k q _ vs r (bu hh) h
      rw[Gt] at this
      omega
     ·cases h
      rw[Gt]; omega
theorem Ae:∀ (k:Nat) (s:Str) (acc vs:List Str) (r:Str),1≤s.length→jR k s acc=some (vs,r)→r.length + 1≤s.length
 | 0,_,_,_,_,_,h=>by cases h
 | k + 1,s,acc,vs,r,h1,h=>by
   rw[jR] at h
   have hl:=CP (s.drop 1)
   rw[List.length_drop] at hl
   generalize vE (s.drop 1)=x at *
   obtain⟨v,q,ok⟩:=x
   cases ok with
   | false=>cases h
   | true =>
     dsimp only at h hl
     split at h
     ·rename_i hh
      have:=Ae k q _ vs r (bu hh) h
      omega
     ·cases h
      omega
theorem A7:∀ (n:Nat) (s:Str) (acc:List Str) (k:Nat),s.length≤n→1≤s.length→s.length≤k→jR k s acc=jR s.length s acc
 | 0,s,acc,k,h1,h2,h3=>by omega
 | n + 1,s,acc,k,h1,h2,h3=>by
   obtain⟨i,rfl⟩ : ∃ i,k=i + 1:=⟨k - 1,by omega⟩
   obtain⟨j,hj⟩ : ∃ j,s.length=j + 1:=⟨s.length - 1,by omega⟩
   rw[hj,jR,jR]
   have hl:=CP (s.drop 1)
   rw[List.length_drop] at hl
   generalize vE (s.drop 1)=x at *
   obtain⟨v,q,ok⟩:=x
   cases ok with
   | false=>rfl
   | true =>
     dsimp only at hl ⊢
     split
     ·rename_i hh
      have h4:=bu hh
      rw[A7 n q _ i (by omega) h4 (by omega),A7 n q _ j (by omega) h4 (by omega)]
     ·rfl
theorem Ka:∀ (k:Nat) (s:Str) (acc ps:List jh) (r:Str),mo k s acc=some (ps,r)→jY ps + 3 * r.length≤jY acc + 3 * s.length
 | 0,_,_,_,_,h=>by cases h
 | k + 1,s,acc,ps,r,h=>by
   rw[mo] at h
   split at h
   ·rename_i h59
    have hp:=bu h59
    have hw:=wK (s.drop 1)
    rw[List.length_drop] at hw
    split at h
    ·rename_i h61
     have hq:=bu h61
     cases hv:jR (gF (s.drop 1)).2.length (gF (s.drop 1)).2 [] with
     | none=>rw[hv] at h; cases h
     | some x =>
       obtain⟨vs,q⟩:=x
       rw[hv] at h
       dsimp only at h
       have h1:=Cc _ _ _ _ _ hq hv
       have h2:=Ka k q _ ps r h
       rw[SQ] at h2
       dsimp only at h2
       simp only[show gG []=0 from rfl] at h1
       omega
    ·cases h
   ·cases h; omega
theorem AO:∀ (n:Nat) (s:Str) (acc:List jh) (k:Nat),s.length≤n→s.length + 1≤k→mo k s acc=mo (s.length + 1) s acc
 | n,s,acc,k,h1,h3=>by
   obtain⟨i,rfl⟩ : ∃ i,k=i + 1:=⟨k - 1,by omega⟩
   rw[mo,mo]
   split
   ·rename_i h59
    have hp:=bu h59
    have hw:=wK (s.drop 1)
    rw[List.length_drop] at hw
    split
    ·rename_i h61
     have hq:=bu h61
     cases hv:jR (gF (s.drop 1)).2.length (gF (s.drop 1)).2 [] with
     | none=>rfl
     | some x =>
       obtain⟨vs,q⟩:=x
       have h1:=Cc _ _ _ _ _ hq hv
       have h4:q.length<s.length:=by
        have:=Ae _ _ _ _ _ hq hv
        omega
       dsimp only
       cases n with
       | zero=>omega
       | succ n=>rw[AO n q _ i (by omega) (by omega),AO n q _ s.length (by omega) (by omega)]
    ·rfl
   ·rfl
def aap (B:Base) (c:au) : Prop:=∀ {M:RM} {s:Str} {Q:ak},M.base=B→s.length≤1000000000 →
 (∀ M' e,ag [] M M'→(∀ K:AV→Prop,K (Bo (Cv s).2)→KG false e (.sc .nilIface) K)→Q (.tup [N .i64 (Cv s).1,e]) M')→c [St s] M Q
theorem afo (a b:Int) {K:AV→Prop} : af .sub (N .i64 a) (N .i64 b) K=K (N .i64 (IntKind.wrap .i64 (a - b))):=gB ..
def UnC (B:Base) (c:au) : Prop:=∀ {M:RM} {s:Str} {Q:ak},M.base=B→s.length≤10000000 →
 (∀ M' v,ag [] M M'→cB iI M' v (Ha s).1.ps (fun b=>M.next≤b)→Q (.tup [.agg [St (Ha s).1.g,St (Ha s).1.n,v,St [],N .i64 0],N .i64 (Ha s).2.1,Bo (Ha s).2.2]) M')→c [St s] M Q
def hd4 (s:Str) : Str × Str × Str:=if bn 46 (gF s).2 then((gF s).1,(gF ((gF s).2.drop 1)).1,(gF ((gF s).2.drop 1)).2) else([],(gF s).1,(gF s).2)
theorem Xt (s:Str) : Ha s=match mo ((hd4 s).2.2.length + 1) (hd4 s).2.2 [] with
 | none=>(Tx,0,false)
 | some (ps,r)=>if r=[] then(⟨(hd4 s).1,(hd4 s).2.1,ps,[]⟩,0,true) else(⟨(hd4 s).1,(hd4 s).2.1,ps,[]⟩,jM r):=rfl
theorem SA (s:Str) : (hd4 s).1.length + (hd4 s).2.1.length + (hd4 s).2.2.length≤s.length:=by
 have h1:=wK s
 unfold hd4
 split
 ·rename_i h
  have:=bu h
  have h2:=wK ((gF s).2.drop 1)
  rw[List.length_drop] at h2
  dsimp only; omega
 ·dsimp only[List.length_nil]; simp; omega
theorem abt (s:Str) : uA (3 * s.length) { (Ha s).1 with v:=[] } := by
 have h1:=SA s
 rw[Xt]
 cases hp:mo ((hd4 s).2.2.length + 1) (hd4 s).2.2 [] with
 | none=>exact⟨by simp[Tx],by simp[Tx],by simp,by simp[Tx,jY]⟩
 | some x =>
   obtain⟨ps,r⟩:=x
   have h2:=Ka _ _ _ _ _ hp
   simp only[show jY []=0 from rfl] at h2
   dsimp only
   split
   ·exact⟨by dsimp only; omega,by dsimp only; omega,by simp,by dsimp only; omega⟩
   ·exact⟨by dsimp only; omega,by dsimp only; omega,by simp,by dsimp only; omega⟩
theorem aeJ {M:RM} {b T:Nat} {l:List AV} {Q:ak} (h:M.heap b=some (.row l false T 0)) (hl:l.length=5) (hQ:∀ M',ag [b] M M'→Q (.tup [.agg [St [],St [],aJ,St [],N .i64 0],N .i64 0,Bo false]) M') :
  dW [(St []),(St []),(.sc (.slice none 0 0)),(St []),(N .i64 0)] [] fun t48=>aC M (.ptr b 0) t48 5 fun QY=>aL QY (.ptr b 0) 5 fun res=>Q (.tup [res,(N .i64 0),(Bo false)]) QY:=by
 rw[gN]
 refine⟨_,rfl, ?_⟩
 rw[bY (n:=5) (x:=.agg [St [],St [],aJ,St [],N .i64 0]) h rfl hl rfl,aP (n:=5) (aB _) rfl]
 exact hQ _ ((ag.refl _ _).put _ (.inr (by simp)))
theorem aa7 {B:Base} {TL TP TS:Nat} {cw cc ch cv ca:au} (hw:Qh B cw) (hc:lu cc) (hh:pu ch) (hv:Ue B cv) (ha:aap B ca) :
  UnC B fun args M Q=>∃ a0,args=[a0]∧rO TL cw cc ch TP cv TS ca a0 M Q:=by
 intro M s Q hM hl hQ
 refine⟨_,rfl, ?_⟩
 unfold rO
 simp only[dN,CV,bL]
 rw[aG]
 have k1:ag [] M (M.push (.row [St [],St [],aJ,St [],N .i64 0] false TL 0)):=(ag.refl _ _).push _
 have h1:(M.push (.row [St [],St [],aJ,St [],N .i64 0] false TL 0)).heap M.next=some (.row [St [],St [],aJ,St [],N .i64 0] false TL 0):=RM.aV _
 have n1:(M.push (.row [St [],St [],aJ,St [],N .i64 0] false TL 0)).next=M.next + 1:=bZ _
 generalize M.push (.row [St [],St [],aJ,St [],N .i64 0] false TL 0)=M1 at *
 have hw1:=wK s
 refine hw (k1.base.trans hM) (by omega) fun M2 k2=>?_
 have h2:=k2.ay h1 (by omega) (by simp)
 have n2:=k2.next
 have k02:=k1.trans k2
 rw[cO,df,aT,bQ (l':=[St [],St (gF s).1,aJ,St [],N .i64 0]) h2 (by simp) rfl rfl rfl]
 have k3:ag [] M (M2.put M.next (.row [St [],St (gF s).1,aJ,St [],N .i64 0] false TL 0)):=k02.put _ (.inl (by omega))
 have h3:(M2.put M.next (.row [St [],St (gF s).1,aJ,St [],N .i64 0] false TL 0)).heap M.next=some (.row [St [],St (gF s).1,aJ,St [],N .i64 0] false TL 0):=aB _
 have n3:(M2.put M.next (.row [St [],St (gF s).1,aJ,St [],N .i64 0] false TL 0)).next=M2.next:=rfl
 generalize M2.put M.next (.row [St [],St (gF s).1,aJ,St [],N .i64 0] false TL 0)=M3 at *
 have hdl:=SA s
 refine aW (fun ys M'=>ys=[St (hd4 s).2.2]∧ag [] M M'∧M.next + 1≤M'.next∧M'.heap M.next=some (.row [St (hd4 s).1,St (hd4 s).2.1,aJ,St [],N .i64 0] false TL 0)) ?_ ?_
 rotate_left 1
 ·intro J hJ
  refine hc (by omega) ?_
  unfold EC
  unfold hd4 at hJ
  cases hd:bn 46 (gF s).2 with
  | false =>
    rw[if_neg (by simp),cO,df,bq]
    rw[if_neg (by rw[hd]; simp)] at hJ
    exact hJ _ _ ⟨rfl,k3,by omega,h3⟩
  | true =>
    rw[if_pos rfl,cO,df,bC]
    rw[if_pos hd] at hJ
    have hpos:=bu hd
    rw[aT,aA h3 rfl,aT,bQ (l':=[St (gF s).1,St (gF s).1,aJ,St [],N .i64 0]) h3 (by simp) rfl rfl rfl]
    have k4:ag [] M (M3.put M.next (.row [St (gF s).1,St (gF s).1,aJ,St [],N .i64 0] false TL 0)):=k3.put _ (.inl (by omega))
    have h4:(M3.put M.next (.row [St (gF s).1,St (gF s).1,aJ,St [],N .i64 0] false TL 0)).heap M.next=some (.row [St (gF s).1,St (gF s).1,aJ,St [],N .i64 0] false TL 0):=aB _
    have n4:(M3.put M.next (.row [St (gF s).1,St (gF s).1,aJ,St [],N .i64 0] false TL 0)).next=M3.next:=rfl
    generalize M3.put M.next (.row [St (gF s).1,St (gF s).1,aJ,St [],N .i64 0] false TL 0)=M4 at *
    refine hw (k4.base.trans hM) (by simp; omega) fun M5 k5=>?_
    have h5:=k5.ay h4 (by omega) (by simp)
    have n5:=k5.next
    rw[cO,df,aT,bQ (l':=[St (gF s).1,St (gF ((gF s).2.drop 1)).1,aJ,St [],N .i64 0]) h5 (by simp) rfl rfl rfl]
    exact hJ _ _ ⟨rfl,(k4.trans k5).put _ (.inl (by omega)),by rw[iq]; omega,aB _⟩
 rintro _ M4 ⟨rfl,k4,n4,h4⟩
 dsimp only[ae]
 rw[Xt] at hQ
 generalize hd4 s=hd at *
 obtain⟨g,n,s0⟩:=hd
 dsimp only at hQ hdl h4 ⊢
 generalize hP:mo (s0.length + 1) s0 []=P at *
 refine aI (fun m ys M5=>∃ (t:Str) (v:AV) (acc:List jh),m=t.length∧ys=[St t]∧acc.length + t.length≤s0.length∧ag [] M M5∧M.next + 1≤M5.next∧M5.heap M.next=some (.row [St g,St n,v,St [],N .i64 0] false TL 0) ∧
   eX iI M5 (M.next + 1) TP v acc (fun b=>M.next + 1≤b∧b<M5.next∧b ∉ aH v)∧mo (t.length + 1) t acc=P) _
  ⟨s0,aJ,[],rfl,rfl,by simp,k4,n4,h4,.nil,hP⟩ ?_
 rintro next m ys M5 hnext ⟨t,v,acc,rfl,rfl,hal,k5,n5,h5,ho,hp⟩
 have hM5:M5.base=B:=k5.base.trans hM
 rw[mo] at hp
 dsimp only[ae]
 refine hh (by omega) ?_
 have hvl:=ho.blk
 cases h59:bn 59 t with
 | false =>
   simp only[h59,Bool.false_eq_true,if_false] at hp
   rw[bq]
   rw[← hp] at hQ
   dsimp only at hQ
   have hsl:cB iI M5 v acc (fun b=>M.next + 1≤b):=(ho.mono (fun b h=>h.1)).zL (fun b hb _=>hb)
   have hall:([St g,St n,v,St [],N .i64 0] : List AV).all oneCell=true:=by simp[eu,ho.one]
   have fin:∀ {M6:RM} {Q' : AV→RM→Prop},ag [] M5 M6→(∀ M',ag [] M M'→cB iI M' v acc (fun b=>M.next≤b)→Q' (.agg [St g,St n,v,St [],N .i64 0]) M') →
     aC M6 (.ptr M.next 0) (.agg [St g,St n,v,St [],N .i64 0]) 5 fun acp=>aL acp (.ptr M.next 0) 5 fun res=>Q' res acp:=by
    intro M6 Q' k6 hq
    have h6:=k6.ay h5 (by omega) (by simp)
    rw[bY (n:=5) (x:=.agg [St g,St n,v,St [],N .i64 0]) h6 rfl rfl hall,aP (n:=5) (aB _) rfl]
    refine hq _ ((k5.trans k6).put _ (.inl (Nat.le_refl _))) ?_
    exact(((hsl.keep k6 (by simp)).keep (bs:=[M.next]) ((ag.refl _ _).put _ (.inr (by simp))) (fun b hb h=>by simp at hb; omega)).mono fun b hb=>by omega)
   rw[dm]
   refine aN (fun he=>?_) (fun he=>?_)
   ·have he:t=[]:=by simpa using he
    rw[if_pos he] at hQ
    rw[aP (n:=5) h5 rfl]
    exact fin (Q':=fun res M'=>Q (.tup [res,(N .i64 0),(Bo true)]) M') (ag.refl _ _) fun M' k' h'=>hQ M' v k' h'
   ·have he:¬ t=[]:=by simpa using he
    rw[if_neg he] at hQ
    refine hc (by omega) ?_
    have hcut:EC 35 t=.tup [St (if bn 35 t then t.drop 1 else t),Bo (bn 35 t)]:=by
     unfold EC
     cases bn 35 t with
     | true=>rfl
     | false=>rfl
    rw[hcut,cO,df]
    unfold jM at hQ
    dsimp only at hQ
    generalize hd:(if bn 35 t then t.drop 1 else t)=d at *
    have hdl' : d.length≤t.length:=by
     rw[← hd]; split
     ·simp
     ·exact Nat.le_refl _
    refine ha hM5 (by omega) fun M6 e k6 hE=>?_
    rw[cO,df,aP (n:=5) (k6.ay h5 (by omega) (by simp)) rfl,afo]
    have done:∀ r:Bool,r=(bn 35 t && (Cv d).2 && decide ((Cv d).1 ≥ 2)) →
      aC M6 (.ptr M.next 0) (.agg [St g,St n,v,St [],N .i64 0]) 5 fun adg=>aL adg (.ptr M.next 0) 5 fun acD=>Q (.tup [acD,N .i64 (IntKind.wrap .i64 ((Cv d).1 - 1)),Bo r]) adg:=by
     intro r hr
     refine fin (Q':=fun res M'=>Q (.tup [res,N .i64 (IntKind.wrap .i64 ((Cv d).1 - 1)),Bo r]) M') k6 fun M' k' h'=>?_
     rw[hr]; exact hQ M' v k' h'
    cases hb:bn 35 t with
    | false =>
      simp only[qM,dJ]
      exact done false (by rw[hb]; rfl)
    | true =>
      simp only[oW]
      refine hE _ ?_
      rw[dh]
      cases hb2:(Cv d).2 with
      | false =>
        simp only[qM,dJ]
        exact done false (by rw[hb,hb2]; rfl)
      | true =>
        simp only[oW]
        rw[dL,dh]
        exact done _ (by rw[hb,hb2]; rfl)
 | true =>
   simp only[h59,if_true] at hp
   have htl:=bu h59
   rw[bC,aG,show aR (St t) (some (N .i64 1)) none=some (St (t.drop 1)) from bB (l:=1) (by omega) .i64,bK]
   have h6:(M5.push (.row [St [],aJ] false TP 0)).heap M5.next=some (.row [St [],aJ] false TP 0):=RM.aV _
   have k6:ag [] M5 (M5.push (.row [St [],aJ] false TP 0)):=(ag.refl _ _).push _
   have n6:(M5.push (.row [St [],aJ] false TP 0)).next=M5.next + 1:=rfl
   generalize M5.push (.row [St [],aJ] false TP 0)=M6 at *
   refine hw (k6.base.trans hM5) (by simp; omega) fun M7 k7=>?_
   have h7:=k7.ay h6 (by omega) (by simp)
   have n7:=k7.next
   have hw4:=wK (t.drop 1)
   rw[List.length_drop] at hw4
   generalize gF (t.drop 1)=w4 at *
   obtain⟨nm,t2⟩:=w4
   dsimp only at hp hw4 ⊢
   rw[cO,df,aT,bQ (l':=[St nm,aJ]) h7 (by simp) rfl rfl rfl]
   have k8:ag [] M5 (M7.put M5.next (.row [St nm,aJ] false TP 0)):=(k6.trans k7).put _ (.inl (Nat.le_refl _))
   have h8:(M7.put M5.next (.row [St nm,aJ] false TP 0)).heap M5.next=some (.row [St nm,aJ] false TP 0):=aB _
   have n8:(M7.put M5.next (.row [St nm,aJ] false TP 0)).next=M7.next:=rfl
   generalize M7.put M5.next (.row [St nm,aJ] false TP 0)=M8 at *
   refine hh (by omega) ?_
   rw[bX]
   have aay:P=none→∀ {M9:RM},ag [] M5 M9→dW [(St []),(St []),(.sc (.slice none 0 0)),(St []),(N .i64 0)] [] fun t48=>aC M9 (.ptr M.next 0) t48 5 fun QY=>aL QY (.ptr M.next 0) 5 fun res=>Q (.tup [res,(N .i64 0),(Bo false)]) QY:=by
    intro hn M9 k9
    rw[hn] at hQ
    refine aeJ (k9.ay h5 (by omega) (by simp)) rfl fun M' k'=>?_
    exact hQ M' aJ ((k5.trans k9).dH k' (fun c hc=>.inl (by simp at hc; omega))) cB.nil
   cases h61:bn 61 t2 with
   | false =>
     simp only[h61,Bool.false_eq_true,if_false] at hp
     rw[Bool.not_false,bC]
     exact aay hp.symm k8
   | true =>
   simp only[h61,if_true] at hp
   rw[Bool.not_true,bq]
   refine aI (fun m zs M9=>∃ (u:Str) (vs:List Str) (w:AV) (more:Bool),m=2 * u.length + (if more then 1 else 0)∧zs=[St u,Bo more]∧u.length + vs.length≤t2.length∧ag [] M5 M9∧M8.next≤M9.next ∧
     M9.heap M5.next=some (.row [St nm,w] false TP 0)∧eX gH.kG M9 M8.next TS w vs (fun _=>False) ∧
     (more=true→1≤u.length∧jR u.length u vs=jR t2.length t2 [])∧(more=false→jR t2.length t2 []=some (vs,u))) _
    ⟨t2,[],aJ,true,rfl,rfl,by simp,k8,Nat.le_refl _,h8,.nil,fun _=>⟨bu h61,rfl⟩,fun h=>by cases h⟩ ?_
   rintro pJ m zs M9 gm ⟨u,vs,w,more,rfl,rfl,hul,k9,n9,h9,how,hm1,hm2⟩
   dsimp only[ae]
   have hM9:M9.base=B:=k9.base.trans hM5
   cases more with
   | true =>
     obtain⟨hu1,hvf⟩:=hm1 rfl
     obtain⟨j,hj⟩ : ∃ j,u.length=j + 1:=⟨u.length - 1,by omega⟩
     rw[hj,jR] at hvf
     rw[bC,show aR (St u) (some (N .i64 1)) none=some (St (u.drop 1)) from bB (l:=1) (by omega) .i64,bK]
     have aeC:=CP (u.drop 1)
     refine hv hM9 (by simp; omega) fun Ma ka=>?_
     generalize vE (u.drop 1)=x at *
     obtain⟨a,after,ok⟩:=x
     simp only[List.length_drop] at aeC hvf
     rw[cO,df,iO,bX]
     dsimp only
     cases ok with
     | false =>
       rw[Bool.not_false,bC]
       refine aay ?_ (k9.trans ka)
       dsimp only at hvf
       rw[← hvf] at hp
       exact hp.symm
     | true =>
     dsimp only at hvf
     have ha:=ka.ay h9 (by omega) (by simp)
     rw[Bool.not_true,bq,aT,aA ha rfl,gD (x:=St a) (size:=1) rfl rfl rfl,aG]
     have ae0:=how.keep ka (by simp) (by simp)
     have na:=ka.next
     refine eX.app (R:=gH.kG) (a:=a) (cs:=[St a]) ae0 rfl (by omega) (Nat.le_refl _) (by simp) (by simp) (by omega) (by omega) ?_
     intro w' Mb ob kb nb hwb _
     have ab3:∀ b∈aH w,M8.next≤b:=fun b hb=>(how.blk b hb).1
     have hb:=kb.ay ha (by omega) (fun h=>by have:=ab3 _ h; omega)
     have YY:∀ b∈aH w',M8.next≤b:=fun b hb=>(ob.blk b hb).1
     rw[aT,bQ (l':=[St nm,w']) hb (by simp) ob.cells ob.one rfl]
     refine hh (by omega) ?_
     have kc:ag [] M5 (Mb.put M5.next (.row [St nm,w'] false TP 0)):=ag.new ((k9.trans ka).dH kb fun c hc=>.inl (by have:=ab3 c hc; omega)) _ (Nat.le_refl _)
     refine gm _ _ _ ?_ ⟨after,vs++[a],w',bn 44 after,rfl,rfl,by simp; omega,kc,by rw[iq]; omega,aB _, ?_, ?_, ?_⟩
     ·split <;> simp <;> omega
     ·refine ob.keep (bs:=[M5.next]) ((ag.refl _ _).put _ (.inr (by simp))) (by simp) fun b hb=>?_
      have:=YY b hb
      simp; omega
     ·intro hmo
      rw[if_pos hmo] at hvf
      refine⟨bu hmo, ?_⟩
      rw[← hvf,A7 after.length after _ j (Nat.le_refl _) (bu hmo) (by omega)]
     ·intro hmo
      rw[hmo] at hvf
      simp only[Bool.false_eq_true,if_false] at hvf
      exact hvf.symm
   | false =>
     have hv4:=hm2 rfl
     rw[hv4] at hp
     simp only at hp
     rw[bq,aT,aA (k9.ay h5 (by omega) (by simp)) rfl,aP (n:=2) h9 rfl,gD (x:=.agg [St nm,w]) (size:=2) rfl (by show([St nm,w] : List AV).all oneCell=true; simp[eu,how.one]) rfl,aG]
     let S' : Nat→Prop:=fun b=>M.next + 1≤b∧b<M9.next∧b ∉ aH v
     have n9':=k9.next
     have ho9:eX iI M9 (M.next + 1) TP v acc S':=(ho.keep k9 (by simp) (by simp)).mono fun b h=>⟨h.1,by omega,h.2.2⟩
     have hel:iI.rel M9 [St nm,w] (nm,vs) S':=Dc ((how.mono (S':=S') (fun _ h=>h.elim)).zL (fun b h1 h2=>⟨by omega,h2,fun hb=>by have:=(hvl b hb).2; omega⟩))
     refine eX.app (R:=iI) ho9 hel (by omega) (by decide) (fun b hb h=>h.2.2 hb) (fun b h=>h.2.1) (by omega) (by omega) ?_
     intro v' Mb ob kb nb hvb hdb
     have hvs:=Ae _ _ _ _ _ (bu h61) hv4
     have hb5:=kb.ay (k9.ay h5 (by omega) (by simp)) (by omega) (fun h=>by have:=(hvl _ h).1; omega)
     have hob:=ob.blk
     rw[aT,bQ (l':=[St g,St n,v',St [],N .i64 0]) hb5 (by simp) ob.cells ob.one rfl]
     refine hnext _ _ _ (by omega) ⟨u,v',acc++[(nm,vs)],rfl,rfl,by simp; omega, ?_,by rw[iq]; omega,aB _, ?_, ?_⟩
     ·exact ag.new ((k5.trans k9).dH kb fun c hc=>.inl (by have:=(hvl c hc).1; omega)) _ (Nat.le_refl _)
     ·refine(ob.keep (bs:=[M.next]) ((ag.refl _ _).put _ (.inr (by simp))) (fun b hb h=>by simp at hb; have:=h.1; omega) fun b hb=>?_).mono fun b h=>⟨h.1,by rw[iq]; omega,fun hb=>hdb b hb h⟩
      have:=(hob b hb).1
      simp; omega
     ·rw[← hp,AO u.length u _ t.length (Nat.le_refl _) (by omega)]
def E5 (p s:Str) : Bool:=decide (p.length≤s.length) && (s.take p.length == p)
def Y5 (c:au) : Prop:=∀ {M:RM} {s p:Str} {Q:ak},Q (Bo (E5 p s)) M→c [St s,St p] M Q
theorem NJ:Y5 fun args M Q=>∃ a0 a1,args=[a0,a1]∧Vl.fe a0 a1 M Q:=by
 intro M s p Q hQ
 refine⟨_,_,rfl, ?_⟩
 unfold Go.Ab.Vl.fe
 simp only[dN,bi,dL]
 unfold E5 at hQ
 by_cases h:p.length≤s.length
 ·have e:decide ((s.length:Int) ≥ (p.length:Int))=true:=by simp[h]
  rw[e]
  simp only[go_sem,if_true]
  rw[fO h]
  simpa only[go_sem,h,decide_true,Bool.true_and,if_true] using hQ
 ·have e:decide ((s.length:Int) ≥ (p.length:Int))=false:=by simp; omega
  rw[e]
  simpa [go_sem,h] using hQ
def F8 (p s:Str) : AV:=if E5 p s then .tup [St (s.drop p.length),Bo true] else .tup [St s,Bo false]
def wL (c:au) : Prop:=∀ {M:RM} {s p:Str} {Q:ak},Q (F8 p s) M→c [St s,St p] M Q
theorem IA {ch:au} (hh:Y5 ch) : wL fun args M Q=>∃ a0 a1,args=[a0,a1]∧Vl.eZ ch a0 a1 M Q:=by
 intro M s p Q hQ
 refine⟨_,_,rfl, ?_⟩
 unfold Go.Ab.Vl.eZ
 refine hh ?_
 unfold F8 at hQ
 cases h:E5 p s
 ·rw[h] at hQ; simpa [go_sem] using hQ
 ·rw[h] at hQ
  have hl:p.length≤s.length:=by unfold E5 at h; simp at h; exact h.1
  simp only[bX,Bool.not_true,bq,bi]
  rw[bB hl]
  simpa [go_sem] using hQ
theorem Ri {ch:au} (hh:wL ch) : wL fun args M Q=>∃ a0 a1,args=[a0,a1]∧Vl.jk ch a0 a1 M Q:=by
 intro M s p Q hQ
 refine⟨_,_,rfl, ?_⟩
 unfold Go.Ab.Vl.jk
 refine hh ?_
 unfold F8 at hQ ⊢
 cases h:E5 p s <;> rw[h] at hQ <;> simpa [go_sem] using hQ
theorem abX (s:Str) : E5 iZ s=decide (s.take 4=iZ):=by
 unfold E5
 rw[show iZ.length=4 from rfl]
 by_cases h:s.take 4=iZ
 ·have:=congrArg List.length h
  simp[iZ] at this
  rw[decide_eq_true h,decide_eq_true (show 4≤s.length by omega),h]; rfl
 ·rw[decide_eq_false h,Bool.and_eq_false_iff]
  right; simpa using h
theorem aaR {b:Bool} {x y:Str} {N:Nat} (hx:x.length≤N) (hy:y.length≤N) : (if b then x else y).length≤N:=by cases b <;> simpa
theorem aaN {p:Fd} {N:Nat} (h1:3 * p.1.length≤N) (h2:2 * p.2.length≤N) : uA N (fV p).1:=by
 have hs:=abt (if decide (p.1.take 4=iZ) then p.1.drop 4 else p.1)
 have hl:(if decide (p.1.take 4=iZ) then p.1.drop 4 else p.1).length≤p.1.length:=by
  split
  ·simp
  ·exact Nat.le_refl _
 have he:=Te p.2
 unfold fV
 refine⟨?_, ?_, ?_, ?_⟩
 ·have:=hs.g; dsimp only at this ⊢; omega
 ·have:=hs.n; dsimp only at this ⊢; omega
 ·dsimp only; exact aaR (by omega) (by omega)
 ·have:=hs.ps; dsimp only at this ⊢; omega
def OA (B:Base) (c:au) : Prop:=∀ {M:RM} {p:Fd} {Q:ak},M.base=B→p.1.length≤10000000→p.2.length≤10000000 →
 (∀ M' cs,ag [] M M'→gq.rel M' cs ((fV p).1,0) (fun b=>M.next≤b)→Q (.tup [.agg cs,N .i64 (fV p).2.1,Bo (fV p).2.2]) M')→c [oP p] M Q
theorem Og (p q:Fd) : eB [2,2] [St p.1,St p.2] [St q.1,St q.2]=some (decide (p=q)):=by
 rw[Dq,Dq,JJ]
 by_cases h1:p.1=q.1
 ·by_cases h2:p.2=q.2
  ·rw[if_pos h1,if_pos h2,decide_eq_true (Prod.ext h1 h2)]
  ·rw[if_pos h1,if_neg h2,decide_eq_false (fun e=>h2 (by rw[e]))]
 ·rw[if_neg h1,decide_eq_false (fun e=>h1 (by rw[e]))]
theorem W9 {B:Base} {TP TL:Nat} {cc cu ct ce cf:au} (hc:wL cc) (hu:UnC B cu) (ht:Oo ct) (he:Iu ce) (hf:J7 B cf) : OA B fun args M Q=>∃ a0,args=[a0]∧yR TP TL cc cu ct ce cf a0 M Q:=by
 intro M p Q hM hp1 hp2 hQ
 refine⟨_,rfl, ?_⟩
 unfold yR oP
 simp only[dN,bL]
 rw[fU (cs:=[St p.1,St p.2]) rfl (by simp),aG]
 have k1:ag [] M (M.push (.row [St p.1,St p.2] false TP 0)):=(ag.refl _ _).push _
 have h1:(M.push (.row [St p.1,St p.2] false TP 0)).heap M.next=some (.row [St p.1,St p.2] false TP 0):=RM.aV _
 have n1:(M.push (.row [St p.1,St p.2] false TP 0)).next=M.next + 1:=bZ _
 generalize M.push (.row [St p.1,St p.2] false TP 0)=M1 at *
 rw[aG]
 have k2:ag [] M1 (M1.push (.row [St [],St [],aJ,St [],N .i64 0] false TL 0)):=(ag.refl _ _).push _
 have h2:(M1.push (.row [St [],St [],aJ,St [],N .i64 0] false TL 0)).heap M1.next=some (.row [St [],St [],aJ,St [],N .i64 0] false TL 0):=RM.aV _
 have n2:(M1.push (.row [St [],St [],aJ,St [],N .i64 0] false TL 0)).next=M1.next + 1:=bZ _
 generalize M1.push (.row [St [],St [],aJ,St [],N .i64 0] false TL 0)=M2 at *
 have h12:=k2.ay h1 (by omega) (by simp)
 have k02:=k1.trans k2
 rw[aT,aA h12 rfl]
 refine hc ?_
 have hcut:F8 iZ p.1=.tup [St (if decide (p.1.take 4=iZ) then p.1.drop 4 else p.1),Bo (decide (p.1.take 4=iZ))]:=by
  unfold F8
  rw[abX]
  cases decide (p.1.take 4=iZ) with
  | true=>rfl
  | false=>rfl
 rw[show([114,97,119,46] : Str)=iZ from rfl,hcut,cO,df]
 have hlen:(if decide (p.1.take 4=iZ) then p.1.drop 4 else p.1).length≤p.1.length:=by
  split
  ·simp
  ·exact Nat.le_refl _
 have hsz:=aaN (p:=p) (N:=30000000) (by omega) (by omega)
 unfold fV at hQ hsz
 dsimp only at hQ hsz
 generalize hraw:decide (p.1.take 4=iZ)=raw at *
 generalize (if raw then p.1.drop 4 else p.1)=s at *
 refine hu (k02.base.trans hM) (by omega) fun M3 v k3 hv=>?_
 generalize Ha s=u at *
 obtain⟨u,j,uok⟩:=u
 dsimp only at hQ hsz hv ⊢
 rw[cO,df,iO]
 have k03:=k02.trans k3
 have h13:=k3.ay h12 (by omega) (by simp)
 have h23:=k3.ay h2 (by omega) (by simp)
 have n3:=k3.next
 have hall:∀ x:Str,([St u.g,St u.n,v,St x,N .i64 0] : List AV).all oneCell=true:=fun x=>by simp[eu,hv.one]
 rw[aG,bY (n:=5) (x:=.agg [St u.g,St u.n,v,St [],N .i64 0]) (l:=[St [],St [],aJ,St [],N .i64 0]) (RM.aV _) rfl rfl (hall [])]
 have k4:ag [] M3 ((M3.push (.row [St [],St [],aJ,St [],N .i64 0] false TL 0)).put M3.next (.row (AV.agg [St u.g,St u.n,v,St [],N .i64 0]).cells false TL 0)):=((ag.refl _ _).push _).new _ (Nat.le_refl _)
 have h4:((M3.push (.row [St [],St [],aJ,St [],N .i64 0] false TL 0)).put M3.next (.row (AV.agg [St u.g,St u.n,v,St [],N .i64 0]).cells false TL 0)).heap M3.next=some (.row [St u.g,St u.n,v,St [],N .i64 0] false TL 0):=aB _
 have n4:((M3.push (.row [St [],St [],aJ,St [],N .i64 0] false TL 0)).put M3.next (.row (AV.agg [St u.g,St u.n,v,St [],N .i64 0]).cells false TL 0)).next=M3.next + 1:=rfl
 generalize (M3.push (.row [St [],St [],aJ,St [],N .i64 0] false TL 0)).put M3.next (.row (AV.agg [St u.g,St u.n,v,St [],N .i64 0]).cells false TL 0)=M4 at *
 have h14:=k4.ay h13 (by omega) (by simp)
 have h24:=k4.ay h23 (by omega) (by simp)
 rw[aT,aA h14 rfl,aT,bQ (l':=[St u.g,St u.n,v,St p.2,N .i64 0]) h4 (by simp) rfl rfl rfl]
 have k5:ag [] M3 (M4.put M3.next (.row [St u.g,St u.n,v,St p.2,N .i64 0] false TL 0)):=k4.put _ (.inl (Nat.le_refl _))
 have h5:(M4.put M3.next (.row [St u.g,St u.n,v,St p.2,N .i64 0] false TL 0)).heap M3.next=some (.row [St u.g,St u.n,v,St p.2,N .i64 0] false TL 0):=aB _
 have n5:(M4.put M3.next (.row [St u.g,St u.n,v,St p.2,N .i64 0] false TL 0)).next=M4.next:=rfl
 generalize M4.put M3.next (.row [St u.g,St u.n,v,St p.2,N .i64 0] false TL 0)=M5 at *
 have h15:=k5.ay h13 (by omega) (by simp)
 have h25:=k5.ay h23 (by omega) (by simp)
 generalize hx:(if !raw && uU u.n then esc p.2 else p.2)=x at *
 refine aW (fun ys M'=>ag [] M3 M'∧M3.next<M'.next∧M'.heap M3.next=some (.row [St u.g,St u.n,v,St x,N .i64 0] false TL 0)) ?_ ?_
 rotate_left 1
 ·intro J hJ
  rw[bX]
  refine qw (p:=uU u.n) (fun hc' kk hk=>?_) ?_
  ·rw[aT,aA h5 rfl]; exact ht hk
  refine aN (fun hb=>?_) (fun hb=>?_)
  ·rw[hb] at hx
   rw[if_pos rfl] at hx
   rw[aT,aA h15 rfl]
   refine he (by omega) fun M6 k6=>?_
   have h6:=k6.ay h5 (by omega) (by simp)
   have n6:=k6.next
   rw[aT,bQ (l':=[St u.g,St u.n,v,St x,N .i64 0]) h6 (by simp) rfl rfl (by rw[← hx]; rfl)]
   exact hJ _ _ ⟨(k5.trans k6).put _ (.inl (Nat.le_refl _)),by rw[iq]; omega,aB _⟩
  ·rw[hb] at hx
   rw[if_neg (by simp)] at hx
   rw[← hx] at hJ
   exact hJ _ _ ⟨k5,by omega,h5⟩
 rintro _ M6 ⟨k6,n6,h6⟩
 have h16:=k6.ay h13 (by omega) (by simp)
 have h26:=k6.ay h23 (by omega) (by simp)
 have k06:=k03.trans k6
 rw[aP (n:=5) h6 rfl]
 have hv6:=hv.keep k6 (by simp)
 have hrel:gq.rel M6 [St u.g,St u.n,v,St x,N .i64 0] ({ u with v:=x },0) (fun b=>M2.next≤b):=⟨v,rfl,hv6⟩
 have hla:=hsz.laid
 refine hf (k06.base.trans hM) hrel (hsz.mono (by omega)).lb (by omega) fun M7 k7=>?_
 have h17:=k7.ay h16 (by omega) (by simp)
 have h27:=k7.ay h26 (by omega) (by simp)
 have h67:=k7.ay h6 (by omega) (by simp)
 have n7:=k7.next
 generalize kJ { u with v:=x } j=f at *
 obtain⟨f,fok⟩:=f
 dsimp only at hQ ⊢
 unfold oP
 rw[cO,df,aG,bY (n:=2) (x:=.agg [St f.1,St f.2]) (l:=[St [],St []]) (RM.aV _) rfl rfl rfl]
 have k8:ag [] M7 ((M7.push (.row [St [],St []] false TP 0)).put M7.next (.row (AV.agg [St f.1,St f.2]).cells false TP 0)):=((ag.refl _ _).push _).new _ (Nat.le_refl _)
 have h8:((M7.push (.row [St [],St []] false TP 0)).put M7.next (.row (AV.agg [St f.1,St f.2]).cells false TP 0)).heap M7.next=some (.row [St f.1,St f.2] false TP 0):=aB _
 have n8:((M7.push (.row [St [],St []] false TP 0)).put M7.next (.row (AV.agg [St f.1,St f.2]).cells false TP 0)).next=M7.next + 1:=rfl
 generalize (M7.push (.row [St [],St []] false TP 0)).put M7.next (.row (AV.agg [St f.1,St f.2]).cells false TP 0)=M8 at *
 have h18:=k8.ay h17 (by omega) (by simp)
 have h28:=k8.ay h27 (by omega) (by simp)
 have h68:=k8.ay h67 (by omega) (by simp)
 have k08:=(k06.trans k7).trans k8
 rw[aP (n:=5) h68 rfl]
 have fin:∀ r:Bool,r=(uok && fok && decide (f=p)) →
   ∀ {M9:RM},M9=M8.put M1.next (.row (AV.agg [St u.g,St u.n,v,St x,N .i64 0]).cells false TL 0)→aL M9 (.ptr M1.next 0) 5 fun res=>Q (.tup [res,N .i64 j,Bo r]) M9:=by
  intro r hr M9 e
  have k9:ag [M1.next] M8 M9:=by rw[e]; exact(ag.refl _ _).put _ (.inr (by simp))
  rw[aP (n:=5) (l:=[St u.g,St u.n,v,St x,N .i64 0]) (by rw[e]; exact aB _) rfl,hr]
  refine hQ _ _ (k08.dH k9 (fun c hc=>.inl (by simp at hc; omega))) ⟨v,rfl, ?_⟩
  refine((hv6.keep (k7.trans k8) (by simp)).keep k9 fun b hb h=>?_).mono fun b hb=>by omega
  simp at hb; omega
 have hst:∀ {K:RM→Prop},aC M8 (.ptr M1.next 0) (.agg [St u.g,St u.n,v,St x,N .i64 0]) 5 K=K (M8.put M1.next (.row (AV.agg [St u.g,St u.n,v,St x,N .i64 0]).cells false TL 0)):=fun {K} => bY (n:=5) (x:=.agg [St u.g,St u.n,v,St x,N .i64 0]) h28 rfl rfl (hall x)
 cases uok with
 | false =>
   simp only[qM,Qd,dJ]
   rw[hst]
   exact fin false rfl rfl
 | true =>
   simp only[oW,dh]
   cases fok with
   | false =>
     simp only[qM,Qd,dJ]
     rw[hst]
     exact fin false rfl rfl
   | true =>
     simp only[oW,Xn,dh]
     rw[aP (n:=2) h8 rfl,aP (n:=2) h18 rfl,zG (r:=decide (f=p)) rfl rfl (Og f p),hst]
     have h9a:(M8.put M1.next (.row (AV.agg [St u.g,St u.n,v,St x,N .i64 0]).cells false TL 0)).heap M7.next=some (.row [St f.1,St f.2] false TP 0):=bJ h8 (by omega)
     have h9b:(M8.put M1.next (.row (AV.agg [St u.g,St u.n,v,St x,N .i64 0]).cells false TL 0)).heap M.next=some (.row [St p.1,St p.2] false TP 0):=bJ h18 (by omega)
     rw[aP (n:=2) h9a rfl]
     refine⟨rfl, ?_⟩
     rw[aP (n:=2) h9b rfl]
     refine⟨rfl, ?_⟩
     refine fin _ ?_ rfl
     cases decide (f=p) <;> rfl
def mQ:Enc Fd where
 size:=2
 cells p:=[St p.1,St p.2]
 len _:=rfl
 one _:=rfl
theorem Oz {M:RM} {v:AV} {xs:List Fd} (h:Sl mQ M v xs) {i:Nat} (hi:i<xs.length) {K:AV→Prop} : (aM v (N .i64 (i:Int)) 2 fun p=>aL M p 2 K)=K (oP xs[i]):=by
 obtain⟨b,o,hb,_,hidx,hld⟩:=Sl.elem h hi
 rw[show(2:Nat)=mQ.size from rfl,hidx,uF,hld]
 simp[mQ,oP]
theorem zv {M:RM} {b T:Nat} {x:AV} {cs:List AV} (n:Nat) (h:x=.agg cs) (hl:cs.length=n) (zs:List AV) (hz:zs.length=n) (h1:cs.all oneCell=true) {K:RM→Prop} (hc:x.cells.length=n)
  (hK:∀ M',ag [] M M'→M'.next=M.next + 1→M'.heap M.next=some (.row cs false T 0)→K M') : aC (M.push (.row zs false T 0)) (.ptr M.next 0) x n K:=by
 subst h
 rw[bY (n:=n) (x:=.agg cs) (l:=zs) (RM.aV _) hc hz h1]
 exact hK _ (((ag.refl _ _).push _).new _ (Nat.le_refl _)) rfl (aB _)
def Ko (B:Base) (c:au) : Prop:=∀ {M:RM} {p:Fd} {Q:ak},M.base=B→p.1.length≤10000000→p.2.length≤10000000 →
 (∀ M' cs,ag [] M M'→gq.rel M' cs (if (fV p).2.2 then(fV p).1 else Tx,0) (fun b=>M.next≤b)→Q (.tup [.agg cs,N .i64 (if (fV p).2.2 then 0 else 1)]) M')→c [oP p] M Q
theorem U9 {B:Base} {TP TL:Nat} {cl:au} (hl:OA B cl) : Ko B fun args M Q=>∃ a0,args=[a0]∧xJ TP TL cl a0 M Q:=by
 intro M p Q hM hp1 hp2 hQ
 refine⟨_,rfl, ?_⟩
 unfold xJ oP
 rw[fU (cs:=[St p.1,St p.2]) rfl (by simp),aG]
 have k1:ag [] M (M.push (.row [St p.1,St p.2] false TP 0)):=(ag.refl _ _).push _
 have h1:(M.push (.row [St p.1,St p.2] false TP 0)).heap M.next=some (.row [St p.1,St p.2] false TP 0):=RM.aV _
 have n1:(M.push (.row [St p.1,St p.2] false TP 0)).next=M.next + 1:=bZ _
 generalize M.push (.row [St p.1,St p.2] false TP 0)=M1 at *
 rw[aG]
 have k2:ag [] M1 (M1.push (.row [St [],St [],aJ,St [],N .i64 0] false TL 0)):=(ag.refl _ _).push _
 have h2:(M1.push (.row [St [],St [],aJ,St [],N .i64 0] false TL 0)).heap M1.next=some (.row [St [],St [],aJ,St [],N .i64 0] false TL 0):=RM.aV _
 have n2:(M1.push (.row [St [],St [],aJ,St [],N .i64 0] false TL 0)).next=M1.next + 1:=bZ _
 generalize M1.push (.row [St [],St [],aJ,St [],N .i64 0] false TL 0)=M2 at *
 have k02:=k1.trans k2
 rw[aP (n:=2) (k2.ay h1 (by omega) (by simp)) rfl]
 refine hl (p:=p) (k02.base.trans hM) hp1 hp2 fun M3 cs k3 hrel=>?_
 have h23:=k3.ay h2 (by omega) (by simp)
 have n3:=k3.next
 rw[cO,df,iO,aG]
 obtain⟨v,rfl,hv,hall,_⟩:=vZ hrel
 refine zv (b:=0) 5 rfl rfl _ rfl hall rfl fun M4 k4 n4 h4=>?_
 have h24:=k4.ay h23 (by omega) (by simp)
 have k04:=(k02.trans k3).trans k4
 rw[bX]
 cases hok:(fV p).2.2 with
 | false =>
   rw[hok] at hQ
   rw[Bool.not_false,bC,gN]
   refine⟨_,rfl, ?_⟩
   rw[bY (n:=5) (x:=.agg [St [],St [],aJ,St [],N .i64 0]) h24 rfl rfl rfl,aP (n:=5) (aB _) rfl]
   exact hQ _ _ (k04.put _ (.inl (by omega))) ⟨aJ,rfl,cB.nil⟩
 | true =>
   rw[hok] at hQ
   rw[Bool.not_true,bq,aP (n:=5) h4 rfl,bY (n:=5) (x:=.agg [St (fV p).1.g,St (fV p).1.n,v,St (fV p).1.v,N .i64 0]) h24 rfl rfl hall,aP (n:=5) (aB _) rfl]
   refine hQ _ _ (k04.put _ (.inl (by omega))) ⟨v,rfl, ?_⟩
   refine((hv.keep k4 (by simp)).keep (bs:=[M1.next]) ((ag.refl _ _).put _ (.inr (by simp))) fun b hb h=>?_).mono fun b hb=>by omega
   simp at hb; omega
def Oh (B:Base) (c:au) : Prop:=∀ {M:RM} {p:Fd} {Q:ak},M.base=B→p.1.length≤10000000→p.2.length≤10000000→(∀ M',ag [] M M'→Q (Bo (Gn p)) M')→c [oP p] M Q
theorem Lf {i j:Nat} {K:AV→Prop} : af .leq (N .i64 (i:Int)) (N .i64 (j:Int)) K=K (Bo (decide (i≤j))):=by rw[il,show decide ((i:Int)≤(j:Int))=decide (i≤j) by simp]
theorem E8 {B:Base} {TP TL:Nat} {cl:au} (hl:Ko B cl) : Oh B fun args M Q=>∃ a0,args=[a0]∧yZ TP cl TL a0 M Q:=by
 intro M p Q hM hp1 hp2 hQ
 refine⟨_,rfl, ?_⟩
 unfold yZ oP
 simp only[dN]
 rw[fU (cs:=[St p.1,St p.2]) rfl (by simp),aG]
 have k1:ag [] M (M.push (.row [St p.1,St p.2] false TP 0)):=(ag.refl _ _).push _
 have h1:(M.push (.row [St p.1,St p.2] false TP 0)).heap M.next=some (.row [St p.1,St p.2] false TP 0):=RM.aV _
 have n1:(M.push (.row [St p.1,St p.2] false TP 0)).next=M.next + 1:=bZ _
 generalize M.push (.row [St p.1,St p.2] false TP 0)=M1 at *
 rw[aP (n:=2) h1 rfl]
 refine hl (p:=p) (k1.base.trans hM) hp1 hp2 fun M3 cs k3 hrel=>?_
 rw[cO,df,aG]
 obtain⟨v,rfl,hv,hall,_⟩:=vZ hrel
 refine zv (b:=0) 5 rfl rfl _ rfl hall rfl fun M4 k4 n4 h4=>?_
 have h14:=(k3.trans k4).ay h1 (by omega) (by simp)
 have k04:=(k1.trans k3).trans k4
 rw[bH]
 have e:(((if (fV p).2.2=true then(0:Int) else 1)) == 0)=(fV p).2.2:=by cases(fV p).2.2 <;> rfl
 rw[e]
 refine qw (p:=decide (p.1.length≤64)) (fun hc kk hk=>?_) ?_
 ·rw[aT,aA h14 rfl,bi,show(N .i64 (64:Int))=N .i64 ((64:Nat) : Int) from rfl,Lf]; exact hk
 refine qw (p:=decide (p.2.length≤512)) (fun hc kk hk=>?_) ?_
 ·rw[aT,aA h14 rfl,bi,show(N .i64 (512:Int))=N .i64 ((512:Nat) : Int) from rfl,Lf]; exact hk
 exact hQ _ k04
theorem Ni (ns:List Str) (n x:Str) : fE (ns++[n]) x=if x=n then fE ns n + 1 else fE ns x:=by
 unfold fE
 rw[List.countP_append,List.countP_singleton]
 by_cases h:x=n
 ·subst h; simp
 ·have h' : ¬ n=x:=fun e=>h e.symm
  rw[if_neg h,if_neg (by simpa using h')]; rfl
theorem Su (ns:List Str) (n:Str) : fE ns n≤ns.length:=List.countP_le_length
def YE (B:Base) (c:au) : Prop:=∀ {M:RM} {v:AV} {xs:List Fd} {ct:Str} {k:Int} {Q:ak},M.base=B→Sl mQ M v xs→xs.length≤1000000→(∀ p∈xs,p.1.length≤10000000∧p.2.length≤10000000) →
 (∀ M',ag [] M M'→Q (match U4 xs with | some s=>.tup [St s,N .i64 0] | none=>.tup [St [],N .i64 1]) M')→c [.agg [St ct,v,N .i64 k]] M Q
theorem aaU {p:Fd} (h:(fV p).2.2=true) : kJ (fV p).1 (fV p).2.1=(p,true):=by
 have e:(fV p).2.2=((Ha (if decide (p.1.take 4=iZ) then p.1.drop 4 else p.1)).2.2 && (kJ (fV p).1 (fV p).2.1).2 && decide ((kJ (fV p).1 (fV p).2.1).1=p)):=rfl
 rw[e] at h
 obtain⟨h1,h2⟩:=(Bool.and_eq_true ..).mp h
 obtain⟨_,h3⟩:=(Bool.and_eq_true ..).mp h1
 exact Prod.ext (of_decide_eq_true h2) h3
theorem Zq {L:Ln} {k:Int} {p:Fd} (h:kJ L k=(p,true)) : (kH eG L).2=0∧L.g≠jL∧uL L.n=false∧0≤k∧p=(iC (bS L).1 k,(bS L).2):=by
 unfold kJ at h
 split at h
 ·rename_i hc
  injection h with h1 h2
  exact⟨hc.1,hc.2.1,hc.2.2.1,hc.2.2.2,h1.symm⟩
 ·injection h with h1 h2
  cases h2
theorem ZJ {B:Base} {TC TP TL:Nat} {cl cg cp cr:au} (hl:OA B cl) (hg:Oh B cg) (hp:Jo B cp) (hr:Kb B (kH eG) cr) : YE B fun args M Q=>∃ a0,args=[a0]∧sZ TC TP cl TL cg cp cr a0 M Q:=by
 intro M v xs ct k Q hM hv hlen hps hQ
 refine⟨_,rfl, ?_⟩
 unfold sZ
 simp only[dN]
 have hall:([St ct,v,N .i64 k] : List AV).all oneCell=true:=by simp[eu,dE.one hv]
 rw[fU hall (by simp),aG]
 have k1:ag [] M (M.push (.row [St ct,v,N .i64 k] false TC 0)):=(ag.refl _ _).push _
 have h1:(M.push (.row [St ct,v,N .i64 k] false TC 0)).heap M.next=some (.row [St ct,v,N .i64 k] false TC 0):=RM.aV _
 have n1:(M.push (.row [St ct,v,N .i64 k] false TC 0)).next=M.next + 1:=bZ _
 generalize M.push (.row [St ct,v,N .i64 k] false TC 0)=M1 at *
 rw[aG]
 have k2:ag [] M1 (M1.push (.map [] 0)):=(ag.refl _ _).push _
 have c2:=mF.new M1
 have n2:(M1.push (.map [] 0)).next=M1.next + 1:=bZ _
 generalize M1.push (.map [] 0)=M2 at *
 have k02:=k1.trans k2
 have hv2:=dE.keep hv k02 (by simp)
 rw[aT,aA (k2.ay h1 (by omega) (by simp)) rfl,dE.len hv2]
 refine aI (fun m ys M3=>∃ (i:Nat) (acc:Str) (ns:List Str),m=xs.length - i∧ys=[St acc,N .i64 (i:Int)]∧i≤xs.length∧ag [] M M3∧M1.next<M3.next∧mF M3 M1.next (fE ns)∧ns.length=i∧acc.length≤26 + 4000 * i∧JO (xs.drop i) ns acc=U4 xs) _
  ⟨0,Z8,[],rfl,rfl,Nat.zero_le _,k02,by omega,c2,rfl,by simp,rfl⟩ ?_
 rintro next m ys M3 hnext ⟨i,acc,ns,rfl,rfl,hi,k3,n3,c3,hns,hacc,he⟩
 dsimp only[ae]
 have hv3:=dE.keep hv k3 (by simp)
 have hM3:M3.base=B:=k3.base.trans hM
 rw[gQ]
 refine aN (fun h=>?_) (fun h=>?_)
 ·have h:i<xs.length:=of_decide_eq_true h
  have hm:=hps _ (List.getElem_mem h)
  rw[Oz hv3 h,aG]
  rw[List.drop_eq_getElem_cons h,JO] at he
  generalize xs[i]=p at *
  refine zv (b:=0) 2 rfl rfl _ rfl rfl rfl fun M4 k4 n4 h4=>?_
  rw[aP (n:=2) h4 rfl]
  refine hl (p:=p) (k4.base.trans hM3) hm.1 hm.2 fun M5 cs k5 hrel=>?_
  rw[cO,df,iO,aG]
  obtain⟨w,rfl,hw,adL,_⟩:=vZ hrel
  refine zv (b:=0) 5 rfl rfl _ rfl adL rfl fun M6 k6 n6 h6=>?_
  have n5:=k5.next
  have k46:=k5.trans k6
  have h46:=k46.ay h4 (by omega) (by simp)
  have k36:ag [] M3 M6:=k4.trans k46
  have c6:mF M6 M1.next (fE ns):=c3.keep k36 (by simp)
  have hw6:=hw.keep k6 (by simp)
  rw[bX]
  refine U8 (P:=fun M'=>ag [] M6 M') (p:=!Gn p) (ag.refl _ _) (fun hc kk hk=>?_) fun M7 k7=>?_
  ·rw[aP (n:=2) h46 rfl]
   refine hg (p:=p) (k36.base.trans hM3) hm.1 hm.2 fun M7 k7=>?_
   rw[bX]
   exact hk _ k7
  refine aN (fun hb=>?_) (fun hb=>?_)
  ·have hb:Gn p=false:=by
    simp only[Bool.or_eq_true,Bool.not_eq_true'] at hb
    rcases hb with hb | hb
    ·unfold Gn; rw[hb]; rfl
    ·exact hb
   rw[if_pos hb] at he
   rw[← he] at hQ
   exact hQ _ ((k3.trans k36).trans k7)
  ·simp only[Bool.or_eq_false_iff,Bool.not_eq_false'] at hb
   have hgd:=hb.2
   rw[if_neg (by rw[hgd]; simp)] at he
   have hfo:=Zq (aaU hb.1)
   have hpr:=Hg hfo.1
   have hsz:=Sc hpr.2.1
   have hLB:LB 1000000 (fV p).1:=(hsz.mono (by omega)).lb
   have afe:=hsz.nam
   generalize fV p=lf at *
   obtain⟨L,j,ok⟩:=lf
   dsimp only at *
   have h67:=k7.ay h6 (by omega) (by simp)
   have k37:=k36.trans k7
   have n7:=k7.next
   rw[aP (n:=5) h67 rfl]
   refine hp (k37.base.trans hM3) (jo (hw6.keep k7 (by simp))) hLB (by omega) fun M8 k8=>?_
   have c8:=(c6.keep k7 (by simp)).keep k8 (by simp)
   have n8:=k8.next
   rw[oP,WS]
   refine⟨St (bS L).1,rfl, ?_⟩
   refine c8.look ?_
   rw[di]
   refine aN (fun hb=>?_) (fun hb=>?_)
   ·have hb:(fE ns (bS L).1:Int)≠j:=by simpa using hb
    rw[if_pos hb] at he
    rw[← he] at hQ
    exact hQ _ ((k3.trans k37).trans k8)
   ·have hb:(fE ns (bS L).1:Int)=j:=by simpa using hb
    rw[if_neg (fun h=>h hb)] at he
    refine c8.look ?_
    have hcl:=Su ns (bS L).1
    rw[add1 (by omega)]
    refine c8.upd fun M9 c9 k9 n9=>?_
    have k09:ag [] M M9:=((k3.trans k37).trans k8).dH k9 fun c hc=>.inl (by simp at hc; have:=k1.next; omega)
    have c9' : mF M9 M1.next (fE (ns++[(bS L).1])):=by
     have:fE (ns++[(bS L).1])=fun x=>if x=(bS L).1 then fE ns (bS L).1 + 1 else fE ns x:=funext fun x=>Ni ns _ x
     rw[this]; exact c9
    have h69:=k9.ay (k8.ay h67 (by omega) (by simp)) (by omega) (by simp; omega)
    rw[aP (n:=5) h69 rfl]
    have hw9:cB iI M9 w L.ps (fun b=>M4.next≤b):=((hw6.keep k7 (by simp)).keep k8 (by simp)).keep k9 fun b hb h=>by simp at hb; omega
    refine hr (k09.base.trans hM) (jo hw9) (Ja hLB) (by omega) fun Ma ka=>?_
    have na:=ka.next
    rw[cO,df,hfo.1,afQ,bq,bI]
    have hfl:=aaq (lD L)
    have hpl:(kH eG L).1.length≤4000:=by rw[hpr.2.2]; simp; omega
    refine⟨by omega, ?_⟩
    rw[add1 (by omega)]
    exact hnext _ _ _ (by omega) ⟨i + 1,_,ns++[(bS L).1],rfl,rfl,by omega,k09.trans ka,by omega,c9'.keep ka (by simp),by simp[hns],by simp; omega,he⟩
 ·have h:¬ i<xs.length:=of_decide_eq_false h
  rw[List.drop_eq_nil_of_le (by omega),JO] at he
  rw[← he] at hQ
  rw[bI]
  refine⟨by simp; omega, ?_⟩
  exact hQ _ k3
abbrev Li:=Ln × Int
theorem qp {M:RM} {v:AV} {ls:List Li} {S:Nat→Prop} (h:cB gq M v ls S) {i:Nat} (hi:i<ls.length) :
  ∃ w,cB iI M w ls[i].1.ps S∧(∀ K:AV→Prop,(aM v (N .i64 (i:Int)) 5 fun p=>aL M p 5 K)=K (.agg [St ls[i].1.g,St ls[i].1.n,w,St ls[i].1.v,N .i64 ls[i].2])) ∧
    (∀ K:AV→Prop,(aM v (N .i64 (i:Int)) 5 fun p=>aF p 0 fun q=>ah M q K)=K (St ls[i].1.g)) ∧
    (∀ K:AV→Prop,(aM v (N .i64 (i:Int)) 5 fun p=>aF p 1 fun q=>ah M q K)=K (St ls[i].1.n)) ∧
    (∀ K:AV→Prop,(aM v (N .i64 (i:Int)) 5 fun p=>aF p 3 fun q=>ah M q K)=K (St ls[i].1.v)) ∧
    (∀ K:AV→Prop,(aM v (N .i64 (i:Int)) 5 fun p=>aF p 4 fun q=>ah M q K)=K (N .i64 ls[i].2)):=by
 obtain⟨b,o,cs,hb,hbm,hidx,hld,w,rfl,hw⟩:=cB.at h 5 (i:Int) hi
 have c0:M.cell b (o + 0)=some (St ls[i].1.g):=dU hld (j:=0) rfl
 have c1:M.cell b (o + 1)=some (St ls[i].1.n):=dU hld (j:=1) rfl
 have c3:M.cell b (o + 3)=some (St ls[i].1.v):=dU hld (j:=3) rfl
 have c4:M.cell b (o + 4)=some (N .i64 ls[i].2):=dU hld (j:=4) rfl
 refine⟨w,hw,fun K=>?_,fun K=>?_,fun K=>?_,fun K=>?_,fun K=>?_⟩
 ·rw[hidx,uF,hld]; simp
 ·rw[hidx,dM,bT,c0]; simp
 ·rw[hidx,dM,bT,c1]; simp
 ·rw[hidx,dM,bT,c3]; simp
 ·rw[hidx,dM,bT,c4]; simp
theorem sj {b:Int} : ∀ (l acc c r:List Li),gT b l acc=.ok (c,r)→r.length + 1≤l.length
 | [],_,_,_,h=>by cases h
 | x :: l,acc,c,r,h=>by
   rw[gT] at h
   split at h
   ·cases h; simp
   ·split at h
    ·cases h
    ·have:=sj l _ c r h; simp; omega
theorem kg (k:Nat) (x:Li) (r:List Li) (acc:List (List Li)) : ni (k + 1) (x :: r) acc=if dP x.1 kM=false then .error x.2 else match r with
  | []=>.error x.2
  | y :: r=>if dP y.1 dB=false then .error y.2 else match gT x.2 r [x] with
    | .error e=>.error e
    | .ok (c,r')=>ni k r' (acc++[c]):=by cases r <;> rfl
theorem FR:∀ (n:Nat) (l:List Li) (acc:List (List Li)) (k k' : Nat),l.length≤n→l.length<k→l.length<k'→ni k l acc=ni k' l acc
 | n,l,acc,k,k',hn,h1,h2=>by
   obtain⟨i,rfl⟩ : ∃ i,k=i + 1:=⟨k - 1,by omega⟩
   obtain⟨j,rfl⟩ : ∃ j,k'=j + 1:=⟨k' - 1,by omega⟩
   cases l with
   | nil=>rfl
   | cons x r =>
     rw[kg,kg]
     split
     ·rfl
     ·cases r with
      | nil=>rfl
      | cons y r =>
        dsimp only
        split
        ·rfl
        ·cases hb:gT x.2 r [x] with
         | error e=>rfl
         | ok p =>
           obtain⟨c,r'⟩:=p
           have:=sj _ _ _ _ hb
           simp only[List.length_cons] at hn h1 h2
           dsimp only
           cases n with
           | zero=>omega
           | succ n=>exact FR n r' _ i j (by omega) (by omega) (by omega)
def qW {α:Type} (R:lG α) (M:RM) (base T:Nat) (v:AV) (xs:List α) (S:Nat→Prop) : Prop :=
 eX R M base T v xs S∨∃ b cs,v=.slc b 0 xs.length (.ex xs.length)∧base≤b∧b<M.next∧M.heap b=some (.row cs false T 0)∧fw R M S cs xs
section
variable {α:Type} {R:lG α} {M M' : RM} {base T:Nat} {v:AV} {xs:List α} {S S' : Nat→Prop} {a:α} {cs:List AV}
theorem qW.blk (h:qW R M base T v xs S) : ∀ b∈aH v,base≤b∧b<M.next:=by
 rcases h with h | ⟨b,cs,rfl,h1,h2,_⟩
 ·exact h.blk
 ·intro c hc; simp[aH] at hc; subst hc; exact⟨h1,h2⟩
theorem qW.keep {bs:List Nat} (h:qW R M base T v xs S) (hk:ag bs M M') (hb:∀ b∈bs,¬ S b) (hv:∀ b∈aH v,b ∉ bs) : qW R M' base T v xs S:=by
 rcases h with h | ⟨b,cs,rfl,h1,h2,h3,h4⟩
 ·exact .inl (h.keep hk hb hv)
 ·exact .inr ⟨b,cs,rfl,h1,Nat.lt_of_lt_of_le h2 hk.next,hk.ay h3 h2 (hv b (by simp[aH])),h4.keep hk hb⟩
theorem qW.mono (h:qW R M base T v xs S) (hs:∀ b,S b→S' b) : qW R M base T v xs S':=by
 rcases h with h | ⟨b,cs,rfl,h1,h2,h3,h4⟩
 ·exact .inl (h.mono hs)
 ·exact .inr ⟨b,cs,rfl,h1,h2,h3,h4.mono hs⟩
theorem qW.zL (h:qW R M base T v xs S) (hs:∀ b,base≤b→b<M.next→S b) : cB R M v xs S:=by
 rcases h with h | ⟨b,cs,rfl,h1,h2,h3,h4⟩
 ·exact h.zL hs
 ·refine⟨cs,.slc _ _ _ _ _ h2 ?_,fun c hc=>by simp[aH] at hc; subst hc; exact hs _ h1 h2,h4⟩
  rw[RM.jE h3 (by rw[h4.len]; omega),List.drop_zero,← h4.len,List.take_length]
theorem qW.one (h:qW R M base T v xs S) : oneCell v=true:=by
 rcases h with h | ⟨b,cs,rfl,_⟩
 ·exact h.one
 ·rfl
theorem qW.app {bytes:Nat} {zs:List AV} {K:ak} (ho:qW R M base T v xs S) (ha:R.rel M cs a S) (hb:base≤M.next) (hs:1≤R.size)
  (hd:∀ b∈aH v,¬ S b) (hS:∀ b,S b→b<M.next) (hn:(xs.length + 1) * bytes≤140737488355328) (hn2:xs.length + 1≤140737488355328)
  (hK:∀ v' M',qW R M' base T v' (xs++[a]) S→ag (aH v) M M'→M.next≤M'.next→(∀ b∈aH v',¬ S b)→K v' M') :
  appW T R.size bytes zs false v (.slc M.next 0 1 (.ex 1)) (M.push (.row cs false T 0)) K:=by
 rcases ho with ho | ⟨b,ds,rfl,h1,h2,h3,h4⟩
 ·exact ho.app ha hb hs hd hS hn hn2 fun v' M' h1 h2 h3 _ h5=>hK v' M' (.inl h1) h2 h3 h5
 ·have hk:ag [] M (M.push (.row cs false T 0)):=(ag.refl _ _).push _
  have hl:=R.len ha
  have hl4:=h4.len
  have hnl:kQ (M.push (.row cs false T 0)) R.size zs false (.slc M.next 0 1 (.ex 1))=some (1,cs):=by
   simp only[kQ,Nat.one_mul]
   rw[RM.jE (RM.aV _) (by omega),List.drop_zero,← hl,List.take_length]
  have hld:(M.push (.row cs false T 0)).loads b 0 (xs.length * R.size)=some ds:=by
   rw[RM.jE (kT h3 h2) (by omega),List.drop_zero,← hl4,List.take_length]
  have hone:(ds++cs).all oneCell=true:=by rw[List.all_append,h4.one,R.one ha]; rfl
  have hb1:1 * bytes≤140737488355328:=Nat.le_trans (Nat.mul_le_mul_right _ (by omega)) hn
  refine⟨1,cs,hnl,hb1,by omega, ?_⟩
  refine⟨.slc (M.next + 1) 0 (xs.length + 1) (.op R.size),(M.push (.row cs false T 0)).push (.row (ds++cs) true T 0), ?_,hK _ _ (.inl ⟨ds++cs, ?_, ?_⟩) ((hk.mono (by simp)).trans ((ag.refl _ _).push _)) (by simp[RM.push]; omega) ?_⟩
  ·simp only[uK,if_neg (show ¬ (1=0) by decide),if_neg (show ¬ xs.length + 1≤xs.length by omega),hld]
   rw[if_pos ⟨by omega,by omega,hone⟩]; rfl
  ·rw[List.length_append,List.length_singleton]
   exact .op _ _ _ (by show base≤M.next + 1; omega) (by simp[RM.push]) (RM.aV _) (by rw[List.length_append,hl4,hl,Nat.add_mul,Nat.one_mul])
  ·exact((h4.keep hk (by simp)).keep (bs:=[]) ((ag.refl _ _).push _) (by simp)).append (fw.single ((R.keep ha hk (by simp)) |> fun h=>R.keep h (bs:=[]) ((ag.refl _ _).push _) (by simp)))
  ·intro c hc h
   simp[aH] at hc
   have:=hS c h; omega
end
def OX (size:Nat) : AV→Prop
 | .slc _ _ n (.ex c)=>n≤c
 | .slc _ _ _ (.op e)=>e=size
 | _=>True
theorem eX.YQ {α:Type} {R:lG α} {M:RM} {base T:Nat} {v:AV} {xs:List α} {S:Nat→Prop} (h:eX R M base T v xs S) : OX R.size v:=by
 obtain⟨cs,h,_⟩:=h
 generalize xs.length=n at h
 cases h with
 | nil=>trivial
 | ex0=>exact Nat.le_refl 0
 | op=>rfl
theorem qW.YQ {α:Type} {R:lG α} {M:RM} {base T:Nat} {v:AV} {xs:List α} {S:Nat→Prop} (h:qW R M base T v xs S) : OX R.size v:=by
 rcases h with h | ⟨b,cs,rfl,_⟩
 ·exact eX.YQ h
 ·exact Nat.le_refl _
def Oj:lG (List Li) where
 size:=1
 rel M cs xs S:=∃ v,cs=[v]∧cB gq M v xs S∧OX 5 v
 len h:=by obtain⟨v,rfl,_⟩:=h; rfl
 one h:=by obtain⟨v,rfl,h,_⟩:=h; simp[h.one]
 mono h hs:=by obtain⟨v,rfl,h,hc⟩:=h; exact⟨v,rfl,h.mono hs,hc⟩
 lt h:=by obtain⟨v,rfl,h,hc⟩:=h; exact⟨v,rfl,h.lt,hc⟩
 keep h hk hb:=by obtain⟨v,rfl,h,hc⟩:=h; exact⟨v,rfl,h.keep hk hb,hc⟩
def qm (ls:List Li) : Except Int (List (List Li)):=ni (ls.length + 1) ls []
theorem XR (x:Li) (r:List Li) (acc:List (List Li)) (he:dP x.1 kM=true) (hv:∀ y r',r=y :: r'→dP y.1 dB=true) :
  ni ((x :: r).length + 1) (x :: r) acc=match gT x.2 (r.drop 1) [x] with | .error e=>.error e | .ok (c,r')=>ni (r'.length + 1) r' (acc++[c]):=by
 rw[kg,if_neg (by rw[he]; simp)]
 cases r with
 | nil=>rfl
 | cons y r =>
   dsimp only
   rw[if_neg (by rw[hv y r rfl]; simp),List.drop_one,List.tail_cons]
   cases hb:gT x.2 r [x] with
   | error e=>rfl
   | ok p =>
     obtain⟨c,r'⟩:=p
     have:=sj _ _ _ _ hb
     exact FR r'.length r' _ _ _ (Nat.le_refl _) (by simp; omega) (by omega)
def A9 (B:Base) (c:au) : Prop:=∀ {M:RM} {v:AV} {ls:List Li} {S:Nat→Prop} {Q:ak},M.base=B→cB gq M v ls S→ls.length≤200000→(∀ x∈ls,LB 1000000 x.1) →
 (∀ M' w css,ag [] M M'→qm ls=.ok css→cB Oj M' w css (fun b=>M.next≤b∨S b)→css.length≤ls.length→Q (.tup [w,N .i64 0]) M') →
 (∀ M' k,ag [] M M'→qm ls=.error k→Q (.tup [aJ,N .i64 k]) M')→c [v] M Q
theorem H8 {B:Base} {TL TS:Nat} {ce cr:au} (he:Qc B ce) (hr:Oq cr) : A9 B fun args M Q=>∃ a0,args=[a0]∧AB TL ce cr TS a0 M Q:=by
 intro M v ls S Q hM hv0 hlen hLB hO hE
 refine⟨_,rfl, ?_⟩
 unfold AB
 simp only[dN]
 have hv:=hv0.lt
 refine aI (fun m ys M1=>∃ (i:Nat) (w:AV) (acc:List (List Li)),m=ls.length - i∧ys=[w,N .i64 (i:Int)]∧i≤ls.length∧acc.length≤i∧ag [] M M1 ∧
   eX Oj M1 M.next TS w acc (fun b=>((M.next≤b∧b ∉ aH w)∨(S b∧b<M.next))∧b<M1.next)∧ni ((ls.drop i).length + 1) (ls.drop i) acc=qm ls) _
  ⟨0,aJ,[],rfl,rfl,Nat.zero_le _,Nat.le_refl _,ag.refl _ _,.nil,rfl⟩ ?_
 rintro next m ys M1 hnext ⟨i,w,acc,rfl,rfl,hi,hacc,k1,ho,hp⟩
 dsimp only[ae]
 have hM1:M1.base=B:=k1.base.trans hM
 have hv1:=hv.keep k1 (by simp)
 have hwb:=ho.blk
 rw[hv1.len,gQ]
 refine aN (fun h=>?_) (fun h=>?_)
 rotate_left 1
 ·have h:¬ i<ls.length:=of_decide_eq_false h
  rw[List.drop_eq_nil_of_le (by omega)] at hp
  refine hO M1 w acc k1 hp.symm ?_ (by omega)
  exact(ho.mono (fun b h=>(h.1.imp And.left And.left:M.next≤b∨S b))).zL fun b hb _=>.inl hb
 have h:i<ls.length:=of_decide_eq_true h
 obtain⟨pw,hpw,hq,_,_,_,hq4⟩:=qp hv1 h
 have hL:=hLB _ (List.getElem_mem h)
 rw[hq,aG]
 rw[List.drop_eq_getElem_cons h] at hp
 generalize hx:ls[i]=x at *
 have hall:([St x.1.g,St x.1.n,pw,St x.1.v,N .i64 x.2] : List AV).all oneCell=true:=by simp[eu,hpw.one]
 refine zv (b:=0) 5 rfl rfl _ rfl hall rfl fun M2 k2 n2 h2=>?_
 rw[aP (n:=5) h2 rfl]
 have n1:=k1.next
 refine he (k2.base.trans hM1) (jo (k:=x.2) (hpw.keep k2 (by simp))) (Ja hL) fun M3 k3=>?_
 have h3:=k3.ay h2 (by omega) (by simp)
 have n3:=k3.next
 rw[bX]
 refine aN (fun hb=>?_) (fun hb=>?_)
 ·have hb:dP x.1 kM=false:=by simpa using hb
  rw[kg,if_pos hb] at hp
  rw[aT,aA h3 rfl]
  exact hE _ _ ((k1.trans k2).trans k3) hp.symm
 have hb:dP x.1 kM=true:=by simpa using hb
 have k13:=k2.trans k3
 rw[aP (n:=5) h3 rfl,gD (x:=.agg [St x.1.g,St x.1.n,pw,St x.1.v,N .i64 x.2]) (size:=5) rfl hall rfl,aG]
 -- the row of the card begun
 have k4:ag [] M3 (M3.push (.row (AV.agg [St x.1.g,St x.1.n,pw,St x.1.v,N .i64 x.2]).cells false TL 0)):=(ag.refl _ _).push _
 have o4:qW gq (M3.push (.row (AV.agg [St x.1.g,St x.1.n,pw,St x.1.v,N .i64 x.2]).cells false TL 0)) M3.next TL (.slc M3.next 0 1 (.ex 1)) [x] (fun b=>S b∧b<M.next) :=
  .inr ⟨M3.next,_,rfl,Nat.le_refl _,Nat.lt_succ_self _,RM.aV _,fw.single (R:=gq) ⟨pw,rfl,(hpw.keep k13 (by simp)).keep k4 (by simp)⟩⟩
 have n4:(M3.push (.row (AV.agg [St x.1.g,St x.1.n,pw,St x.1.v,N .i64 x.2]).cells false TL 0)).next=M3.next + 1:=rfl
 generalize M3.push (.row (AV.agg [St x.1.g,St x.1.n,pw,St x.1.v,N .i64 x.2]).cells false TL 0)=M4 at *
 have k14:ag [] M1 M4:=k13.trans k4
 have h4:=k4.ay h3 (by omega) (by simp)
 have hv4:=hv1.keep k14 (by simp)
 rw[add1 (by omega),hv4.len,gQ]
 refine Ol (P:=fun M'=>ag [] M4 M') (p:=!(ls[i+1]?.map fun y=>dP y.1 dB).getD true) (ag.refl _ _) (fun hc kk hk=>?_) fun M5 k5=>?_
 ·have hc:i + 1<ls.length:=of_decide_eq_true hc
  obtain⟨pw2,LX,hq2,_⟩:=qp hv4 hc
  rw[hq2]
  refine he (k14.base.trans hM1) (jo (k:=ls[i+1].2) LX) (Ja (hLB _ (List.getElem_mem hc))) fun M5 k5=>?_
  rw[bX]
  refine hk M5 k5 |> fun h=>?_
  rw[List.getElem?_eq_getElem hc] at h
  exact h
 have n5:=k5.next
 have k15:=k14.trans k5
 have hv5:=hv1.keep k15 (by simp)
 refine aN (fun hc=>?_) (fun hc=>?_)
 ·simp only[Bool.and_eq_true] at hc
  obtain⟨hc1,hc2⟩:=hc
  have hc1:i + 1<ls.length:=of_decide_eq_true hc1
  rw[List.getElem?_eq_getElem hc1] at hc2
  have hc2:dP ls[i+1].1 dB=false:=by simpa using hc2
  obtain⟨_,_,_,_,_,_,Yl⟩:=qp hv5 hc1
  rw[Yl]
  rw[List.drop_eq_getElem_cons hc1,kg,if_neg (by rw[hb]; simp)] at hp
  dsimp only at hp
  rw[if_pos hc2] at hp
  exact hE _ _ (k1.trans k15) hp.symm
 have aeH:∀ y r',ls.drop (i + 1)=y :: r'→dP y.1 dB=true:=by
  intro y r' hy
  have hlt:i + 1<ls.length:=by
   rcases Nat.lt_or_ge (i + 1) ls.length with h | h
   ·exact h
   ·rw[List.drop_eq_nil_of_le h] at hy; cases hy
  rw[List.drop_eq_getElem_cons hlt] at hy
  cases hy
  rw[List.getElem?_eq_getElem hlt,decide_eq_true hlt,Bool.true_and] at hc
  simpa using hc
 rw[XR x _ acc hb aeH,List.drop_drop] at hp
 rw[show i + 1 + 1=i + 2 by omega] at hp
 rw[add1 (by omega)]
 -- the lines of the card
 generalize hR:gT x.2 (ls.drop (i + 2)) [x]=R at *
 have o5:=o4.keep k5 (by simp) (by simp)
 have h5:=k5.ay h4 (by omega) (by simp)
 have ho5:=ho.keep k15 (by simp) (by simp)
 refine aI (fun m zs M6=>∃ (j:Nat) (c:AV) (Ff:List Li),m=ls.length + 1 - j∧zs=[w,N .i64 (j:Int),c]∧i + 2≤j∧j≤ls.length + 1∧Ff.length≤j∧ag [] M1 M6∧M4.next≤M6.next ∧
   M6.heap M1.next=some (.row [St x.1.g,St x.1.n,pw,St x.1.v,N .i64 x.2] false TL 0)∧qW gq M6 M3.next TL c Ff (fun b=>S b∧b<M.next)∧gT x.2 (ls.drop j) Ff=R) _
  ⟨i + 2,_,[x],rfl,rfl,Nat.le_refl _,by omega,by simp,k15,by omega,h5,o5,hR⟩ ?_
 rintro pJ m zs M6 gm ⟨j,c,Ff,rfl,rfl,hj1,hj2,hcl,k6,n6,h6,oc,hp2⟩
 dsimp only[ae]
 have hv6:=hv1.keep k6 (by simp)
 have hM6:M6.base=B:=k6.base.trans hM1
 rw[hv6.len,gQ]
 refine Ol (P:=fun M'=>ag [] M6 M') (p:=!(ls[j]?.map fun y=>dP y.1 rQ).getD true) (ag.refl _ _) (fun hc kk hk=>?_) fun M7 k7=>?_
 ·have hc:j<ls.length:=of_decide_eq_true hc
  obtain⟨pw2,LX,hq2,_⟩:=qp hv6 hc
  rw[hq2]
  refine he hM6 (jo (k:=ls[j].2) LX) (Ja (hLB _ (List.getElem_mem hc))) fun M7 k7=>?_
  rw[bX]
  refine hk M7 k7 |> fun h=>?_
  rw[List.getElem?_eq_getElem hc] at h
  exact h
 have n7:=k7.next
 have k17:=k6.trans k7
 have hv7:=hv1.keep k17 (by simp)
 have oc7:=oc.keep k7 (by simp) (by simp)
 have hcb:=oc7.blk
 have h7:=k7.ay h6 (by omega) (by simp)
 refine aN (fun hc=>?_) (fun hc=>?_)
 ·simp only[Bool.and_eq_true] at hc
  obtain⟨hc1,hc2⟩:=hc
  have hc1:j<ls.length:=of_decide_eq_true hc1
  rw[List.getElem?_eq_getElem hc1] at hc2
  have hc2:dP ls[j].1 rQ=false:=by simpa using hc2
  obtain⟨pw2,LX,hq2,aeR,aeP,_,Yl⟩:=qp hv7 hc1
  rw[List.drop_eq_getElem_cons hc1,gT,if_neg (by rw[hc2]; simp)] at hp2
  have hLj:=hLB _ (List.getElem_mem hc1)
  rw[aeP]
  generalize hy:ls[j]=y at *
  refine hr ?_
  refine jF (p:=y.1.g == jL) (fun hc kk hk=>?_) ?_
  ·rw[aeR,dm]; exact hk
  have eg:(y.1.g == jL)=decide (y.1.g=jL):=by by_cases h:y.1.g=jL <;> simp[h]
  rw[eg]
  refine aN (fun hd=>?_) (fun hd=>?_)
  ·rw[if_pos hd] at hp2
   rw[Yl]
   rw[← hp2] at hp
   exact hE _ _ (k1.trans k17) hp.symm
  ·rw[if_neg (by rw[hd]; simp)] at hp2
   rw[hq2,gD (x:=.agg [St y.1.g,St y.1.n,pw2,St y.1.v,N .i64 y.2]) (size:=5) rfl (by show([St y.1.g,St y.1.n,pw2,St y.1.v,N .i64 y.2] : List AV).all oneCell=true; simp[eu,LX.one]) rfl,aG]
   refine qW.app (R:=gq) (a:=y) oc7 ⟨pw2,rfl,LX⟩ (by omega) (by decide) (fun b hb h=>by have:=(hcb b hb).1; omega) (fun b h=>by omega) (by omega) (by omega) ?_
   intro c' M8 o8 k8 n8 _
   rw[add1 (by omega)]
   have k18:ag [] M1 M8:=k17.dH k8 fun d hd=>.inl (by have:=(hcb d hd).1; omega)
   exact gm _ _ _ (by omega) ⟨j + 1,c',Ff++[y],rfl,rfl,by omega,by omega,by simp; omega,k18,by omega,k8.ay h7 (by omega) (fun h=>by have:=(hcb _ h).1; omega),o8,hp2⟩
 ·rw[hv7.len,dL]
  refine aN (fun hd=>?_) (fun hd=>?_)
  ·have hd:ls.length≤j:=by have:=of_decide_eq_true hd; omega
   rw[List.drop_eq_nil_of_le hd,gT] at hp2
   rw[← hp2] at hp
   rw[aT,aA h7 rfl]
   exact hE _ _ (k1.trans k17) hp.symm
  ·have hd:j<ls.length:=by have:=of_decide_eq_false hd; omega
   rw[List.getElem?_eq_getElem hd,decide_eq_true hd,Bool.true_and] at hc
   have hc:dP ls[j].1 rQ=true:=by simpa using hc
   rw[List.drop_eq_getElem_cons hd,gT,if_pos hc] at hp2
   rw[← hp2] at hp
   dsimp only at hp
   let S' : Nat→Prop:=fun b=>((M.next≤b∧b ∉ aH w)∨(S b∧b<M.next))∧b<M7.next
   have ho7:eX Oj M7 M.next TS w acc S':=(ho.keep k17 (by simp) (by simp)).mono fun b hb=>⟨hb.1,by omega⟩
   have hcs:cB gq M7 c Ff S':=(oc7.mono (S':=S') fun b hb=>⟨.inr hb,by omega⟩).zL fun b h1 h2=>⟨.inl ⟨by omega,fun hb=>by have:=(hwb b hb).2; omega⟩,h2⟩
   rw[gD (x:=c) (size:=1) (by rw[hcs.cells]; rfl) (by rw[hcs.cells]; simp[hcs.one]) rfl,aG,hcs.cells]
   refine eX.app (R:=Oj) (a:=Ff) ho7 ⟨c,rfl,hcs,oc7.YQ⟩ (by omega) (by decide) (fun b hb h=>?_) (fun b h=>h.2) (by omega) (by omega) ?_
   ·rcases h.1 with h | h
    ·exact h.2 hb
    ·have:=(hwb b hb).1; omega
   intro w' M8 o8 k8 n8 _ hd8
   rw[add1 (by omega)]
   refine hnext _ _ _ (by omega) ⟨j + 1,w',acc++[Ff],rfl,rfl,by omega,by simp; omega,(k1.trans k17).dH k8 fun d hd=>.inl (hwb d hd).1, ?_,hp⟩
   refine o8.mono fun b hb=>⟨?_,by have:=hb.2; omega⟩
   rcases hb.1 with h | h
   ·exact .inl ⟨h.1,fun hbw=>hd8 b hbw hb⟩
   ·exact .inr h
end Go.Ab.Vc
set_option maxRecDepth 100000
namespace Go.Ab.Sha
open Go Go.Ab
def zY (p1:au) (p2:Nat) (p3:au) (a0:AV) (M0:RM) (Q:ak) : Prop:=p1 [a0] M0 fun j d=>aO (.row [(N .u8 0),(N .u8 0),(N .u8 0),(N .u8 0),(N .u8 0),(N .u8 0),(N .u8 0),(N .u8 0),(N .u8 0),(N .u8 0),(N .u8 0),(N .u8 0),(N .u8 0),(N .u8 0),(N .u8 0),(N .u8 0),(N .u8 0),(N .u8 0),(N .u8 0),(N .u8 0),(N .u8 0),(N .u8 0),(N .u8 0),(N .u8 0),(N .u8 0),(N .u8 0),(N .u8 0),(N .u8 0),(N .u8 0),(N .u8 0),(N .u8 0),(N .u8 0)] false p2 0) (fun i=>.ptr i 0) d fun c e=>aC e c j 32 fun g=>bP (Jj 32 1 c none none) fun l=>p3 [l] g fun m h=>Q m h
def Fv (p1:Nat) (p2:au) (p3:Nat) (p4:au) (p5:Nat) (p6 p7:au) (p8:Nat) (a0:AV) (M0:RM) (Q:ak) : Prop:=aO (.row [(N .u8 0),(N .u8 0),(N .u8 0),(N .u8 0),(N .u8 0),(N .u8 0),(N .u8 0),(N .u8 0),(N .u8 0),(N .u8 0),(N .u8 0),(N .u8 0),(N .u8 0),(N .u8 0),(N .u8 0),(N .u8 0),(N .u8 0),(N .u8 0),(N .u8 0),(N .u8 0),(N .u8 0),(N .u8 0),(N .u8 0),(N .u8 0),(N .u8 0),(N .u8 0),(N .u8 0),(N .u8 0),(N .u8 0),(N .u8 0),(N .u8 0),(N .u8 0)] false p1 0) (fun c=>.ptr c 0) M0 fun u v=>p2 [] v fun vf w=>aO (.row [(N .u32 0),(N .u32 0),(N .u32 0),(N .u32 0),(N .u32 0),(N .u32 0),(N .u32 0),(N .u32 0),(N .u32 0),(N .u32 0),(N .u32 0),(N .u32 0),(N .u32 0),(N .u32 0),(N .u32 0),(N .u32 0),(N .u32 0),(N .u32 0),(N .u32 0),(N .u32 0),(N .u32 0),(N .u32 0),(N .u32 0),(N .u32 0),(N .u32 0),(N .u32 0),(N .u32 0),(N .u32 0),(N .u32 0),(N .u32 0),(N .u32 0),(N .u32 0),(N .u32 0),(N .u32 0),(N .u32 0),(N .u32 0),(N .u32 0),(N .u32 0),(N .u32 0),(N .u32 0),(N .u32 0),(N .u32 0),(N .u32 0),(N .u32 0),(N .u32 0),(N .u32 0),(N .u32 0),(N .u32 0),(N .u32 0),(N .u32 0),(N .u32 0),(N .u32 0),(N .u32 0),(N .u32 0),(N .u32 0),(N .u32 0),(N .u32 0),(N .u32 0),(N .u32 0),(N .u32 0),(N .u32 0),(N .u32 0),(N .u32 0),(N .u32 0)] false p3 0) (fun c=>.ptr c 0) w fun l x=>aC x l vf 64 fun B=>p4 [] B fun vg G=>aO (.row [(N .u32 0),(N .u32 0),(N .u32 0),(N .u32 0),(N .u32 0),(N .u32 0),(N .u32 0),(N .u32 0)] false p5 0) (fun c=>.ptr c 0) G fun h I=>aC I h vg 8 fun L=>cK a0 fun vh=>af .quo vh (N .i64 64) fun vi=>af .mul vi (N .i64 64) fun t=>bf (fun W i r=>af .lss (ae i 0) t fun vj=>aj vj ( af .add (ae i 0) (N .i64 64) fun vl=>bP (jD 1 a0 (some (ae i 0)) (some vl) none) fun vm=>p6 [h,vm,l] r fun wo O=>af .add (ae i 0) (N .i64 64) fun vk=>W [vk] O) ( bP (jD 1 a0 (some t) none none) fun vn=>p7 [vn] r fun vo P=>bM p8 1 [(N .u8 0)] [(0,1,(N .u8 128))] fun vb S=>aO vb S P fun vp R=>appW p8 1 1 [(N .u8 0)] false vo vp R fun vq y=>bf (fun X m n=>cK (ae m 0) fun vr=>af .rem vr (N .i64 64) fun vs=>af .neq vs (N .i64 56) fun vt=>aj vt ( bM p8 1 [(N .u8 0)] [(0,1,(N .u8 0))] fun vc U=>aO vc U n fun vu z=>appW p8 1 1 [(N .u8 0)] false (ae m 0) vu z fun vv A=>X [vv] A) ( bf (fun Y d o=>af .lss (ae d 1) (N .i64 8) fun vw=>aj vw ( cK a0 fun vx=>iH .u64 vx fun vy=>af .mul vy (N .u64 8) fun vz=>af .mul (N .i64 8) (ae d 1) fun v0=>af .sub (N .i64 56) v0 fun v1=>jZ .shr vz v1 fun v2=>iH .u8 v2 fun v3=>bM p8 1 [(N .u8 0)] [(0,1,v3)] fun vd V=>aO vd V o fun v4 C=>appW p8 1 1 [(N .u8 0)] false (ae d 0) v4 C fun v5 D=>af .add (ae d 1) (N .i64 1) fun v6=>Y [v5,v6] D) ( bf (fun Z j p=>cK (ae d 0) fun v7=>af .lss (ae j 0) v7 fun v8=>aj v8 ( af .add (ae j 0) (N .i64 64) fun wa=>bP (jD 1 (ae d 0) (some (ae j 0)) (some wa) none) fun wb=>p6 [h,wb,l] p fun wp E=>af .add (ae j 0) (N .i64 64) fun v9=>Z [v9] E) ( aO (.row [(N .u8 0),(N .u8 0),(N .u8 0),(N .u8 0),(N .u8 0),(N .u8 0),(N .u8 0),(N .u8 0),(N .u8 0),(N .u8 0),(N .u8 0),(N .u8 0),(N .u8 0),(N .u8 0),(N .u8 0),(N .u8 0),(N .u8 0),(N .u8 0),(N .u8 0),(N .u8 0),(N .u8 0),(N .u8 0),(N .u8 0),(N .u8 0),(N .u8 0),(N .u8 0),(N .u8 0),(N .u8 0),(N .u8 0),(N .u8 0),(N .u8 0),(N .u8 0)] false p1 0) (fun c=>.ptr c 0) p fun s F=>bf (fun va e g=>af .lss (ae e 0) (N .i64 32) fun wc=>aj wc ( af .quo (ae e 0) (N .i64 4) fun wd=>dK h wd 8 1 fun we=>ah g we fun wf=>af .rem (ae e 0) (N .i64 4) fun wg=>af .mul (N .i64 8) wg fun wh=>af .sub (N .i64 24) wh fun wi=>jZ .shr wf wi fun wj=>iH .u8 wj fun wk=>dK s (ae e 0) 32 1 fun wl=>aC g wl wk 1 fun H=>af .add (ae e 0) (N .i64 1) fun wm=>va [wm] H) ( aL g s 32 fun wn=>aC g u wn 32 fun q=>aL q u 32 fun ve=>Q ve q)) [(N .i64 0)] F)) [(N .i64 0)] o)) [(ae m 0),(N .i64 0)] n)) [vq] y)) [(N .i64 0)] L
def Et (p1 p2:Nat) (a0:AV) (M0:RM) (Q:ak) : Prop:=jU p1 a0 fun n j=>aO n j M0 fun p e=>aL e p 32 fun y=>bf (fun m c d=>af .lss (ae c 1) (N .i64 32) fun z=>aj z ( JR y (ae c 1) 32 fun g=>jZ .shr g (N .u64 4) fun q=>bA (St [48,49,50,51,52,53,54,55,56,57,97,98,99,100,101,102]) q fun r=>af .and g (N .u8 15) fun s=>bA (St [48,49,50,51,52,53,54,55,56,57,97,98,99,100,101,102]) s fun t=>bM p2 2 [(N .u8 0)] [(0,1,r),(1,1,t)] fun o l=>zZ o l d fun u h A=>appW p2 1 1 [(N .u8 0)] false (ae c 0) u h fun v i=>af .add (ae c 1) (N .i64 1) fun w=>m [v,w] i) ( oF d (ae c 0) fun x=>Q x d)) [(.sc (.slice none 0 0)),(N .i64 0)] e
def CF (p1:Nat) (p2:au) (p3:Nat) (p4:au) (a0:AV) (M0:RM) (Q:ak) : Prop:=aO (.row [(N .u8 0),(N .u8 0),(N .u8 0),(N .u8 0),(N .u8 0),(N .u8 0),(N .u8 0),(N .u8 0),(N .u8 0),(N .u8 0),(N .u8 0),(N .u8 0),(N .u8 0),(N .u8 0),(N .u8 0),(N .u8 0),(N .u8 0),(N .u8 0),(N .u8 0),(N .u8 0),(N .u8 0),(N .u8 0),(N .u8 0),(N .u8 0),(N .u8 0),(N .u8 0),(N .u8 0),(N .u8 0),(N .u8 0),(N .u8 0),(N .u8 0),(N .u8 0)] false p1 0) (fun h=>.ptr h 0) M0 fun p r=>p2 [] r fun o s=>aS o 0 fun X=>aS o 1 fun Y=>bM p3 0 [(N .u8 0)] [] fun R E=>aO R E s fun Z t=>appW p3 1 1 [(N .u8 0)] false Z a0 t fun va y=>bM p3 1 [(N .u8 0)] [(0,1,(N .u8 128))] fun U G=>aO U G y fun vb C=>appW p3 1 1 [(N .u8 0)] false va vb C fun vc D=>bf (fun I i n=>cK (ae i 0) fun vd=>af .rem vd (N .i64 64) fun ve=>af .neq ve (N .i64 56) fun vf=>aj vf ( bM p3 1 [(N .u8 0)] [(0,1,(N .u8 0))] fun V H=>aO V H n fun vg u=>appW p3 1 1 [(N .u8 0)] false (ae i 0) vg u fun vh v=>I [vh] v) ( cK a0 fun vi=>iH .u64 vi fun vj=>af .mul vj (N .u64 8) fun vk=>bf (fun L c j=>af .geq (ae c 1) (N .i64 0) fun vl=>aj vl ( af .mul (N .i64 8) (ae c 1) fun vn=>iH .u64 vn fun vo=>jZ .shr vk vo fun vp=>iH .u8 vp fun vq=>bM p3 1 [(N .u8 0)] [(0,1,vq)] fun S F=>aO S F j fun vr w=>appW p3 1 1 [(N .u8 0)] false (ae c 0) vr w fun vs x=>af .sub (ae c 1) (N .i64 1) fun vm=>L [vs,vm] x) ( bf (fun O d l=>cK (ae c 0) fun vt=>af .lss (ae d 1) vt fun vu=>aj vu ( af .add (ae d 1) (N .i64 64) fun vw=>bP (jD 1 (ae c 0) (some (ae d 1)) (some vw) none) fun vx=>p4 [(ae d 0),Y,vx] l fun vy z=>af .add (ae d 1) (N .i64 64) fun vv=>O [vy,vv] z) ( aO (.row [(N .u8 0),(N .u8 0),(N .u8 0),(N .u8 0),(N .u8 0),(N .u8 0),(N .u8 0),(N .u8 0),(N .u8 0),(N .u8 0),(N .u8 0),(N .u8 0),(N .u8 0),(N .u8 0),(N .u8 0),(N .u8 0),(N .u8 0),(N .u8 0),(N .u8 0),(N .u8 0),(N .u8 0),(N .u8 0),(N .u8 0),(N .u8 0),(N .u8 0),(N .u8 0),(N .u8 0),(N .u8 0),(N .u8 0),(N .u8 0),(N .u8 0),(N .u8 0)] false p1 0) (fun h=>.ptr h 0) l fun q A=>bf (fun P e g=>af .lss (ae e 0) (N .i64 32) fun vz=>aj vz ( af .quo (ae e 0) (N .i64 4) fun v1=>aM (ae d 0) v1 1 fun v2=>ah g v2 fun v3=>af .rem (ae e 0) (N .i64 4) fun v4=>af .mul (N .i64 8) v4 fun v5=>af .sub (N .i64 24) v5 fun v6=>iH .u64 v6 fun v7=>jZ .shr v3 v7 fun v8=>iH .u8 v8 fun v9=>dK q (ae e 0) 32 1 fun wa=>aC g wa v9 1 fun B=>af .add (ae e 0) (N .i64 1) fun v0=>P [v0] B) ( aL g q 32 fun wb=>aC g p wb 32 fun m=>aL m p 32 fun W=>Q W m)) [(N .i64 0)] A)) [X,(N .i64 0)] j)) [(ae i 0),(N .i64 7)] n)) [vc] D
def Dj (p1:Nat) (a0:AV) (M0:RM) (Q:ak) : Prop:=lX p1 1 [(N .u8 0)] (N .i64 0) (N .i64 0) fun m i=>aO m i M0 fun A e=>bf (fun l c d=>cK a0 fun B=>af .lss (ae c 1) B fun C=>aj C ( aM a0 (ae c 1) 1 fun p=>ah d p fun q=>jZ .shr q (N .u64 4) fun r=>bA (St [48,49,50,51,52,53,54,55,56,57,97,98,99,100,101,102]) r fun s=>aM a0 (ae c 1) 1 fun t=>ah d t fun u=>af .and u (N .u8 15) fun v=>bA (St [48,49,50,51,52,53,54,55,56,57,97,98,99,100,101,102]) v fun w=>bM p1 2 [(N .u8 0)] [(0,1,s),(1,1,w)] fun n j=>zZ n j d fun x g D=>appW p1 1 1 [(N .u8 0)] false (ae c 0) x g fun y h=>af .add (ae c 1) (N .i64 1) fun o=>l [y,o] h) ( oF d (ae c 0) fun z=>Q z d)) [A,(N .i64 0)] e
def rH (p1:Nat) (M0:RM) (Q:ak) : Prop:=aO (.row [(N .u32 0),(N .u32 0),(N .u32 0),(N .u32 0),(N .u32 0),(N .u32 0),(N .u32 0),(N .u32 0),(N .u32 0),(N .u32 0),(N .u32 0),(N .u32 0),(N .u32 0),(N .u32 0),(N .u32 0),(N .u32 0),(N .u32 0),(N .u32 0),(N .u32 0),(N .u32 0),(N .u32 0),(N .u32 0),(N .u32 0),(N .u32 0),(N .u32 0),(N .u32 0),(N .u32 0),(N .u32 0),(N .u32 0),(N .u32 0),(N .u32 0),(N .u32 0),(N .u32 0),(N .u32 0),(N .u32 0),(N .u32 0),(N .u32 0),(N .u32 0),(N .u32 0),(N .u32 0),(N .u32 0),(N .u32 0),(N .u32 0),(N .u32 0),(N .u32 0),(N .u32 0),(N .u32 0),(N .u32 0),(N .u32 0),(N .u32 0),(N .u32 0),(N .u32 0),(N .u32 0),(N .u32 0),(N .u32 0),(N .u32 0),(N .u32 0),(N .u32 0),(N .u32 0),(N .u32 0),(N .u32 0),(N .u32 0),(N .u32 0),(N .u32 0)] false p1 0) (fun g=>.ptr g 0) M0 fun d e=>dW [(N .u32 0),(N .u32 0),(N .u32 0),(N .u32 0),(N .u32 0),(N .u32 0),(N .u32 0),(N .u32 0),(N .u32 0),(N .u32 0),(N .u32 0),(N .u32 0),(N .u32 0),(N .u32 0),(N .u32 0),(N .u32 0),(N .u32 0),(N .u32 0),(N .u32 0),(N .u32 0),(N .u32 0),(N .u32 0),(N .u32 0),(N .u32 0),(N .u32 0),(N .u32 0),(N .u32 0),(N .u32 0),(N .u32 0),(N .u32 0),(N .u32 0),(N .u32 0),(N .u32 0),(N .u32 0),(N .u32 0),(N .u32 0),(N .u32 0),(N .u32 0),(N .u32 0),(N .u32 0),(N .u32 0),(N .u32 0),(N .u32 0),(N .u32 0),(N .u32 0),(N .u32 0),(N .u32 0),(N .u32 0),(N .u32 0),(N .u32 0),(N .u32 0),(N .u32 0),(N .u32 0),(N .u32 0),(N .u32 0),(N .u32 0),(N .u32 0),(N .u32 0),(N .u32 0),(N .u32 0),(N .u32 0),(N .u32 0),(N .u32 0),(N .u32 0)] [(0,1,(N .u32 1116352408)),(1,1,(N .u32 1899447441)),(2,1,(N .u32 3049323471)),(3,1,(N .u32 3921009573)),(4,1,(N .u32 961987163)),(5,1,(N .u32 1508970993)),(6,1,(N .u32 2453635748)),(7,1,(N .u32 2870763221)),(8,1,(N .u32 3624381080)),(9,1,(N .u32 310598401)),(10,1,(N .u32 607225278)),(11,1,(N .u32 1426881987)),(12,1,(N .u32 1925078388)),(13,1,(N .u32 2162078206)),(14,1,(N .u32 2614888103)),(15,1,(N .u32 3248222580)),(16,1,(N .u32 3835390401)),(17,1,(N .u32 4022224774)),(18,1,(N .u32 264347078)),(19,1,(N .u32 604807628)),(20,1,(N .u32 770255983)),(21,1,(N .u32 1249150122)),(22,1,(N .u32 1555081692)),(23,1,(N .u32 1996064986)),(24,1,(N .u32 2554220882)),(25,1,(N .u32 2821834349)),(26,1,(N .u32 2952996808)),(27,1,(N .u32 3210313671)),(28,1,(N .u32 3336571891)),(29,1,(N .u32 3584528711)),(30,1,(N .u32 113926993)),(31,1,(N .u32 338241895)),(32,1,(N .u32 666307205)),(33,1,(N .u32 773529912)),(34,1,(N .u32 1294757372)),(35,1,(N .u32 1396182291)),(36,1,(N .u32 1695183700)),(37,1,(N .u32 1986661051)),(38,1,(N .u32 2177026350)),(39,1,(N .u32 2456956037)),(40,1,(N .u32 2730485921)),(41,1,(N .u32 2820302411)),(42,1,(N .u32 3259730800)),(43,1,(N .u32 3345764771)),(44,1,(N .u32 3516065817)),(45,1,(N .u32 3600352804)),(46,1,(N .u32 4094571909)),(47,1,(N .u32 275423344)),(48,1,(N .u32 430227734)),(49,1,(N .u32 506948616)),(50,1,(N .u32 659060556)),(51,1,(N .u32 883997877)),(52,1,(N .u32 958139571)),(53,1,(N .u32 1322822218)),(54,1,(N .u32 1537002063)),(55,1,(N .u32 1747873779)),(56,1,(N .u32 1955562222)),(57,1,(N .u32 2024104815)),(58,1,(N .u32 2227730452)),(59,1,(N .u32 2361852424)),(60,1,(N .u32 2428436474)),(61,1,(N .u32 2756734187)),(62,1,(N .u32 3204031479)),(63,1,(N .u32 3329325298))] fun i=>aC e d i 64 fun c=>aL c d 64 fun h=>Q h c
def AA (p1:Nat) (M0:RM) (Q:ak) : Prop:=aO (.row [(N .u32 0),(N .u32 0),(N .u32 0),(N .u32 0),(N .u32 0),(N .u32 0),(N .u32 0),(N .u32 0)] false p1 0) (fun g=>.ptr g 0) M0 fun d e=>dW [(N .u32 0),(N .u32 0),(N .u32 0),(N .u32 0),(N .u32 0),(N .u32 0),(N .u32 0),(N .u32 0)] [(0,1,(N .u32 1779033703)),(1,1,(N .u32 3144134277)),(2,1,(N .u32 1013904242)),(3,1,(N .u32 2773480762)),(4,1,(N .u32 1359893119)),(5,1,(N .u32 2600822924)),(6,1,(N .u32 528734635)),(7,1,(N .u32 1541459225))] fun i=>aC e d i 8 fun c=>aL c d 8 fun h=>Q h c
def qD (p1:Nat) (p2:au) (p3:Nat) (a0 a1 a2:AV) (M0:RM) (Q:ak) : Prop:=aO (.row [(N .u32 0),(N .u32 0),(N .u32 0),(N .u32 0),(N .u32 0),(N .u32 0),(N .u32 0),(N .u32 0),(N .u32 0),(N .u32 0),(N .u32 0),(N .u32 0),(N .u32 0),(N .u32 0),(N .u32 0),(N .u32 0),(N .u32 0),(N .u32 0),(N .u32 0),(N .u32 0),(N .u32 0),(N .u32 0),(N .u32 0),(N .u32 0),(N .u32 0),(N .u32 0),(N .u32 0),(N .u32 0),(N .u32 0),(N .u32 0),(N .u32 0),(N .u32 0),(N .u32 0),(N .u32 0),(N .u32 0),(N .u32 0),(N .u32 0),(N .u32 0),(N .u32 0),(N .u32 0),(N .u32 0),(N .u32 0),(N .u32 0),(N .u32 0),(N .u32 0),(N .u32 0),(N .u32 0),(N .u32 0),(N .u32 0),(N .u32 0),(N .u32 0),(N .u32 0),(N .u32 0),(N .u32 0),(N .u32 0),(N .u32 0),(N .u32 0),(N .u32 0),(N .u32 0),(N .u32 0),(N .u32 0),(N .u32 0),(N .u32 0),(N .u32 0)] false p1 0) (fun vc=>.ptr vc 0) M0 fun i vg=>bf (fun vn j m=>af .lss (ae j 0) (N .i64 16) fun xz=>aj xz ( af .mul (N .i64 4) (ae j 0) fun x0=>aM a1 x0 1 fun x1=>ah m x1 fun x2=>iH .u32 x2 fun x3=>jZ .shl x3 (N .u64 24) fun x4=>af .mul (N .i64 4) (ae j 0) fun x5=>af .add x5 (N .i64 1) fun x6=>aM a1 x6 1 fun x7=>ah m x7 fun x8=>iH .u32 x8 fun x9=>jZ .shl x9 (N .u64 16) fun ya=>af .or x4 ya fun yb=>af .mul (N .i64 4) (ae j 0) fun yc=>af .add yc (N .i64 2) fun yd=>aM a1 yd 1 fun ye=>ah m ye fun yf=>iH .u32 yf fun yg=>jZ .shl yg (N .u64 8) fun yh=>af .or yb yh fun yi=>af .mul (N .i64 4) (ae j 0) fun yj=>af .add yj (N .i64 3) fun yk=>aM a1 yk 1 fun yl=>ah m yl fun ym=>iH .u32 ym fun yn=>af .or yi yn fun yo=>dK i (ae j 0) 64 1 fun yp=>aC m yp yo 1 fun vh=>af .add (ae j 0) (N .i64 1) fun yq=>vn [yq] vh) ( bf (fun vo l h=>af .lss (ae l 0) (N .i64 64) fun yr=>aj yr ( af .sub (ae l 0) (N .i64 15) fun yt=>dK i yt 64 1 fun yu=>ah h yu fun vd=>af .sub (ae l 0) (N .i64 2) fun yv=>dK i yv 64 1 fun yw=>ah h yw fun ve=>af .sub (ae l 0) (N .i64 16) fun yx=>dK i yx 64 1 fun t=>ah h t fun u=>jZ .shr vd (N .u64 3) fun y5=>af .sub (ae l 0) (N .i64 7) fun y8=>dK i y8 64 1 fun v=>ah h v fun w=>jZ .shr ve (N .u64 10) fun zh=>p2 [vd,(N .i64 7)] h fun y2 X=>ah X t fun y1=>(y1=u∧ah X v fun zc=>(zc=w∧p2 [vd,(N .i64 18)] X fun y3 Z=>ah Z t fun y0=>(y0=u∧ah Z v fun zb=>(zb=w∧af .xor y2 y3 fun y4=>af .xor y4 y5 fun y6=>af .add u y6 fun y7=>af .add y7 w fun zd=>p2 [ve,(N .i64 17)] Z fun ze va=>ah va t fun yz=>(yz=u∧ah va v fun za=>(za=w∧p2 [ve,(N .i64 19)] va fun zf vb=>ah vb t fun yy=>(yy=u∧ah vb v fun y9=>(y9=w∧af .xor ze zf fun zg=>af .xor zg zh fun zi=>af .add zd zi fun zj=>dK i (ae l 0) 64 1 fun zk=>aC vb zk zj 1 fun vm=>af .add (ae l 0) (N .i64 1) fun ys=>vo [ys] vm))))))))) ( jA a0 fun vr=>aL h vr 8 fun vs=>aO (.row [(N .u32 0),(N .u32 0),(N .u32 0),(N .u32 0),(N .u32 0),(N .u32 0),(N .u32 0),(N .u32 0)] false p3 0) (fun vc=>.ptr vc 0) h fun c vi=>aC vi c vs 8 fun vj=>bf (fun vp W d=>af .lss (ae W 0) (N .i64 64) fun vt=>aj vt ( dK c (N .i64 4) 8 1 fun vu=>ah d vu fun p=>dK c (N .i64 0) 8 1 fun vv=>ah d vv fun q=>dK c (N .i64 7) 8 1 fun y=>ah d y fun z=>dK c (N .i64 5) 8 1 fun A=>ah d A fun B=>af .and p B fun v8=>FE p fun v9=>dK c (N .i64 6) 8 1 fun C=>ah d C fun D=>af .and v9 D fun wd=>af .xor v8 wd fun we=>jA a2 fun wg=>dK wg (ae W 0) 64 1 fun E=>ah d E fun F=>dK i (ae W 0) 64 1 fun G=>ah d G fun H=>p2 [p,(N .i64 6)] d fun vz n=>ah n y fun vy=>(vy=z∧ah n A fun v7=>(v7=B∧ah n C fun wc=>(wc=D∧ah n E fun wj=>(wj=F∧ah n G fun wn=>(wn=H∧p2 [p,(N .i64 11)] n fun v0 o=>ah o y fun vx=>(vx=z∧ah o A fun v6=>(v6=B∧ah o C fun wb=>(wb=D∧ah o E fun wi=>(wi=F∧ah o G fun wm=>(wm=H∧af .xor vz v0 fun v1=>p2 [p,(N .i64 25)] o fun v2 e=>ah e y fun vw=>(vw=z∧ah e A fun v5=>(v5=B∧ah e C fun wa=>(wa=D∧ah e E fun wh=>(wh=F∧ah e G fun wl=>(wl=H∧af .xor v1 v2 fun v3=>af .add z v3 fun v4=>af .add v4 we fun wf=>af .add wf F fun wk=>af .add wk H fun vf=>dK c (N .i64 1) 8 1 fun I=>ah e I fun L=>af .and q L fun ww=>dK c (N .i64 2) 8 1 fun O=>ah e O fun P=>af .and q P fun w0=>af .xor ww w0 fun w1=>dK c (N .i64 1) 8 1 fun R=>ah e R fun S=>dK c (N .i64 2) 8 1 fun U=>ah e U fun V=>af .and S V fun w8=>af .xor w1 w8 fun w9=>p2 [q,(N .i64 2)] e fun wo r=>ah r I fun wv=>(wv=L∧ah r O fun wz=>(wz=P∧ah r R fun w4=>(w4=S∧ah r U fun w7=>(w7=V∧p2 [q,(N .i64 13)] r fun wp s=>ah s I fun wu=>(wu=L∧ah s O fun wy=>(wy=P∧ah s R fun w3=>(w3=S∧ah s U fun w6=>(w6=V∧af .xor wo wp fun wq=>p2 [q,(N .i64 22)] s fun wr g=>ah g I fun wt=>(wt=L∧ah g O fun wx=>(wx=P∧ah g R fun w2=>(w2=S∧ah g U fun w5=>(w5=V∧af .xor wq wr fun ws=>af .add ws w9 fun xa=>af .add vf xa fun xb=>dK c (N .i64 1) 8 1 fun xc=>ah g xc fun xd=>dK c (N .i64 2) 8 1 fun xe=>ah g xe fun xf=>dK c (N .i64 3) 8 1 fun xg=>ah g xg fun xh=>af .add xh vf fun xi=>dK c (N .i64 5) 8 1 fun xj=>ah g xj fun xk=>dK c (N .i64 6) 8 1 fun xl=>ah g xl fun xm=>dW [(N .u32 0),(N .u32 0),(N .u32 0),(N .u32 0),(N .u32 0),(N .u32 0),(N .u32 0),(N .u32 0)] [(0,1,xb),(1,1,q),(2,1,xd),(3,1,xf),(4,1,xi),(5,1,p),(6,1,xk),(7,1,xm)] fun xn=>aC g c xn 8 fun vk=>af .add (ae W 0) (N .i64 1) fun xo=>vp [xo] vk)))))))))))))))))))))))))))) ( aL d c 8 fun xp=>bf (fun vq x Y=>af .lss (ae x 0) (N .i64 8) fun xq=>aj xq ( JR xp (ae x 0) 8 fun xr=>jA a0 fun xs=>dK xs (ae x 0) 8 1 fun xt=>ah Y xt fun xu=>af .add xu xr fun xv=>jA a0 fun xw=>dK xw (ae x 0) 8 1 fun xx=>aC Y xx xv 1 fun vl=>af .add (ae x 0) (N .i64 1) fun xy=>vq [xy] vl) ( Q (.tup []) Y)) [(N .i64 0)] d)) [(N .i64 0)] vj)) [(N .i64 16)] m)) [(N .i64 0)] vg
def uM (p1:au) (p2:Nat) (p3:au) (M0:RM) (Q:ak) : Prop:=p1 [(N .i64 64)] M0 fun h l=>lX p2 4 [(N .u32 0)] (N .i64 0) (N .i64 0) fun A v=>aO A v l fun X m=>lX p2 4 [(N .u32 0)] (N .i64 0) (N .i64 0) fun B x=>aO B x m fun Y s=>bf (fun z c d=>af .lss (ae c 2) (N .i64 64) fun E=>aj E ( bG (fun j=>bG (fun e=>af .lss (ae c 2) (N .i64 8) fun G=>aj G ( aM h (ae c 2) 1 fun H=>ah d H fun I=>p3 [I,(Bo false)] d fun L t=>bM p2 1 [(N .u32 0)] [(0,1,L)] fun D y=>aO D y t fun O u=>appW p2 1 4 [(N .u32 0)] false (ae c 0) O u fun P n=>e [P] n) ( e [(ae c 0)] d)) (fun Z g=>aM h (ae c 2) 1 fun R=>ah g R fun S=>p3 [S,(Bo true)] g fun U o=>bM p2 1 [(N .u32 0)] [(0,1,U)] fun C w=>aO C w o fun V p=>appW p2 1 4 [(N .u32 0)] false (ae c 1) V p fun W q=>j [(ae Z 0),W] q)) (fun i r=>af .add (ae c 2) (N .i64 1) fun F=>z [(ae i 0),(ae i 1),F] r)) ( Q (.tup [(ae c 0),(ae c 1)]) d)) [X,Y,(N .i64 0)] s
def wT (p1:Nat) (p2:au) (p3:Nat) (a0 a1 a2:AV) (M0:RM) (Q:ak) : Prop:=aO (.row [(N .u32 0),(N .u32 0),(N .u32 0),(N .u32 0),(N .u32 0),(N .u32 0),(N .u32 0),(N .u32 0),(N .u32 0),(N .u32 0),(N .u32 0),(N .u32 0),(N .u32 0),(N .u32 0),(N .u32 0),(N .u32 0),(N .u32 0),(N .u32 0),(N .u32 0),(N .u32 0),(N .u32 0),(N .u32 0),(N .u32 0),(N .u32 0),(N .u32 0),(N .u32 0),(N .u32 0),(N .u32 0),(N .u32 0),(N .u32 0),(N .u32 0),(N .u32 0),(N .u32 0),(N .u32 0),(N .u32 0),(N .u32 0),(N .u32 0),(N .u32 0),(N .u32 0),(N .u32 0),(N .u32 0),(N .u32 0),(N .u32 0),(N .u32 0),(N .u32 0),(N .u32 0),(N .u32 0),(N .u32 0),(N .u32 0),(N .u32 0),(N .u32 0),(N .u32 0),(N .u32 0),(N .u32 0),(N .u32 0),(N .u32 0),(N .u32 0),(N .u32 0),(N .u32 0),(N .u32 0),(N .u32 0),(N .u32 0),(N .u32 0),(N .u32 0)] false p1 0) (fun vc=>.ptr vc 0) M0 fun j ve=>bf (fun vo d e=>af .lss (ae d 0) (N .i64 64) fun xl=>aj xl ( bG (fun vb=>af .lss (ae d 0) (N .i64 16) fun xy=>aj xy ( af .mul (N .i64 4) (ae d 0) fun xz=>aM a2 xz 1 fun x0=>ah e x0 fun x1=>iH .u32 x1 fun x2=>jZ .shl x2 (N .u64 24) fun x3=>af .mul (N .i64 4) (ae d 0) fun x4=>af .add x4 (N .i64 1) fun x5=>aM a2 x5 1 fun x6=>ah e x6 fun x7=>iH .u32 x7 fun x8=>jZ .shl x8 (N .u64 16) fun x9=>af .or x3 x9 fun ya=>af .mul (N .i64 4) (ae d 0) fun yb=>af .add yb (N .i64 2) fun yc=>aM a2 yc 1 fun yd=>ah e yd fun ye=>iH .u32 ye fun yf=>jZ .shl yf (N .u64 8) fun yg=>af .or ya yg fun yh=>af .mul (N .i64 4) (ae d 0) fun yi=>af .add yi (N .i64 3) fun yj=>aM a2 yj 1 fun yk=>ah e yk fun yl=>iH .u32 yl fun ym=>af .or yh ym fun yn=>dK j (ae d 0) 64 1 fun yo=>aC e yo yn 1 fun vf=>vb [] vf) ( af .sub (ae d 0) (N .i64 15) fun yp=>dK j yp 64 1 fun yq=>ah e yq fun Z=>af .sub (ae d 0) (N .i64 2) fun yr=>dK j yr 64 1 fun ys=>ah e ys fun va=>af .sub (ae d 0) (N .i64 16) fun yt=>dK j yt 64 1 fun r=>ah e r fun s=>af .sub (ae d 0) (N .i64 7) fun yy=>dK j yy 64 1 fun t=>ah e t fun u=>af .add s u fun y3=>jZ .shr Z (N .u64 3) fun y7=>jZ .shr va (N .u64 10) fun zd=>p2 [Z,(N .u64 7)] e fun y4 V=>ah V r fun yw=>(yw=s∧ah V t fun y0=>(y0=u∧p2 [Z,(N .u64 18)] V fun y5 W=>ah W r fun yv=>(yv=s∧ah W t fun yz=>(yz=u∧af .xor y4 y5 fun y6=>af .xor y6 y7 fun y8=>af .add y3 y8 fun y9=>p2 [va,(N .u64 17)] W fun za X=>ah X r fun yu=>(yu=s∧ah X t fun y2=>(y2=u∧p2 [va,(N .u64 19)] X fun zb Y=>ah Y r fun yx=>(yx=s∧ah Y t fun y1=>(y1=u∧af .xor za zb fun zc=>af .xor zc zd fun ze=>af .add y9 ze fun zf=>dK j (ae d 0) 64 1 fun zg=>aC Y zg zf 1 fun vk=>vb [] vk)))))))))) (fun zj vg=>af .add (ae d 0) (N .i64 1) fun xx=>vo [xx] vg)) ( bM p3 0 [(N .u32 0)] [] fun vr vm=>aO vr vm e fun zh vh=>appW p3 1 4 [(N .u32 0)] false zh a0 vh fun zi vi=>bf (fun vp c i=>af .lss (ae c 1) (N .i64 64) fun vt=>aj vt ( aM (ae c 0) (N .i64 4) 1 fun vv=>ah i vv fun n=>aM (ae c 0) (N .i64 0) 1 fun vw=>ah i vw fun o=>aM (ae c 0) (N .i64 7) 1 fun x=>ah i x fun y=>aM (ae c 0) (N .i64 5) 1 fun z=>ah i z fun A=>af .and n A fun v9=>FE n fun wa=>aM (ae c 0) (N .i64 6) 1 fun B=>ah i B fun C=>af .and wa C fun we=>af .xor v9 we fun wf=>aM a1 (ae c 1) 1 fun D=>ah i D fun E=>dK j (ae c 1) 64 1 fun F=>ah i F fun G=>p2 [n,(N .u64 6)] i fun v0 l=>ah l x fun vz=>(vz=y∧ah l z fun v8=>(v8=A∧ah l B fun wd=>(wd=C∧ah l D fun wj=>(wj=E∧ah l F fun wn=>(wn=G∧p2 [n,(N .u64 11)] l fun v1 m=>ah m x fun vy=>(vy=y∧ah m z fun v7=>(v7=A∧ah m B fun wc=>(wc=C∧ah m D fun wi=>(wi=E∧ah m F fun wm=>(wm=G∧af .xor v0 v1 fun v2=>p2 [n,(N .u64 25)] m fun v3 g=>ah g x fun vx=>(vx=y∧ah g z fun v6=>(v6=A∧ah g B fun wb=>(wb=C∧ah g D fun wh=>(wh=E∧ah g F fun wl=>(wl=G∧af .xor v2 v3 fun v4=>af .add y v4 fun v5=>af .add v5 wf fun wg=>af .add wg E fun wk=>af .add wk G fun vd=>aM (ae c 0) (N .i64 1) 1 fun H=>ah g H fun I=>af .and o I fun ww=>aM (ae c 0) (N .i64 2) 1 fun L=>ah g L fun O=>af .and o O fun w0=>af .xor ww w0 fun w1=>aM (ae c 0) (N .i64 1) 1 fun P=>ah g P fun R=>aM (ae c 0) (N .i64 2) 1 fun S=>ah g S fun U=>af .and R U fun w8=>af .xor w1 w8 fun w9=>p2 [o,(N .u64 2)] g fun wo p=>ah p H fun wv=>(wv=I∧ah p L fun wz=>(wz=O∧ah p P fun w4=>(w4=R∧ah p S fun w7=>(w7=U∧p2 [o,(N .u64 13)] p fun wp q=>ah q H fun wu=>(wu=I∧ah q L fun wy=>(wy=O∧ah q P fun w3=>(w3=R∧ah q S fun w6=>(w6=U∧af .xor wo wp fun wq=>p2 [o,(N .u64 22)] q fun wr h=>ah h H fun wt=>(wt=I∧ah h L fun wx=>(wx=O∧ah h P fun w2=>(w2=R∧ah h S fun w5=>(w5=U∧af .xor wq wr fun ws=>af .add ws w9 fun xa=>af .add vd xa fun xb=>aM (ae c 0) (N .i64 1) 1 fun xc=>ah h xc fun xd=>aM (ae c 0) (N .i64 2) 1 fun xe=>ah h xe fun xf=>aM (ae c 0) (N .i64 3) 1 fun xg=>ah h xg fun xh=>af .add xh vd fun xi=>aM (ae c 0) (N .i64 5) 1 fun xj=>ah h xj fun xk=>aM (ae c 0) (N .i64 6) 1 fun xm=>ah h xm fun xn=>bM p3 8 [(N .u32 0)] [(0,1,xb),(1,1,o),(2,1,xd),(3,1,xf),(4,1,xi),(5,1,n),(6,1,xk),(7,1,xn)] fun vs vn=>zZ vs vn h fun xo vj vc=>af .add (ae c 1) (N .i64 1) fun vu=>vp [xo,vu] vj)))))))))))))))))))))))))))) ( bf (fun vq v w=>af .lss (ae v 0) (N .i64 8) fun xp=>aj xp ( aM (ae c 0) (ae v 0) 1 fun xr=>ah w xr fun xs=>aM a0 (ae v 0) 1 fun xt=>ah w xt fun xu=>af .add xs xu fun xv=>aM (ae c 0) (ae v 0) 1 fun xw=>aC w xw xv 1 fun vl=>af .add (ae v 0) (N .i64 1) fun xq=>vq [xq] vl) ( Q (ae c 0) w)) [(N .i64 0)] i)) [zi,(N .i64 0)] vi)) [(N .i64 0)] ve
def CK (p1:au) (a0 a1:AV) (M0:RM) (Q:ak) : Prop:=UB a1 fun d=>p1 [a0,d] M0 fun e c=>Q e c
def vC (p1:Nat) (p2:au) (a0:AV) (M0:RM) (Q:ak) : Prop:=lX p1 8 [(N .i64 0)] (N .i64 0) (N .i64 0) fun p m=>aO p m M0 fun v h=>bf (fun o c e=>cK (ae c 0) fun w=>af .lss w a0 fun x=>aj x ( bG (fun d=>p2 [(ae c 1)] e fun s g=>aj s ( bM p1 1 [(N .i64 0)] [(0,1,(ae c 1))] fun q n=>aO q n g fun t i=>appW p1 1 8 [(N .i64 0)] false (ae c 0) t i fun u j=>d [u] j) ( d [(ae c 0)] g)) (fun y l=>af .add (ae c 1) (N .i64 1) fun r=>o [(ae y 0),r] l)) ( Q (ae c 0) e)) [v,(N .i64 2)] h
def Av (p1 p2:au) (p3:Nat) (p4:au) (a0 a1:AV) (M0:RM) (Q:ak) : Prop:=bf (fun C c n=>af .geq (ae c 1) (N .i64 0) fun D=>aj D ( bG (fun l=>iH .u64 (ae c 1) fun F=>jZ .shl (N .u64 1) F fun G=>af .or (ae c 0) G fun e=>p1 [e] n fun H r=>p1 [e] r fun I s=>p2 [H,I] s fun L x=>aO (.row [(N .u64 0),(N .u64 0),(N .u64 0),(N .u64 0),(N .u64 0),(N .u64 0),(N .u64 0),(N .u64 0)] false p3 0) (fun j=>.ptr j 0) x fun d y=>aC y d L 8 fun z=>aO (.row [(N .u64 0),(N .u64 0),(N .u64 0),(N .u64 0),(N .u64 0),(N .u64 0),(N .u64 0),(N .u64 0)] false p3 0) (fun j=>.ptr j 0) z fun g A=>iH .u64 a0 fun O=>dK g (N .i64 4) 8 1 fun P=>aC A P O 1 fun i=>bG (fun m=>aj a1 ( aL i d 8 fun q=>p1 [e] i fun S p=>aL p d 8 fun R=>(R=q∧p2 [q,S] p fun U B=>aC B d U 8 fun t=>dW [(N .u64 0),(N .u64 0),(N .u64 0),(N .u64 0),(N .u64 0),(N .u64 0),(N .u64 0),(N .u64 0)] [] fun V=>aC t g V 8 fun u=>iH .u64 a0 fun W=>dK g (N .i64 6) 8 1 fun X=>aC u X W 1 fun v=>m [] v)) ( m [] i)) (fun ve h=>aL h d 8 fun Y=>aL h g 8 fun Z=>p4 [Y,Z] h fun va o=>fu va fun vb=>aj vb ( l [e] o) ( l [(ae c 0)] o))) (fun vd w=>af .sub (ae c 1) (N .i64 1) fun E=>C [(ae vd 0),E] w)) ( iH .u32 (ae c 0) fun vc=>Q vc n)) [(N .u64 0),(N .i64 36)] M0
def Aw (a0 a1:AV) (M0:RM) (Q:ak) : Prop:=jZ .shr a0 a1 fun g=>af .sub (N .u64 32) a1 fun c=>jZ .shl a0 c fun d=>af .or g d fun e=>Q e M0
def kE (a0 a1:AV) (M0:RM) (Q:ak) : Prop:=iH .u64 a1 fun i=>af .and i (N .u64 31) fun c=>jZ .shl a0 c fun d=>af .sub (N .u64 32) c fun e=>jZ .shr a0 e fun g=>af .or d g fun h=>Q h M0
def yU (a0:AV) (M0:RM) (Q:ak) : Prop:=bf (fun e c d=>af .mul (ae c 0) (ae c 0) fun l=>af .leq l a0 fun m=>aj m ( af .rem a0 (ae c 0) fun h=>af .eql h (N .i64 0) fun i=>aj i ( Q (Bo false) d) ( af .add (ae c 0) (N .i64 1) fun g=>e [g] d)) ( af .gtr a0 (N .i64 1) fun j=>Q j d)) [(N .i64 2)] M0
def xB (p1:Nat) (a0 a1:AV) (M0:RM) (Q:ak) : Prop:=jU p1 a0 fun w s=>aO w s M0 fun E n=>jU p1 a1 fun x t=>aO x t n fun P o=>aO (.row [(N .u64 0),(N .u64 0),(N .u64 0),(N .u64 0),(N .u64 0),(N .u64 0),(N .u64 0),(N .u64 0)] false p1 0) (fun h=>.ptr h 0) o fun m p=>aO (.row [(N .u64 0),(N .u64 0),(N .u64 0),(N .u64 0),(N .u64 0),(N .u64 0),(N .u64 0),(N .u64 0)] false p1 0) (fun h=>.ptr h 0) p fun i q=>bf (fun u c g=>af .lss (ae c 0) (N .i64 8) fun z=>aj z ( bf (fun v d e=>af .add (ae c 0) (ae d 1) fun B=>af .lss B (N .i64 8) fun C=>aj C ( af .add (ae c 0) (ae d 1) fun F=>dK i F 8 1 fun G=>ah e G fun H=>af .add (ae d 0) H fun I=>dK E (ae c 0) 8 1 fun L=>ah e L fun O=>dK P (ae d 1) 8 1 fun R=>ah e R fun S=>af .mul O S fun U=>af .add I U fun l=>af .add (ae c 0) (ae d 1) fun V=>af .and l (N .u64 65535) fun W=>dK i V 8 1 fun X=>aC e X W 1 fun r=>jZ .shr l (N .u64 16) fun Y=>af .add (ae d 1) (N .i64 1) fun D=>v [Y,D] r) ( af .add (ae c 0) (N .i64 1) fun A=>u [A] e)) [(N .u64 0),(N .i64 0)] g) ( aL g i 8 fun Z=>aC g m Z 8 fun j=>aL j m 8 fun y=>Q y j)) [(N .i64 0)] q
def Er (p1:Nat) (a0:AV) (M0:RM) (Q:ak) : Prop:=aO (.row [(N .u64 0),(N .u64 0),(N .u64 0),(N .u64 0),(N .u64 0),(N .u64 0),(N .u64 0),(N .u64 0)] false p1 0) (fun g=>.ptr g 0) M0 fun d e=>af .and a0 (N .u64 65535) fun j=>jZ .shr a0 (N .u64 16) fun l=>af .and l (N .u64 65535) fun m=>jZ .shr a0 (N .u64 32) fun n=>dW [(N .u64 0),(N .u64 0),(N .u64 0),(N .u64 0),(N .u64 0),(N .u64 0),(N .u64 0),(N .u64 0)] [(0,1,j),(1,1,m),(2,1,n)] fun i=>aC e d i 8 fun c=>aL c d 8 fun h=>Q h c
def wZ (p1:Nat) (a0 a1:AV) (M0:RM) (Q:ak) : Prop:=jU p1 a0 fun n j=>aO n j M0 fun e h=>jU p1 a1 fun o l=>aO o l h fun g i=>bf (fun m d c=>af .geq (ae d 0) (N .i64 0) fun z=>aj z ( dK e (ae d 0) 8 1 fun p=>ah c p fun q=>dK g (ae d 0) 8 1 fun r=>ah c r fun s=>af .neq q s fun t=>aj t ( dK e (ae d 0) 8 1 fun u=>ah c u fun v=>dK g (ae d 0) 8 1 fun w=>ah c w fun x=>af .gtr v x fun y=>Q y c) ( af .sub (ae d 0) (N .i64 1) fun A=>m [A] c)) ( Q (Bo false) c)) [(N .i64 7)] i
set_option maxRecDepth 10000
def dD:Enc Int:=⟨1,fun n=>[N .u32 n],fun _=>rfl,fun _=>rfl⟩
theorem nS (xs:List Int) : dD.row xs=xs.map (N .u32):=by
 induction xs with
 | nil=>rfl
 | cons x xs ih=>rw[Enc.jN,ih]; rfl
theorem kD (xs:List Int) : (dD.row xs).length=xs.length:=by rw[nS,List.length_map]
def fF (a b:Int) : Int:=IntKind.u32.wrap (a + b)
def qE (x n:Int) : Int:=FU .u32 (nT .u32 x n) (IX .u32 x (32 - n))
def P9 (a b c:Int) : Int:=En .u32 (En .u32 a b) c
def abT (x:Int) : Int:=P9 (qE x 7) (qE x 18) (nT .u32 x 3)
def acw (x:Int) : Int:=P9 (qE x 17) (qE x 19) (nT .u32 x 10)
def ae6 (x:Int) : Int:=En .u32 4294967295 x
def chU (e f g:Int) : Int:=En .u32 (xE .u32 e f) (xE .u32 (ae6 e) g)
def af6 (a b c:Int) : Int:=En .u32 (En .u32 (xE .u32 a b) (xE .u32 a c)) (xE .u32 b c)
theorem adF (n:Int) : IntKind.u32.wrap n=n % 4294967296:=by
 simp only[IntKind.wrap,IntKind.bits,IntKind.signed,IntKind.max,IntKind.min]
 simp
theorem V9 (a b:Int) : fF a b=fF b a:=by unfold fF; rw[Int.add_comm]
theorem XM (a b c:Int) : fF (fF a b) c=fF (fF a c) b:=by unfold fF; simp only[adF]; omega
def YK (b:Str) (i:Nat) : Int:=FU .u32 (FU .u32 (FU .u32 (IX .u32 (IntKind.u32.wrap ((b.getD (4 * i) 0).toNat:Int)) 24) (IX .u32 (IntKind.u32.wrap ((b.getD (4 * i + 1) 0).toNat:Int)) 16)) (IX .u32 (IntKind.u32.wrap ((b.getD (4 * i + 2) 0).toNat:Int)) 8)) (IntKind.u32.wrap ((b.getD (4 * i + 3) 0).toNat:Int))
def JX (l:List Int) (i:Nat) : Int:=fF (fF (fF (l.getD (i - 16) 0) (abT (l.getD (i - 15) 0))) (l.getD (i - 7) 0)) (acw (l.getD (i - 2) 0))
def sched (b:Str) : Nat→List Int
 | 0=>[]
 | i + 1=>sched b i++[if i<16 then YK b i else JX (sched b i) i]
theorem lK (b:Str) : ∀ i,(sched b i).length=i
 | 0=>rfl
 | i + 1=>by rw[sched,List.length_append,lK b i]; rfl
def SX (v:List Int) (k w:Int) : List Int:=match v with
 | [a,b,c,d,e,f,g,h] =>
   [fF (fF (fF (fF (fF h (P9 (qE e 6) (qE e 11) (qE e 25))) (chU e f g)) k) w) (fF (P9 (qE a 2) (qE a 13) (qE a 22)) (af6 a b c)),a,b,c,
    fF d (fF (fF (fF (fF h (P9 (qE e 6) (qE e 11) (qE e 25))) (chU e f g)) k) w),e,f,g]
 | _=>v
def rJ (k w:List Int) (h:List Int) : Nat→List Int
 | 0=>h
 | i + 1=>SX (rJ k w h i) (k.getD i 0) (w.getD i 0)
theorem eight {l:List Int} (h:l.length=8) : ∃ a b c d e f g i,l=[a,b,c,d,e,f,g,i]:=by
 rcases l with _ | ⟨a,_ | ⟨b,_ | ⟨c,_ | ⟨d,_ | ⟨e,_ | ⟨f,_ | ⟨g,_ | ⟨i,_ | ⟨j,l⟩⟩⟩⟩⟩⟩⟩⟩⟩ <;> first | (simp at h; done) | exact⟨_,_,_,_,_,_,_,_,rfl⟩ | (simp at h; omega)
theorem Ta {v:List Int} (h:v.length=8) (k w:Int) : (SX v k w).length=8:=by
 obtain⟨a,b,c,d,e,f,g,i,rfl⟩:=eight h
 rfl
theorem Dw (k w:List Int) {h:List Int} (hl:h.length=8) : ∀ i,(rJ k w h i).length=8
 | 0=>hl
 | i + 1=>Ta (Dw k w hl i) _ _
def oJ (h k:List Int) (b:Str) : List Int:=List.zipWith fF h (rJ k (sched b 64) h 64)
theorem Ui {h:List Int} (k:List Int) (b:Str) (hl:h.length=8) : (oJ h k b).length=8:=by
 unfold oJ; rw[List.length_zipWith,Dw k _ hl,hl]; rfl
section
variable {M:RM} {b T:Nat} {ws:List Int}
theorem qB (h:M.heap b=some (.row (dD.row ws) false T 0)) {i:Nat} (hi:i<ws.length) {K:AV→Prop} : ah M (.ptr b i) K=K (N .u32 (ws.getD i 0)):=by
 refine aA h ?_
 rw[nS,List.getElem?_map,List.getElem?_eq_getElem hi]
 simp[List.getD,hi]
theorem uu (h:M.heap b=some (.row (dD.row ws) false T 0)) {i:Nat} (hi:i<ws.length) (x:Int) {K:RM→Prop} : aC M (.ptr b i) (N .u32 x) 1 K=K (M.put b (.row (dD.row (ws.set i x)) false T 0)):=by
 refine bQ _ h (by rw[kD]; exact hi) rfl rfl ?_
 rw[nS,nS,List.map_set]
theorem dY {k:IntKind} {j:Int} {i len:Nat} (hj:j=(i:Int)) (hi:i<len) {K:AV→Prop} : dK (.ptr b 0) (N k j) len 1 K=K (.ptr b i):=by
 subst hj
 rw[Yy]
 simp only[Int.toNat_natCast,Nat.mul_one,Nat.zero_add]
 exact propext ⟨fun h=>h.2.2,fun h=>⟨by omega,by omega,h⟩⟩
end
theorem set_mid {l:List Int} {n:Nat} {x z:Int} (hn:0<n) : (l++List.replicate n z).set l.length x=(l++[x])++List.replicate (n - 1) z:=by
 obtain⟨m,rfl⟩ : ∃ m,n=m + 1:=⟨n - 1,by omega⟩
 rw[List.replicate_succ,List.set_append_right _ _ (Nat.le_refl _),Nat.sub_self]
 simp
theorem MB {l r:List Int} {i:Nat} (h:i<l.length) : (l++r).getD i 0=l.getD i 0:=by simp[List.getD,List.getElem?_append_left h]
theorem Fs (b:Str) {i:Nat} (hi:i<64) : (sched b i++List.replicate (64 - i) 0).set i (if i<16 then YK b i else JX (sched b i) i)=sched b (i + 1)++List.replicate (64 - (i + 1)) 0:=by
 have:=set_mid (l:=sched b i) (n:=64 - i) (x:=if i<16 then YK b i else JX (sched b i) i) (z:=0) (by omega)
 rw[lK] at this
 rw[this,sched]
 congr 2
def turns:List Int:=[2,6,7,11,13,17,18,19,22,25]
def Gs (kd:IntKind) (c:au) : Prop:=∀ {M:RM} {x n:Int} {Q:ak},n∈turns→Q (N .u32 (qE x n)) M→c [N .u32 x,N kd n] M Q
def Zn (c:au) : Prop:=∀ {M:RM} {x n:Int} {Q:ak},n∈turns→Q (N .u32 (qE x n)) M→c [N .u32 x,N .i64 (IntKind.i64.wrap (0 - n))] M Q
theorem WH:∀ n∈turns,xE .u64 (IntKind.u64.wrap (IntKind.i64.wrap (0 - n))) 31=32 - n:=by decide +kernel
theorem MV:∀ n∈turns,IntKind.u64.wrap (32 - (32 - n))=n∧IntKind.u64.wrap (32 - n)=32 - n∧0≤n∧0≤32 - n:=by decide +kernel
theorem ZO (k:IntKind) (a b:Int) : FU k a b=FU k b a:=by unfold FU; rw[BitVec.or_comm]
theorem Y3:Zn fun args M Q=>∃ a0 a1,args=[a0,a1]∧kE a0 a1 M Q:=by
 intro M x n Q hn hQ
 refine⟨_,_,rfl, ?_⟩
 unfold kE
 obtain⟨h1,h2,h3,h4⟩:=MV n hn
 rw[gU,fQ,WH n hn,pE]
 refine⟨h4, ?_⟩
 rw[gB,h1,jm]
 refine⟨h3, ?_⟩
 rw[fJ,ZO]
 exact hQ
theorem XA {c:au} (hc:Zn c) : Gs .i64 fun args M Q=>∃ a0 a1,args=[a0,a1]∧CK c a0 a1 M Q:=by
 intro M x n Q hn hQ
 refine⟨_,_,rfl, ?_⟩
 unfold CK
 rw[abw]
 exact hc hn hQ
theorem QB:Gs .u64 fun args M Q=>∃ a0 a1,args=[a0,a1]∧Aw a0 a1 M Q:=by
 intro M x n Q hn hQ
 refine⟨_,_,rfl, ?_⟩
 unfold Aw
 obtain⟨h1,h2,h3,h4⟩:=MV n hn
 rw[jm]
 refine⟨h3, ?_⟩
 rw[gB,h2,pE]
 refine⟨h4, ?_⟩
 rw[fJ]
 exact hQ
end Go.Ab.Sha
namespace Go.Ab.Sha
open Go Go.Ab Go.Ab.Sm
theorem EG {i:Nat} (hi:i<1000) {K:AV→Prop} : af .mul (N .i64 4) (N .i64 (i:Int)) K=K (N .i64 ((4 * i:Nat) : Int)):=by
 rw[kN,bO (by omega) (by omega)]; rfl
theorem kK {i:Nat} (j:Nat) (hi:i<1000000000) (hj:j<1000) {K:AV→Prop} {n:Int} (hn:n=(j:Int)) : af .add (N .i64 (i:Int)) (N .i64 n) K=K (N .i64 ((i + j:Nat) : Int)):=by
 subst hn; exact addN (by omega)
theorem FX {i:Nat} (j:Nat) (hi:i<1000000000) (hj:j≤i) {K:AV→Prop} {n:Int} (hn:n=(j:Int)) : af .sub (N .i64 (i:Int)) (N .i64 n) K=K (N .i64 ((i - j:Nat) : Int)):=by
 subst hn; exact acR hj (by omega)
theorem pV {i:Nat} (j:Nat) {K:AV→Prop} {n:Int} (hn:n=(j:Int)) : af .lss (N .i64 (i:Int)) (N .i64 n) K=K (Bo (decide (i<j))):=by
 subst hn; exact gQ
theorem Bs.zF {M:RM} {v:AV} {b:Str} (h:Bs M v b) {i:Nat} (hi:i<b.length) {K:AV→Prop} : (aM v (N .i64 (i:Int)) 1 fun t=>ah M t K)=K (By (b.getD i 0)):=by
 rw[h.read hi]; simp[List.getD,hi]
theorem PI {h v:List Int} {j:Nat} (hj:j<8) (hh:h.length=8) (hv:v.length=8) :
  ((List.zipWith fF h v).take j++h.drop j).set j (fF (h.getD j 0) (v.getD j 0))=(List.zipWith fF h v).take (j + 1)++h.drop (j + 1):=by
 have hz:(List.zipWith fF h v).length=8:=by rw[List.length_zipWith,hh,hv]; rfl
 have h1:((List.zipWith fF h v).take j).length=j:=by rw[List.length_take]; omega
 have h2:h.drop j=h[j] :: h.drop (j + 1):=List.drop_eq_getElem_cons (by omega)
 rw[h2,List.set_append_right _ _ (by omega),h1,Nat.sub_self,List.set_cons_zero,List.take_succ_eq_append_getElem (by omega),List.append_assoc]
 congr 1
 rw[List.getElem_zipWith]
 simp[List.getD,show j<h.length by omega,show j<v.length by omega]
theorem SB {h v:List Int} {j:Nat} (hj:j<8) (hh:h.length=8) (hv:v.length=8) : ((List.zipWith fF h v).take j++h.drop j).getD j 0=h.getD j 0:=by
 have hz:(List.zipWith fF h v).length=8:=by rw[List.length_zipWith,hh,hv]; rfl
 have h1:((List.zipWith fF h v).take j).length=j:=by rw[List.length_take]; omega
 simp[List.getD,List.getElem?_append_right (show((List.zipWith fF h v).take j).length≤j by omega),h1]
theorem Sz {h v:List Int} {j:Nat} (hj:j≤8) (hh:h.length=8) (hv:v.length=8) : ((List.zipWith fF h v).take j++h.drop j).length=8:=by
 rw[List.length_append,List.length_take,List.length_drop,List.length_zipWith,hh,hv]; omega
theorem lh {cs:List AV} {rest:List (Nat × Nat × AV)} {off:Nat} {k:IntKind} {n:Int} (h:off<cs.length) : mf cs ((off,1,N k n) :: rest)=mf (cs.set off (N k n)) rest:=by
 rw[mf,if_pos ⟨rfl,rfl,by omega⟩,List.set_eq_take_append_cons_drop,if_pos h,List.append_assoc]
 rfl
theorem ad5 {a b c d e f g h:Int} : mf [N .u32 0,N .u32 0,N .u32 0,N .u32 0,N .u32 0,N .u32 0,N .u32 0,N .u32 0] [(0,1,N .u32 a),(1,1,N .u32 b),(2,1,N .u32 c),(3,1,N .u32 d),(4,1,N .u32 e),(5,1,N .u32 f),(6,1,N .u32 g),(7,1,N .u32 h)]=some (dD.row [a,b,c,d,e,f,g,h]):=by
 rw[lh (by decide)]
 simp only[List.set]
 rw[lh (by simp)]
 simp only[List.set]
 rw[lh (by simp)]
 simp only[List.set]
 rw[lh (by simp)]
 simp only[List.set]
 rw[lh (by simp)]
 simp only[List.set]
 rw[lh (by simp)]
 simp only[List.set]
 rw[lh (by simp)]
 simp only[List.set]
 rw[lh (by simp)]
 simp only[List.set]
 rfl
def TT (TK TS:Nat) (c:au) : Prop:=∀ {M:RM} {sb kb:Nat} {bv:AV} {h k:List Int} {b:Str} {Q:ak},M.heap sb=some (.row (dD.row h) false TS 0)→sb<M.next→h.length=8 →
 M.heap kb=some (.row (dD.row k) false TK 0)→kb<M.next→kb≠sb→k.length=64→Bs M bv b→b.length=64 →
 (∀ M',ag [sb] M M'→M'.heap sb=some (.row (dD.row (oJ h k b)) false TS 0)→Q (.tup []) M')→c [.ptr sb 0,bv,.ptr kb 0] M Q
theorem WE {TK TS:Nat} {ct:au} (ht:Gs .i64 ct) : TT TK TS fun args M Q=>∃ a0 a1 a2,args=[a0,a1,a2]∧qD TK ct TS a0 a1 a2 M Q:=by
 intro M sb kb bv h k b Q hs hsl hhl hk hkl hks hkn hb hbl hQ
 refine⟨_,_,_,rfl, ?_⟩
 unfold qD
 rw[aG]
 have k0:ag [] M (M.push (.row (dD.row (List.replicate 64 0)) false TK 0)):=(ag.refl _ _).push _
 have n0:(M.push (.row (dD.row (List.replicate 64 0)) false TK 0)).heap M.next=some (.row (dD.row (sched b 0++List.replicate (64 - 0) 0)) false TK 0):=by simp[RM.push,sched]
 have l0:M.next<(M.push (.row (dD.row (List.replicate 64 0)) false TK 0)).next:=by simp[RM.push]
 show bf _ _ (M.push (.row (dD.row (List.replicate 64 0)) false TK 0))
 generalize M.push (.row (dD.row (List.replicate 64 0)) false TK 0)=M0 at *
 refine aI (fun m ys M3=>∃ i:Nat,m=16 - i∧ys=[N .i64 (i:Int)]∧i≤16∧ag [] M M3∧M.next<M3.next∧M3.heap M.next=some (.row (dD.row (sched b i++List.replicate (64 - i) 0)) false TK 0)) _
  ⟨0,rfl,rfl,by omega,k0,l0,n0⟩ ?_
 rintro next m ys M3 hnext ⟨i,rfl,rfl,hi,k3,l3,n3⟩
 simp only[dC]
 rw[pV 16 (by rfl)]
 have hb3:=hb.keep k3 (by simp)
 refine aN (fun hc=>?_) fun hc=>?_
 ·have Ii:i<16:=of_decide_eq_true hc
  rw[EG (by omega),hb3.zF (by omega),By,gU,pE]
  refine⟨by decide, ?_⟩
  rw[EG (by omega),kK 1 (by omega) (by omega) (by rfl),hb3.zF (by omega),By,gU,pE]
  refine⟨by decide, ?_⟩
  rw[fJ,EG (by omega),kK 2 (by omega) (by omega) (by rfl),hb3.zF (by omega),By,gU,pE]
  refine⟨by decide, ?_⟩
  rw[fJ,EG (by omega),kK 3 (by omega) (by omega) (by rfl),hb3.zF (by omega),By,gU,fJ,dY rfl (by omega)]
  have e:=Fs b (i:=i) (by omega)
  rw[if_pos Ii] at e
  have hlen:(sched b i++List.replicate (64 - i) 0).length=64:=by rw[List.length_append,lK,List.length_replicate]; omega
  rw[uu n3 (by omega),kK 1 (by omega) (by omega) (by rfl)]
  refine hnext _ _ _ (by omega) ⟨i + 1,rfl,rfl,by omega,k3.new _ (Nat.le_refl _),l3, ?_⟩
  rw[aB,← e]
  rfl
 have Ii:i=16:=by have:=of_decide_eq_false hc; omega
 subst Ii
 clear hnext
 refine aI (fun m ys M4=>∃ i:Nat,m=64 - i∧ys=[N .i64 (i:Int)]∧16≤i∧i≤64∧ag [] M M4∧M.next<M4.next∧M4.heap M.next=some (.row (dD.row (sched b i++List.replicate (64 - i) 0)) false TK 0)) _
  ⟨16,rfl,rfl,by omega,by omega,k3,l3,n3⟩ ?_
 rintro next m ys M4 hnext ⟨i,rfl,rfl,hi0,hi,k4,l4,n4⟩
 simp only[dC]
 rw[pV 64 (by rfl)]
 refine aN (fun hc=>?_) fun hc=>?_
 ·have nX:i<64:=of_decide_eq_true hc
  have hlen:(sched b i++List.replicate (64 - i) 0).length=64:=by rw[List.length_append,lK,List.length_replicate]; omega
  have ld:∀ (j:Nat),j<i→∀ {K:AV→Prop},ah M4 (.ptr M.next j) K=K (N .u32 ((sched b i).getD j 0)):=fun j hj K=>by
   rw[qB n4 (by omega),MB (by rw[lK]; exact hj)]
  have L15:∀ {K:AV→Prop},ah M4 (.ptr M.next (i - 15)) K=K (N .u32 ((sched b i).getD (i - 15) 0)):=ld _ (by omega)
  have L2:∀ {K:AV→Prop},ah M4 (.ptr M.next (i - 2)) K=K (N .u32 ((sched b i).getD (i - 2) 0)):=ld _ (by omega)
  have L16:∀ {K:AV→Prop},ah M4 (.ptr M.next (i - 16)) K=K (N .u32 ((sched b i).getD (i - 16) 0)):=ld _ (by omega)
  have L7:∀ {K:AV→Prop},ah M4 (.ptr M.next (i - 7)) K=K (N .u32 ((sched b i).getD (i - 7) 0)):=ld _ (by omega)
  rw[FX 15 (by omega) (by omega) (by rfl),dY rfl (by omega),L15,FX 2 (by omega) (by omega) (by rfl),dY rfl (by omega),L2,FX 16 (by omega) (by omega) (by rfl),dY rfl (by omega),L16,jm]
  refine⟨by decide, ?_⟩
  rw[FX 7 (by omega) (by omega) (by rfl),dY rfl (by omega),L7,jm]
  refine⟨by decide, ?_⟩
  refine ht (by decide) ?_
  rw[L16]; refine⟨rfl, ?_⟩
  rw[L7]; refine⟨rfl, ?_⟩
  refine ht (by decide) ?_
  rw[L16]; refine⟨rfl, ?_⟩
  rw[L7]; refine⟨rfl, ?_⟩
  rw[fB,fB,bE,bE]
  refine ht (by decide) ?_
  rw[L16]; refine⟨rfl, ?_⟩
  rw[L7]; refine⟨rfl, ?_⟩
  refine ht (by decide) ?_
  rw[L16]; refine⟨rfl, ?_⟩
  rw[L7]; refine⟨rfl, ?_⟩
  rw[fB,fB,bE,dY rfl (by omega)]
  have e:=Fs b (i:=i) (by omega)
  rw[if_neg (by omega)] at e
  rw[uu n4 (by omega),kK 1 (by omega) (by omega) (by rfl)]
  refine hnext _ _ _ (by omega) ⟨i + 1,rfl,rfl,by omega,by omega,k4.new _ (Nat.le_refl _),l4, ?_⟩
  rw[aB,← e]
  rfl
 have nX:i=64:=by have:=of_decide_eq_false hc; omega
 subst nX
 clear hnext
 rw[Nat.sub_self,List.replicate_zero,List.append_nil] at n4
 have hwl:=lK b 64
 generalize hwe:sched b 64=w at *
 have hs4:=k4.ay hs hsl (by simp)
 have hk4:=k4.ay hk hkl (by simp)
 rw[fP,aP hs4 (by rw[kD,hhl]),aG]
 have n5:(M4.push (.row [N .u32 0,N .u32 0,N .u32 0,N .u32 0,N .u32 0,N .u32 0,N .u32 0,N .u32 0] false TS 0)).heap M4.next=some (.row [N .u32 0,N .u32 0,N .u32 0,N .u32 0,N .u32 0,N .u32 0,N .u32 0,N .u32 0] false TS 0):=by simp[RM.push]
 rw[qi n5 (by rw[kD,hhl]) (by rfl) (dD.fT h)]
 have k5:ag [] M4 ((M4.push (.row [N .u32 0,N .u32 0,N .u32 0,N .u32 0,N .u32 0,N .u32 0,N .u32 0,N .u32 0] false TS 0)).put M4.next (.row (dD.row h) false TS 0)):=((ag.refl _ _).push _).new _ (Nat.le_refl _)
 have n5' : ((M4.push (.row [N .u32 0,N .u32 0,N .u32 0,N .u32 0,N .u32 0,N .u32 0,N .u32 0,N .u32 0] false TS 0)).put M4.next (.row (dD.row h) false TS 0)).heap M4.next=some (.row (dD.row (rJ k w h 0)) false TS 0):=aB _
 have l5:M4.next<((M4.push (.row [N .u32 0,N .u32 0,N .u32 0,N .u32 0,N .u32 0,N .u32 0,N .u32 0,N .u32 0] false TS 0)).put M4.next (.row (dD.row h) false TS 0)).next:=by simp[RM.push,RM.put]
 generalize (M4.push (.row [N .u32 0,N .u32 0,N .u32 0,N .u32 0,N .u32 0,N .u32 0,N .u32 0,N .u32 0] false TS 0)).put M4.next (.row (dD.row h) false TS 0)=M5 at *
 refine aI (fun m ys M6=>∃ i:Nat,m=64 - i∧ys=[N .i64 (i:Int)]∧i≤64∧ag [] M4 M6∧M4.next<M6.next∧M6.heap M4.next=some (.row (dD.row (rJ k w h i)) false TS 0)) _
  ⟨0,rfl,rfl,by omega,k5,l5,n5'⟩ ?_
 rintro next m ys M6 hnext ⟨i,rfl,rfl,hi,k6,l6,n6⟩
 simp only[dC]
 rw[pV 64 (by rfl)]
 have hs6:=k6.ay hs4 (Nat.lt_of_lt_of_le hsl k4.next) (by simp)
 have hk6:=k6.ay hk4 (Nat.lt_of_lt_of_le hkl k4.next) (by simp)
 have n46:=k6.ay n4 l4 (by simp)
 have hrl:=Dw k w hhl i
 refine aN (fun hc=>?_) fun hc=>?_
 ·have nX:i<64:=of_decide_eq_true hc
  have hstep:rJ k w h (i + 1)=SX (rJ k w h i) (k.getD i 0) (w.getD i 0):=rfl
  obtain⟨va,vb,vc,vd,ve,vf,vg,vh,hv⟩:=eight hrl
  rw[hv] at n6 hstep
  have hrow:dD.row [va,vb,vc,vd,ve,vf,vg,vh]=[N .u32 va,N .u32 vb,N .u32 vc,N .u32 vd,N .u32 ve,N .u32 vf,N .u32 vg,N .u32 vh]:=rfl
  rw[hrow] at n6
  have I:∀ (j:Nat),j<8→∀ {K:AV→Prop},dK (.ptr M4.next 0) (N .i64 (j:Int)) 8 1 K=K (.ptr M4.next j):=fun j hj K=>dY rfl hj
  have I0:∀ {K:AV→Prop},dK (.ptr M4.next 0) (N .i64 0) 8 1 K=K (.ptr M4.next 0):=I 0 (by omega)
  have I1:∀ {K:AV→Prop},dK (.ptr M4.next 0) (N .i64 1) 8 1 K=K (.ptr M4.next 1):=I 1 (by omega)
  have I2:∀ {K:AV→Prop},dK (.ptr M4.next 0) (N .i64 2) 8 1 K=K (.ptr M4.next 2):=I 2 (by omega)
  have I3:∀ {K:AV→Prop},dK (.ptr M4.next 0) (N .i64 3) 8 1 K=K (.ptr M4.next 3):=I 3 (by omega)
  have I4:∀ {K:AV→Prop},dK (.ptr M4.next 0) (N .i64 4) 8 1 K=K (.ptr M4.next 4):=I 4 (by omega)
  have I5:∀ {K:AV→Prop},dK (.ptr M4.next 0) (N .i64 5) 8 1 K=K (.ptr M4.next 5):=I 5 (by omega)
  have I6:∀ {K:AV→Prop},dK (.ptr M4.next 0) (N .i64 6) 8 1 K=K (.ptr M4.next 6):=I 6 (by omega)
  have I7:∀ {K:AV→Prop},dK (.ptr M4.next 0) (N .i64 7) 8 1 K=K (.ptr M4.next 7):=I 7 (by omega)
  have L0:∀ {K:AV→Prop},ah M6 (.ptr M4.next 0) K=K (N .u32 va):=aA n6 rfl
  have L1:∀ {K:AV→Prop},ah M6 (.ptr M4.next 1) K=K (N .u32 vb):=aA n6 rfl
  have L2:∀ {K:AV→Prop},ah M6 (.ptr M4.next 2) K=K (N .u32 vc):=aA n6 rfl
  have L3:∀ {K:AV→Prop},ah M6 (.ptr M4.next 3) K=K (N .u32 vd):=aA n6 rfl
  have L4:∀ {K:AV→Prop},ah M6 (.ptr M4.next 4) K=K (N .u32 ve):=aA n6 rfl
  have L5:∀ {K:AV→Prop},ah M6 (.ptr M4.next 5) K=K (N .u32 vf):=aA n6 rfl
  have L6:∀ {K:AV→Prop},ah M6 (.ptr M4.next 6) K=K (N .u32 vg):=aA n6 rfl
  have L7:∀ {K:AV→Prop},ah M6 (.ptr M4.next 7) K=K (N .u32 vh):=aA n6 rfl
  have Ik:∀ {K:AV→Prop},dK (.ptr kb 0) (N .i64 (i:Int)) 64 1 K=K (.ptr kb i):=dY rfl nX
  have Iw:∀ {K:AV→Prop},dK (.ptr M.next 0) (N .i64 (i:Int)) 64 1 K=K (.ptr M.next i):=dY rfl nX
  have Lk:∀ {K:AV→Prop},ah M6 (.ptr kb i) K=K (N .u32 (k.getD i 0)):=qB hk6 (by omega)
  have Lw:∀ {K:AV→Prop},ah M6 (.ptr M.next i) K=K (N .u32 (w.getD i 0)):=qB n46 (by omega)
  simp only[I0,I1,I2,I3,I4,I5,I6,I7,L0,L1,L2,L3,L4,L5,L6,L7,fP,Ik,Iw,Lk,Lw,fQ,fJ,fB,bE,iV,true_and]
  refine ht (by decide) ?_
  simp only[I0,I1,I2,I3,I4,I5,I6,I7,L0,L1,L2,L3,L4,L5,L6,L7,fP,Ik,Iw,Lk,Lw,fQ,fJ,fB,bE,iV,true_and]
  refine ht (by decide) ?_
  simp only[I0,I1,I2,I3,I4,I5,I6,I7,L0,L1,L2,L3,L4,L5,L6,L7,fP,Ik,Iw,Lk,Lw,fQ,fJ,fB,bE,iV,true_and]
  refine ht (by decide) ?_
  simp only[I0,I1,I2,I3,I4,I5,I6,I7,L0,L1,L2,L3,L4,L5,L6,L7,fP,Ik,Iw,Lk,Lw,fQ,fJ,fB,bE,iV,true_and]
  refine ht (by decide) ?_
  simp only[I0,I1,I2,I3,I4,I5,I6,I7,L0,L1,L2,L3,L4,L5,L6,L7,fP,Ik,Iw,Lk,Lw,fQ,fJ,fB,bE,iV,true_and]
  refine ht (by decide) ?_
  simp only[I0,I1,I2,I3,I4,I5,I6,I7,L0,L1,L2,L3,L4,L5,L6,L7,fP,Ik,Iw,Lk,Lw,fQ,fJ,fB,bE,iV,true_and]
  refine ht (by decide) ?_
  simp only[I0,I1,I2,I3,I4,I5,I6,I7,L0,L1,L2,L3,L4,L5,L6,L7,fP,Ik,Iw,Lk,Lw,fQ,fJ,fB,bE,iV,true_and]
  rw[gN]
  refine⟨_,ad5, ?_⟩
  rw[qi n6 (by rw[kD]; rfl) (by rfl) (dD.fT _),show(IntKind.i64.wrap ((i:Int) + 1))=((i + 1:Nat) : Int) from eO (by omega)]
  refine hnext _ _ _ (by omega) ⟨i + 1,rfl,rfl,by omega,k6.new _ (Nat.le_refl _),l6, ?_⟩
  rw[aB,hstep]
  rfl
 have nX:i=64:=by have:=of_decide_eq_false hc; omega
 subst nX
 clear hnext
 have hbf:oJ h k b=List.zipWith fF h (rJ k w h 64):=by
  unfold oJ
  rw[hwe]
 rw[hbf] at hQ
 generalize rJ k w h 64=v at *
 rw[aP n6 (by rw[kD,hrl])]
 have k46:=k4.trans k6
 refine aI (fun m ys M7=>∃ j:Nat,m=8 - j∧ys=[N .i64 (j:Int)]∧j≤8∧ag [sb] M M7∧M7.heap sb=some (.row (dD.row ((List.zipWith fF h v).take j++h.drop j)) false TS 0)) _
  ⟨0,rfl,rfl,by omega,k46.mono (by simp),by rw[List.take_zero,List.drop_zero]; exact hs6⟩ ?_
 rintro next m ys M7 hnext ⟨j,rfl,rfl,hj,k7,s7⟩
 simp only[dC]
 rw[pV 8 (by rfl)]
 refine aN (fun hc=>?_) fun hc=>?_
 ·have hj8:j<8:=of_decide_eq_true hc
  rw[Nf]
  refine⟨by omega,by omega,N .u32 (v.getD j 0), ?_, ?_⟩
  ·rw[Int.toNat_natCast,nS,List.getElem?_map,List.getElem?_eq_getElem (by omega)]
   simp[List.getD,show j<v.length by omega]
  have hl7:=Sz (v:=v) (Nat.le_of_lt hj8) hhl hrl
  rw[fP,dY rfl hj8,qB s7 (by omega),bE,fP,dY rfl hj8,uu s7 (by omega),kK 1 (by omega) (by omega) (by rfl)]
  refine hnext _ _ _ (by omega) ⟨j + 1,rfl,rfl,by omega,k7.put _ (.inr (by simp)), ?_⟩
  rw[aB,SB hj8 hhl hrl,← PI hj8 hhl hrl]
  rfl
 ·have hj8:j=8:=by have:=of_decide_eq_false hc; omega
  subst hj8
  refine hQ M7 k7 ?_
  rw[s7,List.drop_of_length_le (by omega),List.append_nil,List.take_of_length_le (by rw[List.length_zipWith]; omega)]
end Go.Ab.Sha
set_option maxRecDepth 100000
namespace Go.Ab.Dot
open Go Go.Ab
def yA (p1:Nat) (a0:AV) (M0:RM) (Q:ak) : Prop:=jf false 2 a0 (.sc (.slice none 0 0)) fun h=>aj h ( Q (.sc (.slice none 0 0)) M0) ( bM p1 0 [(N .u8 0)] [] fun g e=>aO g e M0 fun i c=>appW p1 1 1 [(N .u8 0)] false i a0 c fun j d=>Q j d)
end Go.Ab.Dot
