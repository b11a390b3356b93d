/- Part 5 of the ground of the proofs of this seat (texts WBl to B9). By an AI agent. -/
import Derived.Test.YtpdpipgmdhkomaaBlk4
set_option maxRecDepth 100000
set_option linter.unusedVariables false
set_option linter.unusedSimpArgs false
namespace Go.Ab.Bl
open Go Go.Ab
def kN (p1:au) (p2:Nat) (p3 p4 p5 p6:au) (M0:RM) (Q:ah) : Prop:=p1 [] M0 fun S m=>mQ S fun U=>aC U ( Q (Bo false) m) ( uJ p2 1 [(N .u8 0)] (N .i64 4097) (N .i64 4097) fun R D=>aW R D m fun V x=>p3 [V] x fun d y=>bA d 0 fun vr=>bA d 1 fun vs=>bA d 2 fun vt=>bA d 3 fun W=>p3 [(.sc (.slice none 0 0))] y fun e z=>bA e 0 fun vu=>bA e 1 fun vv=>bA e 2 fun X=>bA e 3 fun Y=>p4 [(.sc (.slice none 0 0))] z fun h B=>bA h 0 fun vw=>bA h 1 fun vx=>bA h 2 fun Z=>p5 [] B fun va C=>p6 [va,(St [120])] C fun w t=>bA w 0 fun vy=>bA w 1 fun vb=>af .eql W (N .i64 2) fun i=>az i true (fun c=>c Y t) (fun c=>c .undef t) fun vc u=>az i true (fun P=>af .eql vc (N .i64 0) fun vd=>P vd u) (fun c=>c .undef u) fun ve v=>bn i ve (Bo false) fun g=>az g true (fun E=>E X v) (fun c=>c .undef v) fun vf n=>az g true (fun F=>bI vf fun vg=>F vg n) (fun c=>c .undef n) fun vh o=>az g true (fun G=>af .eql vh (N .i64 0) fun vi=>G vi o) (fun c=>c .undef o) fun vj p=>bn g vj (Bo false) fun j=>az j true (fun H=>H Z p) (fun c=>c .undef p) fun vk q=>az j true (fun I=>af .eql vk (N .i64 14) fun vl=>I vl q) (fun c=>c .undef q) fun vm r=>bn j vm (Bo false) fun l=>az l true (fun L=>L vb r) (fun c=>c .undef r) fun vn s=>az l true (fun O=>af .eql vn (N .i64 4) fun vo=>O vo s) (fun c=>c .undef s) fun vp A=>bn l vp (Bo false) fun vq=>Q vq A)
def qG (p1 p2 p3 p4 p5 p6 p7 p8:au) (p9:Nat) (p10:au) (p11:Nat) (p12 p13 p14 p15:au) (M0:RM) (Q:ah) : Prop:=p1 [(N .i64 65),(N .u8 1)] M0 fun d1 wm=>p2 [d1] wm fun r wn=>bA r 0 fun e=>bA r 1 fun s=>bA r 2 fun t=>bA r 3 fun d2=>p3 [] wn fun d I=>af .neq d2 (N .i64 0) fun G=>az G false (fun c=>c d I) (fun c=>c .undef I) fun d3 vq=>az G false (fun x4=>eu false 1 d3 (.sc (.pointer none)) fun d4=>x4 d4 vq) (fun c=>c .undef vq) fun d5 v4=>bn G (Bo true) d5 fun u=>az u false (fun ya=>ya t v4) (fun c=>c .undef v4) fun d6 v8=>az u false (fun yh=>bI d6 fun d7=>yh d7 v8) (fun c=>c .undef v8) fun d8 L=>az u false (fun w7=>af .neq d8 (N .i64 2) fun d9=>w7 d9 L) (fun c=>c .undef L) fun e0 V=>bn u (Bo true) e0 fun j=>az j false (fun xg=>xg t V) (fun c=>c .undef V) fun e1 vc=>az j false (fun xn=>bf e1 (N .i64 1) 1 fun e2=>xn e2 vc) (fun c=>c .undef vc) fun e3 z=>az j false (fun xw=>ag z e3 fun e4=>xw e4 z) (fun c=>c .undef z) fun e5 vs=>az j false (fun x1=>bI e5 fun e6=>x1 e6 vs) (fun c=>c .undef vs) fun e7 vt=>az j false (fun x2=>af .neq e7 (N .i64 1) fun e8=>x2 e8 vt) (fun c=>c .undef vt) fun e9 vu=>bn j (Bo true) e9 fun v=>az v false (fun x3=>x3 s vu) (fun c=>c .undef vu) fun g0 vv=>az v false (fun x5=>bI g0 fun g1=>x5 g1 vv) (fun c=>c .undef vv) fun g2 vw=>az v false (fun x6=>af .neq g2 (N .i64 65) fun g3=>x6 g3 vw) (fun c=>c .undef vw) fun g4 vx=>bn v (Bo true) g4 fun w=>az w false (fun x7=>x7 e vx) (fun c=>c .undef vx) fun g5 vy=>az w false (fun x8=>AQ g5 fun g6=>x8 g6 vy) (fun c=>c .undef vy) fun g7 vz=>az w false (fun x9=>af .neq g7 (N .i64 64) fun g8=>x9 g8 vz) (fun c=>c .undef vz) fun g9 v0=>bn w (Bo true) g9 fun h0=>aC h0 ( Q (Bo false) v0) ( p4 [d,e] v0 fun wj ws=>p5 [d,s] ws fun h1 v1=>lc .neq h1 e fun h2=>aC h2 ( Q (Bo false) v1) ( p4 [d,e] v1 fun h3 v2=>bf t (N .i64 0) 1 fun h4=>ag v2 h4 fun h5=>p5 [d,h5] v2 fun n7 v3=>bf t (N .i64 1) 1 fun h6=>ag v3 h6 fun h7=>p5 [d,h7] v3 fun n8 wt=>p6 [d,e] wt fun wk wu=>bA wk 0 fun h8=>bA wk 1 fun h9=>p7 [d,e] wu fun wl wv=>bA wl 0 fun i0=>bA wl 1 fun i1=>p8 [s] wv fun H ww=>bA H 0 fun i2=>bA H 1 fun i3=>bA H 2 fun i4=>bW p9 5 [(N .u8 0)] [(0,1,(N .u8 111)),(1,1,(N .u8 116)),(2,1,(N .u8 104)),(3,1,(N .u8 101)),(4,1,(N .u8 114))] fun yo w2=>aW yo w2 ww fun i5 wx=>NQ i5 wx fun i6 wy=>p10 [i6] wy fun i7 wz=>bW p11 2 [(St [])] [(0,1,e),(1,1,i7)] fun yp w3=>aW yp w3 wz fun i8 w0=>p12 [d,i8] w0 fun i9 w1=>p13 [d,(.sc (.slice none 0 0))] w1 fun yq v5=>bI wj fun yr=>af .eql yr (N .i64 1) fun h=>aY h true (fun yb=>yb wj v5 none) (fun c=>c .undef v5 none) fun ys v6 j0=>aY h true (fun yc=>bf ys (N .i64 0) 1 fun yt=>yc yt v6 none) (fun c=>c .undef v6 none) fun yu A m7=>aY h true (fun yd=>ag A yu fun yv=>yd yv A none) (fun c=>c .undef A none) fun yw v7 m8=>aY h true (fun ye=>ye e v7 none) (fun c=>c .undef v7 none) fun yx v9 m9=>aY h true (fun yf=>lc .eql yw yx fun yy=>yf yy v9 none) (fun c=>c .undef v9 none) fun yz wa n0=>bn h yz (Bo false) fun n=>aY n true (fun yg=>yg h3 wa none) (fun c=>c .undef wa none) fun y0 wb n1=>aY n true (fun yi=>bI y0 fun y1=>yi y1 wb none) (fun c=>c .undef wb none) fun y2 wc n2=>aY n true (fun yj=>af .eql y2 (N .i64 2) fun y3=>yj y3 wc none) (fun c=>c .undef wc none) fun y4 wd n3=>bn n y4 (Bo false) fun C=>aY C true (fun yk=>yk h9 wd none) (fun c=>c .undef wd none) fun y5 we n4=>aY C true (fun yl=>af .eql y5 (N .i64 0) fun y6=>yl y6 we none) (fun c=>c .undef we none) fun y7 wf n5=>bn C y7 (Bo false) fun g=>aY g true (fun ym=>ym h8 wf none) (fun c=>c .undef wf none) fun wg B n6=>aY g true (fun yn=>iD B wg fun y8=>yn y8 B none) (fun c=>c .undef B none) fun wh O j1=>az g true (fun w4=>p1 [(N .i64 65),(N .u8 1)] O fun za wo=>w4 za wo) (fun c=>c .undef O) fun zb m=>Jn g true (fun w5=>iD m wg fun y9=>(y9=wh∧w5)) (fun c=>c) (aY g true (fun w6=>iD m zb fun zc=>w6 zc m none) (fun c=>c .undef m none) fun zd P j2=>aY g true (fun w8=>lc .eql wh zd fun ze=>w8 ze P none) (fun c=>c .undef P none) fun zf R j3=>bn g zf (Bo false) fun wi=>aY wi true (fun w9=>w9 i1 R none) (fun c=>c .undef R none) fun zg S j4=>bn wi zg (Bo false) fun i=>aY i true (fun xa=>xa i0 S none) (fun c=>c .undef S none) fun zh x j5=>aY i true (fun xb=>iD x zh fun zi=>xb zi x none) (fun c=>c .undef x none) fun zj U j6=>aY i true (fun xc=>xc s U none) (fun c=>c .undef U none) fun zk y j7=>aY i true (fun xd=>iD y zk fun zl=>xd zl y none) (fun c=>c .undef y none) fun zm W j8=>aY i true (fun xe=>lc .eql zj zm fun zn=>xe zn W none) (fun c=>c .undef W none) fun zo X j9=>bn i zo (Bo false) fun D=>aY D true (fun xf=>xf i4 X none) (fun c=>c .undef X none) fun zp Y l0=>aY D true (fun xh=>af .eql zp (N .i64 0) fun zq=>xh zq Y none) (fun c=>c .undef Y none) fun zr Z l1=>bn D zr (Bo false) fun E=>aY E true (fun xi=>xi i2 Z none) (fun c=>c .undef Z none) fun zs va l2=>aY E true (fun xj=>af .eql zs (N .i64 65) fun zt=>xj zt va none) (fun c=>c .undef va none) fun zu vb l3=>bn E zu (Bo false) fun o=>aY o true (fun xk=>xk i3 vb none) (fun c=>c .undef vb none) fun zv vd l4=>aY o true (fun xl=>bI zv fun zw=>xl zw vd none) (fun c=>c .undef vd none) fun zx ve l5=>aY o true (fun xm=>af .eql zx (N .i64 2) fun zy=>xm zy ve none) (fun c=>c .undef ve none) fun zz vf l6=>bn o zz (Bo false) fun p=>aY p true (fun xo=>xo i9 vf none) (fun c=>c .undef vf none) fun z0 vg l7=>aY p true (fun xp=>bI z0 fun z1=>xp z1 vg none) (fun c=>c .undef vg none) fun z2 vh l8=>aY p true (fun xq=>af .eql z2 (N .i64 1) fun z3=>xq z3 vh none) (fun c=>c .undef vh none) fun z4 vi l9=>bn p z4 (Bo false) fun F=>aY F true (fun xr=>xr yq vi none) (fun c=>c .undef vi none) fun z5 vj m0=>aY F true (fun xs=>af .eql z5 (N .i64 3) fun z6=>xs z6 vj none) (fun c=>c .undef vj none) fun z7 vk m1=>bn F z7 (Bo false) fun l=>aY l true (fun xt=>xt d vk none) (fun c=>c .undef vk none) fun z8 vl m2=>az l true (fun xu=>p14 [z8] vl fun z9 wp=>xu z9 wp) (fun c=>c .undef vl) fun c0 vm=>aY l true (fun xv=>bI c0 fun c1=>xv c1 vm none) (fun c=>c .undef vm none) fun c2 vn m3=>aY l true (fun xx=>af .eql c2 (N .i64 0) fun c3=>xx c3 vn none) (fun c=>c .undef vn none) fun c4 vo m4=>bn l c4 (Bo false) fun q=>aY q true (fun xy=>xy d vo none) (fun c=>c .undef vo none) fun c5 vp m5=>az q true (fun xz=>p15 [c5] vp fun c6 wq=>xz c6 wq) (fun c=>c .undef vp) fun c7 vr=>aY q true (fun x0=>af .eql c7 (N .i64 0) fun c8=>x0 c8 vr none) (fun c=>c .undef vr none) fun c9 wr m6=>bn q c9 (Bo false) fun d0=>Q d0 wr)))
def pX (p1:au) (p2 p3:Nat) (p4 p5:au) (rc:(FuncId→Prop)) (p6:au) (p7 p8:Nat) (p9:au) (a0:AV) (M0:RM) (Q:ah) : Prop:=bI a0 fun H=>af .gtr H (N .i64 4096) fun I=>aC I ( Q (.tup [(St []),(.sc (.slice none 0 0)),(.sc (.slice none 0 0)),(N .i64 2)]) M0) ( bI a0 fun L=>eD .u64 L fun O=>p1 [(.sc (.slice none 0 0)),O] M0 fun P r=>aW (.row [(.sc (.slice none 0 0))] false p2 0) (fun c=>.ptr c 0) r fun d s=>aR s d P 1 fun t=>aW (.row [(.sc (.slice none 0 0))] false p3 0) (fun c=>.ptr c 0) t fun e z=>p4 [a0] z fun R A=>p5 [R,(N .i64 64)] A fun S B=>Bz rc S B (fun q j F=>ag j e fun m=>p4 [q] j fun V l=>ag l e fun U=>(U=m∧bW p2 1 [(.sc (.slice none 0 0))] [(0,1,V)] fun G E=>Dx G E l fun W C c=>appW p2 1 24 [(.sc (.slice none 0 0))] false m W C fun X D=>aR D e X 1 fun u=>p6 [q] u fun Y v=>aW (.row [(N .u8 0),(N .u8 0),(N .u8 0),(N .u8 0),(N .u8 0),(N .u8 0),(N .u8 0),(N .u8 0),(N .u8 0),(N .u8 0),(N .u8 0),(N .u8 0),(N .u8 0),(N .u8 0),(N .u8 0),(N .u8 0),(N .u8 0),(N .u8 0),(N .u8 0),(N .u8 0),(N .u8 0),(N .u8 0),(N .u8 0),(N .u8 0),(N .u8 0),(N .u8 0),(N .u8 0),(N .u8 0),(N .u8 0),(N .u8 0),(N .u8 0),(N .u8 0)] false p7 0) (fun c=>.ptr c 0) v fun p w=>aR w p Y 32 fun i=>ag i d fun Z=>jY (zW 32 1 p none none) fun va=>appW p8 1 1 [(N .u8 0)] false Z va i fun vb x=>aR x d vb 1 fun y=>F y)) (fun g=>ag g d fun vc=>ag g d fun n=>ag g e fun o=>p9 [vc] g fun vd h=>ag h d fun ve=>(ve=n∧ag h e fun vf=>(vf=o∧Q (.tup [vd,n,o,(N .i64 0)]) h))))
def mI (p1 p2 p3 p4 p5:au) (p6:Nat) (p7:au) (rc:(FuncId→Prop)) (p8:au) (p9:Nat) (a0:AV) (M0:RM) (Q:ah) : Prop:=p1 [a0] M0 fun e v=>p2 [e,(N .i64 4096)] v fun t w=>p3 [e] w fun S i=>af .neq S (N .i64 0) fun d=>az d false (fun c=>c e i) (fun c=>c .undef i) fun U n=>az d false (fun I=>p4 [U] n fun V E=>I V E) (fun c=>c .undef n) fun W q=>az d false (fun L=>L t q) (fun c=>c .undef q) fun X r=>az d false (fun O=>p5 [X] r fun Y x=>O Y x) (fun c=>c .undef r) fun Z j=>az d false (fun G=>af .mul Z (N .i64 32) fun va=>G va j) (fun c=>c .undef j) fun vb l=>az d false (fun H=>af .neq W vb fun vc=>H vc l) (fun c=>c .undef l) fun vd m=>bn d (Bo true) vd fun ve=>aC ve ( Q (.tup [(N .i64 0),(.sc (.slice none 0 0)),(N .i64 14)]) m) ( aW (.row [(.sc (.slice none 0 0))] false p6 0) (fun s=>.ptr s 0) m fun g y=>bI a0 fun vf=>p4 [e] y fun vg z=>af .sub vf vg fun vh=>jY (dJ 1 a0 (some vh) none none) fun vi=>p7 [vi,(N .i64 32)] z fun vj A=>Bz rc vj A (fun vr h P=>ag h g fun u=>JG 32 vr fun vl=>dx h vl 32 fun vm=>p8 [vm] h fun vn p=>ag p g fun vk=>(vk=u∧bW p9 1 [(St [])] [(0,1,vn)] fun R F=>Dx R F p fun vo B s=>appW p9 1 16 [(St [])] false u vo B fun vp C=>aR C g vp 1 fun D=>P D)) (fun o=>ag o g fun vq=>Q (.tup [t,vq,(N .i64 0)]) o))
def uZ (p1:Nat) (M0:RM) (Q:ah) : Prop:=aW (.map [] 0) (fun e=>.map e) M0 fun i c=>jd [(.sc (.map none))] [(0,1,i)] fun j=>kZ p1 j fun h g=>aW h g c fun l d=>Q l d
def kE (p1:Nat) (p2:au) (p3:Nat) (p4:au) (p5:Nat) (a0 a1:AV) (M0:RM) (Q:ah) : Prop:=kZ p1 a0 fun s q=>aW s q M0 fun g e=>ag e g fun t=>dS t fun u=>eF u 0 fun v=>ag e v fun w=>gL false [2] (.sc (.slice none 0 0)) true e w a1 fun m=>bA m 0 fun x=>bA m 1 fun y=>mQ y fun z=>aC z ( Q (.tup [(.sc (.slice none 0 0)),(N .i64 4)]) e) ( p2 [x] e fun h j=>bA h 0 fun A=>bA h 1 fun i=>bA h 2 fun n=>af .neq n (N .i64 0) fun B=>aC B ( Q (.tup [(.sc (.slice none 0 0)),n]) j) ( p4 [i,(.fn (.func p3) [] [g])] j fun C l=>aC C ( Q (.tup [(.sc (.slice none 0 0)),(N .i64 4)]) l) ( bI i fun D=>bE (fun r d c=>af .lss (aj d 1) D fun E=>aC E ( bf i (aj d 1) 1 fun F=>ag c F fun G=>ag c g fun H=>dS H fun I=>eF I 0 fun L=>ag c L fun O=>gL false [2] (.sc (.slice none 0 0)) false c O G fun o=>bI o fun P=>bI (aj d 0) fun R=>af .sub A R fun S=>Eg false (N .i64 64) S fun U=>af .neq P U fun V=>aC V ( Q (.tup [(.sc (.slice none 0 0)),(N .i64 14)]) c) ( appW p5 1 1 [(N .u8 0)] false (aj d 0) o c fun W p=>af .add (aj d 1) (N .i64 1) fun X=>r [W,X] p)) ( Q (.tup [(aj d 0),(N .i64 0)]) c)) [(.sc (.slice none 0 0)),(N .i64 0)] l)))
def qD (p1:Nat) (a0 a1:AV) (M0:RM) (Q:ah) : Prop:=uJ p1 1 [(N .u8 0)] a0 a0 fun l i=>aW l i M0 fun e g=>bE (fun j c d=>af .lss (aj c 0) a0 fun m=>aC m ( af .mul (aj c 0) (N .i64 7) fun o=>eD .u8 o fun p=>af .add a1 p fun q=>bf e (aj c 0) 1 fun r=>aR d r q 1 fun h=>af .add (aj c 0) (N .i64 1) fun n=>j [n] h) ( Q e d)) [(N .i64 0)] g
def lm (p1:au) (a0 a1:AV) (M0:RM) (Q:ah) : Prop:=aW (.map [] 0) (fun C=>.map C) M0 fun g v=>bI a1 fun G=>bE (fun E n c=>af .lss (aj n 0) G fun H=>aC H ( bf a1 (aj n 0) 1 fun I=>ag c I fun j=>dS a0 fun L=>eF L 0 fun O=>ag c O fun P=>gL false [2] (.sc (.slice none 0 0)) false c P j fun R=>p1 [R] c fun l h=>bA l 0 fun vq=>bA l 1 fun s=>bA l 2 fun S=>gL false [2] (Bo false) false h g j fun m=>az m false (fun e=>e S h) (fun e=>e .undef h) fun U q=>az m false (fun D=>af .eql U (N .i64 0) fun V=>D V q) (fun e=>e .undef q) fun W A=>bn m (Bo true) W fun X=>lu false [2] A g j X fun B=>bI s fun Y=>bE (fun F p i=>af .lss (aj p 0) Y fun Z=>aC Z ( bf s (aj p 0) 1 fun va=>ag i va fun vb=>lu false [2] i g vb (Bo true) fun w=>af .add (aj p 0) (N .i64 1) fun vc=>F [vc] w) ( af .add (aj n 0) (N .i64 1) fun vd=>E [vd] i)) [(N .i64 0)] B) ( dS a0 fun ve=>eF ve 0 fun vf=>ag c vf fun vg=>BU vg c fun t x=>bE (fun r o y=>Ff t y fun vh d=>bA vh 0 fun vi=>aC vi ( Le d t fun vj=>bA vj 0 fun u=>gL false [2] (Bo false) false d g u fun vk=>mQ vk fun vl=>aC vl ( dS a0 fun vm=>eF vm 0 fun vn=>ag d vn fun vo=>Gp false [2] d vo u fun vr z=>af .add (aj o 0) (N .i64 1) fun vp=>r [vp] z) ( r [(aj o 0)] d)) ( Q (aj o 0) d)) [(N .i64 0)] x)) [(N .i64 0)] v
def lX (p1 p2 p3:au) (a0 a1:AV) (M0:RM) (Q:ah) : Prop:=p1 [a1] M0 fun d j=>fG (fun e=>p2 [a0,d] j fun n c=>mQ n fun o=>aC o ( dS a0 fun p=>eF p 0 fun h=>ag c h fun i=>p3 [a1] c fun r g=>ag g h fun q=>(q=i∧lu false [2] g i d r fun l=>e [] l)) ( e [] c)) (fun s m=>Q d m)
def jE (p1:Nat) (p2 p3:au) (a0 a1:AV) (M0:RM) (Q:ah) : Prop:=dS a0 fun l=>eF l 0 fun m=>ag M0 m fun n=>gL false [2] (.sc (.slice none 0 0)) true M0 n a1 fun d=>bA d 0 fun o=>bA d 1 fun p=>mQ p fun q=>aC q ( bW p1 1 [(St [])] [(0,1,a1)] fun j i=>aW j i M0 fun r e=>Q r e) ( p2 [o] M0 fun c g=>bA c 0 fun u=>bA c 1 fun s=>bA c 2 fun v=>p3 [a0,s] g fun t h=>Q t h)
def lS (p1:au) (a0 a1:AV) (M0:RM) (Q:ah) : Prop:=dS a0 fun e=>eF e 0 fun g=>ag M0 g fun h=>gL false [2] (.sc (.slice none 0 0)) true M0 h a1 fun c=>bA c 0 fun i=>bA c 1 fun j=>p1 [i] M0 fun l d=>Q (.tup [l,j]) d
def kM (p1 p2:au) (p3:Nat) (a0 a1:AV) (M0:RM) (Q:ah) : Prop:=p1 [a0,a1] M0 fun e c=>p2 [e,(.fn (.func p3) [] [])] c fun g d=>Q g d
def kC (p1 p2:au) (a0:AV) (M0:RM) (Q:ah) : Prop:=dS a0 fun e=>eF e 0 fun g=>ag M0 g fun h=>p1 [h] M0 fun i c=>p2 [i] c fun j d=>Q j d
def ku (a0:AV) (M0:RM) (Q:ah) : Prop:=dS a0 fun q=>eF q 0 fun r=>ag M0 r fun s=>BU s M0 fun d g=>bE (fun i e h=>Ff d h fun j c=>bA j 0 fun l=>aC l ( Le c d fun m=>bA m 1 fun n=>bI n fun o=>af .add (aj e 0) o fun p=>i [p] c) ( Q (aj e 0) c)) [(N .i64 0)] g
def tK (p1 p2 p3 p4:Nat) (a0 a1:AV) (M0:RM) (Q:ah) : Prop:=kZ p1 a0 fun l i=>aW l i M0 fun n g=>kZ p2 a1 fun m j=>aW m j g fun d c=>fG (fun e=>ag c d fun o=>af .lss o (N .i64 1) fun p=>aC p ( False) ( e [] c)) (fun q h=>Q (.fn (.func p4) [] [n,d]) h)
def sS (p1 p2:au) (a0:AV) (M0:RM) (Q:ah) : Prop:=p1 [a0] M0 fun e c=>p2 [e] c fun g d=>Q g d
def qC (a0:AV) (M0:RM) (Q:ah) : Prop:=dS a0 fun e=>eF e 1 fun g=>ag M0 g fun h=>aC h ( Q (N .i64 0) M0) ( dS a0 fun i=>eF i 0 fun j=>ag M0 j fun c=>bI c fun d=>Q d M0)
def oO (a0:AV) (M0:RM) (Q:ah) : Prop:=af .add a0 (N .i64 64) fun c=>af .sub c (N .i64 1) fun d=>af .quo d (N .i64 64) fun e=>Q e M0
def jy (p1:au) (a0 a1:AV) (M0:RM) (Q:ah) : Prop:=p1 [a0,a1] M0 fun d c=>af .geq d (N .i64 0) fun e=>Q e c
def jG (p1:au) (a0 a1:AV) (M0:RM) (Q:ah) : Prop:=ag M0 a1 fun d=>p1 [d,a0] M0 fun e c=>mQ e fun g=>Q g c
def lT (a0 a1:AV) (M0:RM) (Q:ah) : Prop:=dS a0 fun h=>eF h 0 fun d=>ag M0 d fun e=>gL false [2] (.sc (.slice none 0 0)) true M0 e a1 fun c=>bA c 0 fun i=>bA c 1 fun g=>Q g M0
def mF (p1:Nat) (a0:AV) (M0:RM) (Q:ah) : Prop:=eu false 2 a0 (.sc (.slice none 0 0)) fun h=>aC h ( Q (.sc (.slice none 0 0)) M0) ( bW p1 0 [(N .u8 0)] [] fun g e=>aW g e M0 fun i c=>appW p1 1 1 [(N .u8 0)] false i a0 c fun j d=>Q j d)
def kw (p1 p2:au) (p3:Nat) (a0 a1:AV) (M0:RM) (Q:ah) : Prop:=bI a1 fun R=>bE (fun x d g=>af .lss (aj d 1) R fun z=>aC z ( fG (fun i=>bf a1 (aj d 1) 1 fun A=>ag g A fun h=>p1 [a0,h] g fun B j=>mQ B fun e=>az e true (fun c=>c (aj d 0) j) (fun c=>c .undef j) fun C l=>az e true (fun u=>u h l) (fun c=>c .undef l) fun D n=>az e true (fun v=>p2 [C,D] n fun E s=>v E s) (fun c=>c .undef n) fun F o=>az e true (fun w=>mQ F fun G=>w G o) (fun c=>c .undef o) fun H m=>bn e H (Bo false) fun I=>aC I ( bW p3 1 [(St [])] [(0,1,h)] fun y t=>aW y t m fun L p=>appW p3 1 16 [(St [])] false (aj d 0) L p fun O q=>i [O] q) ( i [(aj d 0)] m)) (fun S r=>af .add (aj d 1) (N .i64 1) fun P=>x [(aj S 0),P] r)) ( Q (aj d 0) g)) [(.sc (.slice none 0 0)),(N .i64 0)] M0
def kD (p1:au) (cv:(FuncId→au)) (a0 a1:AV) (M0:RM) (Q:ah) : Prop:=p1 [a0,a1] M0 fun e h=>af .eql e (N .i64 (-1)) fun p=>aC p ( Q a0 h) ( af .add e (N .i64 1) fun q=>bE (fun o c d=>bI a0 fun r=>af .lss (aj c 1) r fun s=>aC s ( fG (fun g=>bf a0 (aj c 1) 1 fun u=>ag d u fun j=>nU cv a1 [j] d fun v i=>mQ v fun w=>aC w ( bf a0 (aj c 0) 1 fun x=>aR i x j 1 fun l=>af .add (aj c 0) (N .i64 1) fun y=>g [y] l) ( g [(aj c 0)] i)) (fun B m=>af .add (aj c 1) (N .i64 1) fun t=>o [(aj B 0),t] m)) ( jY (dJ 1 a0 (some (aj c 0)) none none) fun z=>JZ [(St [])] z d fun C n=>jY (dJ 1 a0 none (some (aj c 0)) none) fun A=>Q A n)) [e,q] h)
def jK (p1:au) (p2:Nat) (a0:AV) (M0:RM) (Q:ah) : Prop:=p1 [a0] M0 fun c d=>bA c 0 fun l=>bA c 1 fun m=>aW (.row [(N .u8 0),(N .u8 0),(N .u8 0),(N .u8 0),(N .u8 0),(N .u8 0),(N .u8 0),(N .u8 0),(N .u8 0),(N .u8 0),(N .u8 0),(N .u8 0),(N .u8 0),(N .u8 0),(N .u8 0),(N .u8 0),(N .u8 0),(N .u8 0),(N .u8 0),(N .u8 0),(N .u8 0),(N .u8 0),(N .u8 0),(N .u8 0),(N .u8 0),(N .u8 0),(N .u8 0),(N .u8 0),(N .u8 0),(N .u8 0),(N .u8 0),(N .u8 0)] false p2 0) (fun h=>.ptr h 0) d fun j e=>aR e j l 32 fun g=>af .neq m (N .i64 0) fun i=>Q i g
def kX (cv:(FuncId→au)) (a0 a1:AV) (M0:RM) (Q:ah) : Prop:=bI a0 fun m=>bE (fun g c d=>af .lss (aj c 0) m fun n=>aC n ( bf a0 (aj c 0) 1 fun h=>ag d h fun i=>nU cv a1 [i] d fun j e=>aC j ( Q (aj c 0) e) ( af .add (aj c 0) (N .i64 1) fun l=>g [l] e)) ( Q (N .i64 (-1)) d)) [(N .i64 0)] M0
def lW (p1:au) (a0 a1:AV) (M0:RM) (Q:ah) : Prop:=p1 [a0,a1] M0 fun d c=>af .geq d (N .i64 0) fun e=>Q e c
def oW (a0 a1:AV) (M0:RM) (Q:ah) : Prop:=bI a0 fun l=>bE (fun e d c=>af .lss (aj d 0) l fun m=>aC m ( bf a0 (aj d 0) 1 fun g=>ag c g fun h=>lc .eql a1 h fun i=>aC i ( Q (aj d 0) c) ( af .add (aj d 0) (N .i64 1) fun j=>e [j] c)) ( Q (N .i64 (-1)) c)) [(N .i64 0)] M0
end Go.Ab.Bl
set_option maxRecDepth 10000
namespace Go.Ab.Bl
open Go Go.Ab Go.Ab.aP
theorem YQ {M:RM} {c p:Bool} {f:ah→Prop} {G:AV→RM→Prop} (hf:c=false→∀ k:ah,k (Bo p) M→f k) (hG:G (Bo (c || p)) M) :
  az (Bo c) false f (fun k=>k .undef M) (fun t M'=>bn (Bo c) (Bo true) t fun u=>G u M'):=by
 cases c with
 | true=>rw[ik]; dsimp only; rw[dK]; exact hG
 | false=>rw[cZ]; exact hf rfl _ (by rw[gZ]; exact hG)
def Qv (most:Nat) (bs:List UInt8) : Option (Nat × List UInt8):=match DW bs with
 | some (w,n)=>if most<w then none else some (w,bs.drop n)
 | none=>none
structure Rest (M:RM) (v v' : AV) (r:List UInt8) : Prop where
 sl:Sl BY M v' r
 cap:oo v'
 sub:∀ d∈ak v',d∈ak v
end Go.Ab.Bl
namespace Go.Ab.Bl
open Go Go.Ab Go.Ab.aP Go.Ab.Sha
def Pn:nQ Str where
 size:=1
 rel M cs b S:=∃ v,cs=[v]∧Bs M v b∧∀ x∈ak v,S x
 len h:=by obtain⟨v,rfl,_⟩:=h; rfl
 one h:=by obtain⟨v,rfl,h,_⟩:=h; simp[aO.one h.sl]
 mono h hs:=by obtain⟨v,rfl,h,k⟩:=h; exact⟨v,rfl,h,fun x hx=>hs x (k x hx)⟩
 lt h:=by obtain⟨v,rfl,h,k⟩:=h; exact⟨v,rfl,h,fun x hx=>⟨k x hx,h.lt x hx⟩⟩
 keep h hk hb:=by obtain⟨v,rfl,h,k⟩:=h; exact⟨v,rfl,h.keep hk (fun x hx hm=>hb x hm (k x hx)),k⟩
def fO (n:Nat) (b:Str) : Nat:=(b.length + n - 1) / n
def ek (n:Nat) (b:Str) : List Str:=(List.range (fO n b)).map fun k=>(b.drop (k * n)).take n
theorem iP (n:Nat) (b:Str) : (ek n b).length=fO n b:=by simp[ek]
theorem Nl {n k:Nat} {b:Str} (h:k<(ek n b).length) : (ek n b)[k]=(b.drop (k * n)).take n:=by simp[ek]
theorem uP {n k:Nat} {b:Str} (h:k<fO n b) : (ek n b).take (k + 1)=(ek n b).take k++[(b.drop (k * n)).take n]:=by
 rw[List.take_succ_eq_append_getElem (by rw[iP]; exact h),Nl]
theorem nV {n k:Nat} {b:Str} (hn:0<n) : k<fO n b↔k * n<b.length:=by
 unfold fO
 rw[← Nat.succ_le_iff,Nat.le_div_iff_mul_le hn,Nat.succ_mul]
 omega
theorem Us {M:RM} {v:AV} {b:Str} (h:Bs M v b) : Head v b.length:=by
 obtain⟨hs,hc⟩:=h
 unfold Sl at hs
 generalize hn:b.length=n at *
 generalize BY.row b=cs at *
 cases hs with
 | nil=>exact .nil
 | emp b0=>exact .emp b0
 | slc b0 o _ cap cs hb hl =>
   cases cap with
   | ex c=>exact .ex _ _ _ _ hc
   | op e=>have:e=1:=hc; subst this; exact .op _ _ _
theorem Qt {M:RM} {v:AV} {b:Str} (h:Bs M v b) (hb:0<b.length) : ∃ c o cap,v=.slc c o b.length cap∧c<M.next∧M.loads c o b.length=some (BY.row b):=by
 obtain⟨c,o,cap,rfl,h1,h2⟩:=aO.pos h.sl hb
 exact⟨c,o,cap,rfl,h1,by rw[show b.length=b.length * 1 by omega]; exact h2⟩
theorem UQ {M:RM} {v:AV} {b:Str} (h:Bs M v b) {i n:Nat} (hi:i + n≤b.length) (hn:0<n) : Bs M (Cj v i n) ((b.drop i).take n)∧∀ x∈ak (Cj v i n),x∈ak v:=by
 obtain⟨c,o,cap,rfl,h1,h2⟩:=Qt h (by omega)
 have hlen:((b.drop i).take n).length=n:=by simp; omega
 refine⟨⟨?_,Nat.le_refl _⟩,fun x hx=>hx⟩
 have h3:=yM (n:=b.length) (by rw[Nat.mul_one]; exact h2) (l:=i) (u:=i + n) (by omega) hi
 rw[Nat.mul_one,Nat.mul_one,show i + n - i=n by omega] at h3
 unfold Sl; rw[hlen]
 exact .slc _ _ _ _ _ h1 (by rw[show n * BY.size=n from Nat.mul_one n]; exact h3)
theorem QI {M:RM} {w:AV} {d:Str} {n:Nat} {K:AV→Prop} (h:Bs M w d) (hd:d.length=n) (hn:0<n) (hK:K (.agg (BY.row d))) : JG n w fun t=>dx M t n K:=by
 obtain⟨c,o,cap,rfl,h1,h2⟩:=Qt h (by omega)
 refine⟨c,o,_,cap,rfl,by omega,c,o,_,rfl, ?_,hK⟩
 rw[← hd]; exact h2
theorem Dl {C:FuncId→Prop} {gf b2 b3 n T2 T3:Nat} {M:RM} {v:AV} {b:Str} {round:AV→RM→(RM→Prop)→Prop} {fin:RM→Prop} (hC:C gf) (hn:0<n) (hn1:n<1000000) (hl:b.length<100000000000) (hv:Bs M v b)
  (I:Nat→RM→Prop) (h0:I 0 M) (hI:∀ k M',I k M'→M'.heap b2=some (.row [v] false T2 0)∧M'.heap b3=some (.row [N .i64 (n:Int)] false T3 0)∧Bs M' v b)
  (hr:∀ k M' w,k<fO n b→I k M'→Bs M' w ((b.drop (k * n)).take n)→(∀ x∈ak w,x∈ak v)→round w M' (fun M''=>I (k + 1) M''))
  (hf:∀ M',I (fO n b) M'→fin M') : Bz C (.fn (.func gf) [] [.ptr b2 0,.ptr b3 0]) M round fin:=by
 refine⟨gf,b2,0,b3,0,v,b.length,n,fun k M'=>k≤fO n b∧I k M',rfl,hC,hn,by omega,by omega,Us hv,⟨Nat.zero_le _,h0⟩, ?_, ?_, ?_⟩
 ·rintro k M' ⟨_,h⟩
  obtain⟨h2,h3,_⟩:=hI k M' h
  exact⟨je.2 (by rw[RM.Eh h2]; rfl),je.2 (by rw[RM.Eh h3]; rfl)⟩
 ·rintro k M' hk ⟨_,h⟩
  have hkn:=(nV hn).2 hk
  have hp:=UQ (hI k M' h).2.2 (i:=k * n) (n:=min n (b.length - k * n)) (by omega) (by omega)
  have e:(b.drop (k * n)).take (min n (b.length - k * n))=(b.drop (k * n)).take n:=by
   rw[← List.length_drop,List.take_eq_take_iff]; simp
  rw[e] at hp
  have:=hr k M' _ hkn h hp.1 hp.2
  have e2:(fun M''=>k + 1≤fO n b∧I (k + 1) M'')=fun M''=>I (k + 1) M'':=by funext M''; simp; intro _; omega
  rw[e2]; exact this
 ·rintro k M' hk ⟨hle,h⟩
  have:¬ k<fO n b:=fun h=>by have:=(nV hn).1 h; omega
  have:k=fO n b:=by omega
  subst this
  exact hf M' h
def EL (gf T2 T3:Nat) (c:au) : Prop:=∀ {M:RM} {v:AV} {b:Str} {n:Nat} {Q:ah},Bs M v b→0<n→n<1000000 →
 (∀ M',aa [] M M'→M'.heap M.next=some (.row [v] false T2 0)→M'.heap (M.next + 1)=some (.row [N .i64 (n:Int)] false T3 0)→M'.next=M.next + 2→Q (.fn (.func gf) [] [.ptr M.next 0,.ptr (M.next + 1) 0]) M')→c [v,N .i64 (n:Int)] M Q
theorem MX {gf T2 T3 TS:Nat} : EL gf T2 T3 fun args M Q=>∃ a0 a1,args=[a0,a1]∧tK T2 T3 TS gf a0 a1 M Q:=by
 intro M v b n Q hv hn hn1 hQ
 refine⟨_,_,rfl, ?_⟩
 unfold tK
 refine⟨by rw[aO.cells hv.sl]; simp[aO.one hv.sl],by rw[aO.cells hv.sl]; simp, ?_⟩
 rw[aO.cells hv.sl]
 dsimp only
 rw[aV]
 refine⟨rfl,Nat.le_refl 1, ?_⟩
 dsimp only
 rw[aV]
 have k1:aa [] M (M.push (.row [v] false T2 0)):=(aa.refl _ _).push _
 have n1:(M.push (.row [v] false T2 0)).heap M.next=some (.row [v] false T2 0):=RM.bN _
 have x1:(M.push (.row [v] false T2 0)).next=M.next + 1:=rfl
 show fG _ _
 generalize M.push (.row [v] false T2 0)=M1 at *
 have n2:(M1.push (.row [N .i64 (n:Int)] false T3 0)).heap M1.next=some (.row [N .i64 (n:Int)] false T3 0):=RM.bN _
 have k2:aa [] M1 (M1.push (.row [N .i64 (n:Int)] false T3 0)):=(aa.refl _ _).push _
 have n3:=k2.ay n1 (by omega) (by simp)
 have x2:(M1.push (.row [N .i64 (n:Int)] false T3 0)).next=M.next + 2:=by rw[dB,x1]
 rw[show(N .i64 (n:Int)).cells=[N .i64 (n:Int)] from rfl]
 unfold fG
 generalize M1.push (.row [N .i64 (n:Int)] false T3 0)=M2 at *
 dsimp only
 rw[aG n2 rfl,kV,show decide ((n:Int)<1)=false by simp; omega,iI,x1]
 rw[x1] at n2
 exact hQ M2 (k1.trans k2) n3 n2 x2
theorem LZ {n:Nat} (hn:n≤100000) {M:RM} {Q:ah} (hQ:Q (N .i64 (((n + 64 - 1) / 64:Nat) : Int)) M) : oO (N .i64 (n:Int)) M Q:=by
 unfold oO
 rw[eY 64 (by omega) (by omega) (by rfl),yS 1 (by omega) (by omega) (by rfl),yN]
 refine⟨by decide, ?_⟩
 have e:((n + 64 - 1:Nat) : Int).tdiv 64=(((n + 64 - 1) / 64:Nat) : Int):=rfl
 rw[e,aM (by omega) (by omega)]
 exact hQ
def Mw (c:au) : Prop:=∀ {M:RM} {n:Nat} {Q:ah},n≤100000→Q (N .i64 (((n + 64 - 1) / 64:Nat) : Int)) M→c [N .i64 (n:Int)] M Q
def OY (T:Nat) (c:au) : Prop:=∀ {M:RM} {r:Nat} {S:Nat→Prop} {bs:List UInt8} {f:Bool} {Q:ah},zH T S M r bs f→Q (N .i64 (if f then 0 else(bs.length:Int))) M→c [.ptr r 0] M Q
theorem PT {T:Nat} : OY T fun args M Q=>∃ a0,args=[a0]∧qC a0 M Q:=by
 intro M r S bs f Q h hQ
 refine⟨_,rfl, ?_⟩
 unfold qC
 obtain⟨v,hr,hs,hc,hS⟩:=h.row
 rw[bC,iE,Nat.zero_add,aG hr rfl]
 cases f with
 | true=>rw[jv]; exact hQ
 | false=>rw[iI,bC,vS,aG hr rfl,aO.len hs]; exact hQ
theorem UE {cs ch:au} (hs:DT cs) (hh:Ji ch) : xS fun args M Q=>∃ a0,args=[a0]∧sS cs ch a0 M Q:=by
 intro M v b Q hv hl hQ
 refine⟨_,rfl, ?_⟩
 unfold sS
 refine hs hv hl fun M1 k1=>hh (sZ b) fun M2 k2=>hQ M2 (k1.trans k2)
theorem Lr {T:Nat} : Sha.jw T fun args M Q=>∃ a0,args=[a0]∧mF T a0 M Q:=by
 intro M v s Q hv hl hQ
 exact FZ hv hl hQ
def oq (m:Str) : Option (Nat × List Str):=match Qv 4096 m with
 | none=>none
 | some (n,r)=>if r.length=32 * ((n + 64 - 1) / 64) then some (n,(ek 32 r).map mK) else none
theorem N9 (m:Str) : (Qv 4096 m=none∧∃ r,iB 4096 m false=(0,r,true))∨∃ n r,Qv 4096 m=some (n,r)∧iB 4096 m false=(n,r,false)∧n≤4096∧r.length≤m.length∧m.drop (m.length - r.length)=r:=by
 unfold Qv iB
 cases h:DW m with
 | none=>exact .inl ⟨rfl,m,rfl⟩
 | some p =>
   obtain⟨w,n⟩:=p
   have hb:=Mo h
   by_cases hw:4096<w
   ·refine .inl ⟨by simp[hw],m,by simp[hw]⟩
   ·refine .inr ⟨w,m.drop n,by simp[hw],by simp[hw],by omega,by simp, ?_⟩
    rw[List.length_drop,show m.length - (m.length - n)=n by omega]
def rX (TS:Nat) (c:au) : Prop:=∀ {M:RM} {v:AV} {m:Str} {Q:ah},Bs M v m→m.length≤140737488355328 →
 (∀ M',aa [] M M'→oq m=none→Q (.tup [N .i64 0,bK,N .i64 14]) M') →
 (∀ n l lv M',aa [] M M'→oq m=some (n,l)→Ow eB M' M.next TS lv l→Q (.tup [N .i64 (n:Int),lv,N .i64 0]) M')→c [v] M Q
theorem NA {TR T2 T3 gf TSS TS:Nat} {cr ci ce cl cc ck ch:au} {rc:FuncId→Prop} (hr:EI TR cr) (hi:Ry TR ci) (he:Rp TR ce) (hl:OY TR cl) (hc:Mw cc) (hk:EL gf T2 T3 ck) (hrc:rc gf) (hh:Ji ch) :
  rX TS fun args M Q=>∃ a0,args=[a0]∧mI cr ci ce cl cc TSS ck rc ch TS a0 M Q:=by
 intro M v m Q hv hml hN hS
 refine⟨_,rfl, ?_⟩
 unfold mI
 simp only[rD,O5,JW,KO]
 refine hr hv.sl (by omega) fun r M1 rd1 hr1 k1=>?_
 refine hi rd1 (by decide) fun M2 rd2 k2 nx2=>?_
 have k12:aa [] M M2:=yP k1 k2 hr1
 refine he rd2 ?_
 rcases N9 m with⟨hsm,rr,hri⟩ | ⟨n,rr,hsm,hri,hn,hrl,hdr⟩
 ·rw[hri] at rd2 ⊢
  dsimp only
  rw[if_pos rfl,dH,show((14:Int) != 0)=true by decide]
  simp only[ik]
  rw[dK,jv]
  exact hN M2 k12 (by unfold oq; rw[hsm])
 ·rw[hri] at rd2 ⊢
  dsimp only at rd2 ⊢
  rw[if_neg (by decide),dH,show((0:Int) != 0)=false by decide]
  simp only[cZ]
  refine hl rd2 ?_
  rw[if_neg (by decide)]
  refine hc (by omega) ?_
  rw[fE,show(((n + 64 - 1) / 64:Nat) : Int) * 32=((32 * ((n + 64 - 1) / 64) : Nat) : Int) by omega,aM (by omega) (by omega),dH]
  rw[gZ]
  by_cases hlen:rr.length=32 * ((n + 64 - 1) / 64)
  ·rw[show(((rr.length:Nat) : Int) != ((32 * ((n + 64 - 1) / 64) : Nat) : Int))=false by simp; omega,iI,aV]
   have n3:(M2.push (.row [.sc (.slice none 0 0)] false TSS 0)).heap M2.next=some (.row [bK] false TSS 0):=RM.bN _
   have k3:aa [] M2 (M2.push (.row [.sc (.slice none 0 0)] false TSS 0)):=(aa.refl _ _).push _
   have x3:(M2.push (.row [.sc (.slice none 0 0)] false TSS 0)).next=M2.next + 1:=rfl
   show bI _ _
   generalize M2.push (.row [.sc (.slice none 0 0)] false TSS 0)=M3 at *
   have rd3:=rd2.keep k3 (by simp) (by simp)
   have k13:=k12.trans k3
   have hv3:=hv.keep k13 (by simp)
   rw[hv3.len]
   refine hl rd3 ?_
   rw[if_neg (by decide),fM,show(m.length:Int) - (rr.length:Int)=((m.length - rr.length:Nat) : Int) by omega,aM (by omega) (by omega)]
   refine hv3.sub (l:=m.length - rr.length) (u:=m.length) (BF _ _ _) (Vw _) (by omega) (Nat.le_refl _) fun w hw hwb=>?_
   have e0:(m.drop (m.length - rr.length)).take (m.length - (m.length - rr.length))=rr:=by
    rw[hdr,List.take_of_length_le (by omega)]
   rw[e0] at hw
   refine hk (n:=32) hw (by decide) (by decide) fun M4 k4 n4 n5 x4=>?_
   have hn4:=k13.next
   have hbw:∀ x∈ak w,x<M.next:=fun x hx=>hv.lt x (hwb x hx)
   have RZ:=k12.next
   have hn3:=k3.next
   refine Dl (n:=32) (T2:=T2) (T3:=T3) hrc (by decide) (by decide) (by omega) (hw.keep k4 (by simp)) (fun k M'=>∃ lv,aa [] M M'∧M2.next<M'.next∧M3.next + 1<M'.next∧M'.heap M2.next=some (.row [lv] false TSS 0)∧M'.heap M3.next=some (.row [w] false T2 0)∧M'.heap (M3.next + 1)=some (.row [N .i64 ((32:Nat) : Int)] false T3 0)∧Ow eB M' M.next TS lv (((ek 32 rr).take k).map mK) ∧
    (∀ x∈ak lv,x≠M2.next∧x≠M3.next∧x≠M3.next + 1)∧Bs M' w rr)
    ⟨bK,k13.trans k4,by omega,by omega,k4.ay n3 (by omega) (by simp),n4,n5,.nil,by simp[ak],hw.keep k4 (by simp)⟩ ?_ ?_ ?_
   ·rintro k M' ⟨lv,q1,q2,q3,q4,q5,q6,q7,q8,q9⟩
    exact⟨q5,q6,q9⟩
   ·rintro k M5 w5 hk5 ⟨lv,q1,q2,q3,q4,q5,q6,q7,q8,q9⟩ hw5 hb5
    have hkl:=(nV (n:=32) (b:=rr) (by decide)).1 hk5
    have hd:((rr.drop (k * 32)).take 32).length=32:=by rw[List.length_take,List.length_drop]; omega
    rw[aG q4 rfl]
    refine QI hw5 hd (by decide) ?_
    refine hh hd fun M6 k6=>?_
    have p4:=k6.ay q4 q2 (by simp)
    rw[aG p4 rfl]
    refine⟨rfl, ?_⟩
    rw[kF (x:=St (mK ((rr.drop (k * 32)).take 32))) (size:=1) rfl rfl rfl,vW]
    have hn6:=k6.next
    have hll:(((ek 32 rr).take k).map mK).length≤1000000000:=by
     rw[List.length_map,List.length_take]
     have:(ek 32 rr).length≤1000000000:=by rw[iP]; unfold fO; omega
     omega
    refine iN (E:=eB) (a:=mK ((rr.drop (k * 32)).take 32)) (Own.keep q7 k6 (by simp)) (by have:=q1.next; omega) (by decide) (by omega) (by omega) fun v7 M7 o7 k7 hn7 hv7=>?_
    have p5:M2.next ∉ ak lv:=fun h=>(q8 _ h).1 rfl
    have r4:=k7.ay p4 (by omega) p5
    rw[fP [v7] r4 (by simp) (Own.cells o7) (Own.one o7) rfl]
    have k8:aa [M2.next] M7 (M7.put M2.next (.row [v7] false TSS 0)):=(aa.refl _ _).put _ (.inr (by simp))
    have kA:aa (M2.next :: ak lv) M5 (M7.put M2.next (.row [v7] false TSS 0)):=((k6.mono (by simp)).trans (k7.mono (fun x hx=>List.mem_cons_of_mem _ hx))).trans (k8.mono (by simp))
    have hblk:∀ x∈ak v7,x≠M2.next∧x≠M3.next∧x≠M3.next + 1:=by
     intro x hx
     rcases hv7 with rfl | hv7
     ·exact q8 x hx
     ·have:=hv7 x hx; omega
    have hlv:∀ x∈M2.next :: ak lv,M.next≤x∨x∈([] : List Nat):=by
     intro x hx
     rcases List.mem_cons.1 hx with rfl | hx
     ·exact .inl RZ
     ·exact .inl (Own.blk q7 x hx).1
    refine⟨v7,q1.eX kA hlv,by rw[zB]; omega,by rw[zB]; omega,aF _, ?_, ?_, ?_,hblk, ?_⟩
    ·exact kA.ay q5 (by omega) (by
      intro h
      rcases List.mem_cons.1 h with h | h
      ·omega
      ·exact(q8 _ h).2.1 rfl)
    ·exact kA.ay q6 (by omega) (by
      intro h
      rcases List.mem_cons.1 h with h | h
      ·omega
      ·exact(q8 _ h).2.2 rfl)
    ·rw[uP hk5,List.map_append]
     exact Own.keep o7 k8 (fun x hx hm=>by simp at hm; exact(hblk x hx).1 hm)
    ·refine q9.keep kA fun x hx hm=>?_
     have:=hbw x hx
     rcases List.mem_cons.1 hm with h | h
     ·omega
     ·have:=(Own.blk q7 x h).1; omega
   ·rintro M5 ⟨lv,q1,q2,q3,q4,q5,q6,q7,q8,q9⟩
    rw[aG q4 rfl]
    rw[← iP,List.take_length] at q7
    exact hS n _ lv M5 q1 (by unfold oq; rw[hsm]; dsimp only; rw[if_pos hlen]) q7
  ·rw[show(((rr.length:Nat) : Int) != ((32 * ((n + 64 - 1) / 64) : Nat) : Int))=true by simp; omega,jv]
   exact hN M2 k12 (by unfold oq; rw[hsm]; dsimp only; rw[if_neg hlen])
def Hr (b:Str) : Str:=fH b.length++(ek 64 b).flatMap rR
theorem JJ (l:List Str) : (l.flatMap rR).length=32 * l.length:=by
 induction l with
 | nil=>rfl
 | cons x l ih=>rw[List.flatMap_cons,List.length_append,sZ,ih,List.length_cons]; omega
theorem Zt {T:Nat} {M:RM} {x z:AV} {K:AV→RM→Prop} (hc:x.cells=[x]) (h1:oneCell x=true) (hK:∀ M',aa [] M M'→M'.heap M.next=some (.row [x] false T 0)→M.next<M'.next→K (.ptr M.next 0) M') :
  aW (.row [z] false T 0) (fun b=>.ptr b 0) M fun t M1=>aR M1 t x 1 fun M2=>K t M2:=by
 simp only[aV]
 have n1:(M.push (.row [z] false T 0)).heap M.next=some (.row [z] false T 0):=RM.bN _
 rw[fP [x] n1 (by simp) hc h1 rfl]
 exact hK _ (((aa.refl _ _).push _).new _ (Nat.le_refl _)) (aF _) (by simp[RM.push,RM.put])
theorem YA {T:Nat} {M:RM} {z:AV} {K:AV→RM→Prop} {l:List AV} (hl:l=[z]) (hK:∀ M',aa [] M M'→M'.heap M.next=some (.row [z] false T 0)→M.next<M'.next→K (.ptr M.next 0) M') :
  aW (.row l false T 0) (fun b=>.ptr b 0) M fun t M1=>K t M1:=by
 subst hl
 simp only[aV]
 exact hK _ ((aa.refl _ _).push _) (RM.bN _) (by simp[RM.push])
def NL (T8 TB:Nat) (c:au) : Prop:=∀ {M:RM} {v:AV} {b:Str} {Q:ah},Bs M v b→b.length≤1000000000 →
 (4096<b.length→Q (.tup [St [],bK,bK,N .i64 2]) M) →
 (∀ mv lv M' (S:Nat→Prop),b.length≤4096→aa [] M M'→Ow BY M' M.next T8 mv (Hr b)→jq Pn M' M.next TB lv (ek 64 b) S→(∀ x,S x→M.next≤x∧x<M'.next∧x ∉ ak mv∧x ∉ ak lv)→Q (.tup [St (dI (Hr b)),mv,lv,N .i64 0]) M')→c [v] M Q
theorem QT {T8 TB TU8 T32 T2 T3 gf:Nat} {cu cl ck cs cn:au} {rc:FuncId→Prop} (hu:NG TU8 cu) (hcl:Sha.jw TU8 cl) (hk:EL gf T2 T3 ck) (hrc:rc gf) (hs:DT cs) (hn:xS cn) :
  NL TU8 T8 fun args M Q=>∃ a0,args=[a0]∧pX cu T8 TB cl ck rc cs T32 TU8 cn a0 M Q:=by
 intro M v b Q hv hbl hE hS
 refine⟨_,rfl, ?_⟩
 unfold pX
 rw[hv.len,lg]
 refine aZ (fun hgt=>?_) fun hle=>?_
 ·exact hE (by have:(b.length:Int) > 4096:=of_decide_eq_true hgt; omega)
 have hle:b.length≤4096:=by have:¬ (b.length:Int) > 4096:=of_decide_eq_false hle; omega
 rw[hv.len,dz,bS (by omega) (by omega)]
 refine hu (a0:=bK) (cs:=[]) (n:=0) (v:=b.length) .nil rfl (by omega) (by omega) fun mv M1 o1 k1=>?_
 rw[List.nil_append,Nat.zero_add] at o1
 have o1:Ow BY M1 M.next TU8 mv (fH b.length):=by
  unfold Ow; rw[show BY.row (fH b.length)=sw (fH b.length) from mr _]; exact o1
 have hul:(fH b.length).length≤10:=QG (by omega)
 refine Zt (Own.cells o1) (Own.one o1) fun M2 k2 n2 x2=>?_
 refine YA (by rfl) fun M3 k3 n3 x3=>?_
 have hn1:=k1.next
 have hn2:=k2.next
 have hn3:=k3.next
 have k13:=(k1.trans k2).trans k3
 have hv3:=hv.keep k13 (by simp)
 refine hcl hv3.sl (by omega) fun c M4 oc k4=>?_
 have hn4:=k4.next
 have hcb:Bs M4 c b:=Bs.own oc
 have hcB:=fun x hx=>(Own.blk oc x hx)
 refine hk (n:=64) hcb (by decide) (by decide) fun M5 k5 n5 n6 x5=>?_
 have hmb:∀ x∈ak mv,M.next≤x∧x<M1.next:=fun x hx=>Own.blk o1 x hx
 have k25:=(k2.trans k3).trans (k4.trans k5)
 have i2:=(k3.trans (k4.trans k5)).ay n2 x2 (by simp)
 have i3:=(k4.trans k5).ay n3 x3 (by simp)
 have Xp:∀ k,((ek 64 b).take k).length≤64:=fun k=>by
  rw[List.length_take,iP]; unfold fO; omega
 refine Dl (n:=64) (T2:=T2) (T3:=T3) hrc (by decide) (by decide) (by omega) (hcb.keep k5 (by simp)) (fun k M'=>∃ mv lv S,aa [] M M'∧M5.next≤M'.next∧M'.heap M1.next=some (.row [mv] false T8 0)∧M'.heap M2.next=some (.row [lv] false TB 0) ∧
   M'.heap M4.next=some (.row [c] false T2 0)∧M'.heap (M4.next + 1)=some (.row [N .i64 ((64:Nat) : Int)] false T3 0)∧Bs M' c b ∧
   Ow BY M' M.next TU8 mv (fH b.length++((ek 64 b).take k).flatMap rR)∧jq Pn M' M.next T8 lv ((ek 64 b).take k) S ∧
   (∀ x∈ak mv,x<M1.next∨M5.next≤x)∧(∀ x∈ak lv,M5.next≤x)∧(∀ x,S x→M5.next≤x∧x<M'.next∧x ∉ ak mv∧x ∉ ak lv)∧(∀ x∈ak mv,x ∉ ak lv))
   ⟨mv,bK,fun _=>False,k13.trans (k4.trans k5),Nat.le_refl _,i2,i3,n5,n6,hcb.keep k5 (by simp),by simpa using Own.keep o1 k25 (by simp),.nil,fun x hx=>.inl (hmb x hx).2,by simp[ak],fun x h=>h.elim,by simp[ak]⟩ ?_ ?_ ?_
 ·rintro k M' ⟨mv,lv,S,q1,q2,q3,q4,q5,q6,q7,_⟩
  exact⟨q5,q6,q7⟩
 ·rintro k M6 w hk6 ⟨mv,lv,S,q1,q2,q3,q4,q5,q6,q7,q8,q9,q10,q11,q12,q13⟩ hw hwb
  have hkl:=(nV (n:=64) (b:=b) (by decide)).1 hk6
  have hdl:((b.drop (k * 64)).take 64).length≤64:=by rw[List.length_take]; omega
  have hct:=Xp k
  rw[aG q4 rfl]
  refine hcl hw.sl (by omega) fun d M7 od k7=>?_
  have hn7:=k7.next
  have j4:=k7.ay q4 (by omega) (by simp)
  rw[aG j4 rfl]
  refine⟨rfl, ?_⟩
  rw[kF (x:=d) (size:=1) (by rw[Own.cells od]; rfl) (by rw[Own.cells od]; simp[Own.one od]) rfl,Own.cells od,vW]
  have hS1:∀ x,(S x∨x∈ak d)→M5.next≤x∧x<M7.next:=by
   rintro x (h | h)
   ·have:=q12 x h; omega
   ·have:=Own.blk od x h; omega
  have ZE:∀ x∈ak lv,¬ (S x∨x∈ak d):=by
   rintro x hx (h | h)
   ·exact(q12 x h).2.2.2 hx
   ·have:=Own.blk od x h
    have:=q9.blk x hx
    omega
  have q9' : jq Pn M7 M.next T8 lv ((ek 64 b).take k) (fun x=>S x∨x∈ak d):=(q9.keep k7 (by simp) (by simp)).mono (fun x h=>.inl h)
  refine jq.app (R:=Pn) (a:=(b.drop (k * 64)).take 64) q9' ⟨d,rfl,Bs.own od,fun x hx=>.inr hx⟩ (by have:=q1.next; omega) (Nat.le_refl 1) ZE (fun x hx=>(hS1 x hx).2) (by omega) (by omega) fun lv8 M8 o8 k8 hn8 hl8 hd8=>?_
  have j5:M2.next ∉ ak lv:=fun h=>by have:=q11 _ h; omega
  have m4:=k8.ay j4 (by omega) j5
  rw[fP [lv8] m4 (by simp) o8.cells o8.one rfl]
  have k9:aa [M2.next] M8 (M8.put M2.next (.row [lv8] false TB 0)):=(aa.refl _ _).put _ (.inr (by simp))
  have m9:(M8.put M2.next (.row [lv8] false TB 0)).heap M2.next=some (.row [lv8] false TB 0):=aF _
  have x9:(M8.put M2.next (.row [lv8] false TB 0)).next=M8.next:=rfl
  show cs _ (M8.put M2.next (.row [lv8] false TB 0)) _
  generalize M8.put M2.next (.row [lv8] false TB 0)=M9 at *
  have k69:aa (M2.next :: ak lv) M6 M9:=((k7.mono (by simp)).trans (k8.mono (fun x hx=>List.mem_cons_of_mem _ hx))).trans (k9.mono (by simp))
  have hcw:∀ x∈ak w,x ∉ M2.next :: ak lv:=fun x hx hm=>by
   have h1:=hcB x (hwb x hx)
   rcases List.mem_cons.1 hm with h | h
   ·omega
   ·have:=q11 x h; omega
  refine hs (hw.keep k69 hcw) (by omega) fun M10 k10=>?_
  have hsl:=sZ ((b.drop (k * 64)).take 64)
  refine Fv (K:=fun t Nq=>_) (z:=BY.row (List.replicate 32 0)) 32 (by rw[fu,List.length_replicate]) (by rw[fu,hsl]) (BY.bX _) fun M11 k11 n11 x11=>?_
  have YI:=k10.next
  have Yd:=k11.next
  have SI:=k10.trans k11
  have RY:aa (M2.next :: ak lv) M6 M11:=k69.trans (SI.mono (by simp))
  have p3:=RY.ay q3 (by omega) (fun hm=>by
   rcases List.mem_cons.1 hm with h | h
   ·omega
   ·have:=q11 _ h; omega)
  rw[aG p3 rfl,Ku (by omega),nE]
  have hA:=Bs.arr n11 x11
  rw[hsl] at hA
  have hmv:∀ x∈ak mv,x ∉ M2.next :: ak lv:=fun x hx hm=>by
   rcases List.mem_cons.1 hm with h | h
   ·have:=q10 x hx; omega
   ·exact q13 x hx h
  have Np:∀ x∈ak mv,M.next≤x∧x<M6.next:=fun x hx=>Own.blk q8 x hx
  have hfl:=JJ ((ek 64 b).take k)
  refine pE (E:=BY) (Own.keep q8 RY hmv) (by have:=q1.next; omega) (by decide) hA.sl (by rw[List.length_append,hfl,hsl]; omega) (by rw[List.length_append,hfl,hsl]; omega) fun BP M12 o12 k12 RZ zD=>?_
  have p3':=k12.ay p3 (by omega) (fun h=>by
   have:=q10 _ h; omega)
  rw[fP [BP] p3' (by simp) (Own.cells o12) (Own.one o12) rfl]
  have Nj:aa [M1.next] M12 (M12.put M1.next (.row [BP] false T8 0)):=(aa.refl _ _).put _ (.inr (by simp))
  have m13:(M12.put M1.next (.row [BP] false T8 0)).heap M1.next=some (.row [BP] false T8 0):=aF _
  have x13:(M12.put M1.next (.row [BP] false T8 0)).next=M12.next:=rfl
  generalize M12.put M1.next (.row [BP] false T8 0)=M13 at *
  have Y9:=o8.blk
  have hS8:∀ x,(S x∨x∈ak d)→x ∉ ak mv:=by
   rintro x (h | h) hm
   ·exact(q12 x h).2.2.1 hm
   ·have:=Own.blk od x h; have:=Np x hm; omega
  have Vr:∀ x∈ak lv8,M5.next≤x:=by
   intro x hx
   rcases hl8 with rfl | hl8
   ·exact q11 x hx
   ·have:=hl8 x hx; omega
  have Vl:∀ x∈ak lv8,x ∉ ak mv:=by
   intro x hx hm
   rcases hl8 with rfl | hl8
   ·exact q13 x hm hx
   ·have:=hl8 x hx; have:=Np x hm; omega
  have V7:∀ x∈ak BP,x<M1.next∨M5.next≤x:=by
   intro x hx
   rcases zD with rfl | zD
   ·exact q10 x hx
   ·have:=zD x hx; omega
  have kT:aa (M2.next :: M1.next :: ak mv) M8 M13:=((k9.mono (by simp)).trans (SI.mono (by simp))).trans ((k12.mono (fun x hx=>List.mem_cons_of_mem _ (List.mem_cons_of_mem _ hx))).trans (Nj.mono (by simp)))
  have kA:aa (M2.next :: M1.next :: (ak lv++ak mv)) M6 M13:=(RY.mono (fun x hx=>by
    rcases List.mem_cons.1 hx with rfl | hx
    ·exact List.mem_cons_self ..
    ·exact List.mem_cons_of_mem _ (List.mem_cons_of_mem _ (List.mem_append_left _ hx)))).trans ((k12.mono (fun x hx=>List.mem_cons_of_mem _ (List.mem_cons_of_mem _ (List.mem_append_right _ hx)))).trans (Nj.mono (by simp)))
  have out:∀ x,M3.next≤x→x<M5.next→x ∉ M2.next :: M1.next :: (ak lv++ak mv):=by
   intro x h1 h2 hm
   rcases List.mem_cons.1 hm with h | hm
   ·omega
   rcases List.mem_cons.1 hm with h | hm
   ·omega
   rcases List.mem_append.1 hm with h | h
   ·have:=q11 x h; omega
   ·have:=q10 x h; omega
  refine⟨BP,lv8,fun x=>S x∨x∈ak d,q1.eX kA ?_,by omega,m13, ?_,kA.ay q5 (by omega) (out _ (by omega) (by omega)),kA.ay q6 (by omega) (out _ (by omega) (by omega)),q7.keep kA (fun x hx=>out x (hcB x hx).1 (by have:=hcB x hx; omega)), ?_, ?_,V7,Vr, ?_, ?_⟩
  ·intro x hm
   rcases List.mem_cons.1 hm with h | hm
   ·exact .inl (by omega)
   rcases List.mem_cons.1 hm with h | hm
   ·exact .inl (by omega)
   rcases List.mem_append.1 hm with h | h
   ·exact .inl (by have:=q11 x h; omega)
   ·exact .inl (Np x h).1
  ·refine(k12.mono (cs:=M1.next :: ak mv) (fun x hx=>List.mem_cons_of_mem _ hx)).trans (Nj.mono (by simp)) |>.ay (SI.ay m9 (by omega) (by simp)) (by omega) (fun hm=>?_)
   rcases List.mem_cons.1 hm with h | h
   ·omega
   ·have:=q10 _ h; omega
  ·rw[uP hk6,List.flatMap_append,← List.append_assoc,List.flatMap_cons,List.flatMap_nil,List.append_nil]
   refine Own.keep o12 Nj (fun x hx hm=>?_)
   simp at hm
   have:=V7 x hx; omega
  ·rw[uP hk6]
   refine o8.keep kT (fun x hx hs=>?_) (fun x hx hm=>?_)
   ·have:=hS1 x hs
    rcases List.mem_cons.1 hx with h | hx
    ·omega
    rcases List.mem_cons.1 hx with h | hx
    ·omega
    ·exact hS8 x hs hx
   ·have:=Vr x hx
    rcases List.mem_cons.1 hm with h | hm
    ·omega
    rcases List.mem_cons.1 hm with h | hm
    ·omega
    ·exact Vl x hx hm
  ·intro x hx
   have:=hS1 x hx
   refine⟨this.1,by omega,fun hm=>?_,fun hm=>hd8 x hm hx⟩
   rcases zD with rfl | zD
   ·exact hS8 x hx hm
   ·have:=zD x hm; omega
  ·intro x hx hm
   have:=Y9 x hm
   rcases zD with rfl | zD
   ·exact Vl x hm hx
   ·have:=zD x hx; omega
 ·rintro M6 ⟨mv,lv,S,q1,q2,q3,q4,q5,q6,q7,q8,q9,q10,q11,q12,q13⟩
  rw[← iP,List.take_length] at q8 q9
  rw[aG q3 rfl,aG q3 rfl,aG q4 rfl]
  have hml:(Hr b).length≤100000:=by
   unfold Hr
   rw[List.length_append,JJ,iP]; unfold fO; omega
  refine hn (Bs.own q8) (by show(Hr b).length≤_; omega) fun M7 k7=>?_
  rw[aG (k7.ay q3 (by omega) (by simp)) rfl]
  refine⟨rfl, ?_⟩
  rw[aG (k7.ay q4 (by omega) (by simp)) rfl]
  refine⟨rfl,hS mv lv M7 S hle (q1.trans k7) (Own.keep q8 k7 (by simp)) (q9.keep k7 (by simp) (by simp)) fun x hx=>?_⟩
  have h12:=q12 x hx
  have:=k7.next
  exact⟨by omega,by omega,h12.2.2.1,h12.2.2.2⟩
structure Nw (n0:Nat) (M:RM) (v:AV) (b:Str) : Prop where
 bs:Bs M v b
 new:∀ x∈ak v,n0≤x
theorem tY {M:RM} {v:AV} {x:List Str} {i:Nat} {K:AV→Prop} (h:Sl eB M v x) (hi:i<x.length) (hK:K (St x[i])) : bf v (N .i64 (i:Int)) 1 fun t=>ag M t K:=by
 obtain⟨b,o,_,_,hidx,hld⟩:=Sl.at h 1 (i:Int) hi
 rw[hidx,iX]
 exact⟨_,je.1 hld,hK⟩
theorem TY {m:Str} {n:Nat} {l:List Str} (h:oq m=some (n,l)) : l.length≤1000000000∧n≤4096:=by
 unfold oq at h
 split at h
 ·cases h
 ·rename_i n' r h1
  have hn:n'≤4096:=by
   unfold Qv at h1
   split at h1
   ·split at h1
    ·cases h1
    ·cases h1; omega
   ·cases h1
  split at h
  ·rename_i hl
   cases h
   rw[List.length_map,iP]; unfold fO
   omega
  ·cases h
abbrev dX:=Str × AV × Nat
def ed (t:dX) : AV × AV × Nat:=(St t.1,t.2.1,t.2.2)
theorem rG (s:Str) : ∀ (T:List dX) (i:Nat),((∀ t∈T,t.1≠s)∧jg false [2] [St s] (T.map ed) i=some none) ∨
  ∃ j t,T[j]?=some t∧t.1=s∧jg false [2] [St s] (T.map ed) i=some (some (i + j,t.2.1))
 | [],i=>.inl ⟨by simp,rfl⟩
 | t :: T,i=>by
   simp only[List.map_cons,ed,jg,dW]
   rw[if_pos (by rfl),FY]
   by_cases hs:s=t.1
   ·rw[if_pos hs,FE]
    exact .inr ⟨0,t,rfl,hs.symm,rfl⟩
   ·rw[if_neg hs]
    rcases rG s T (i + 1) with⟨h1,h2⟩ | ⟨j,t',h1,h2,h3⟩
    ·refine .inl ⟨fun x hx=>?_,h2⟩
     rcases List.mem_cons.1 hx with rfl | hx
     ·exact fun e=>hs e.symm
     ·exact h1 x hx
    ·exact .inr ⟨j + 1,t',h1,h2,by rw[h3,show i + 1 + j=i + (j + 1) by omega]⟩
structure Wf (cl:Nat) (T:List dX) : Prop where
 nodup:(T.map (·.1)).Nodup
 up:T.Pairwise fun a b=>a.2.2<b.2.2
 lt:∀ t∈T,t.2.2<cl
theorem Wf.nil {cl:Nat} : Wf cl []:=⟨.nil,.nil,by simp⟩
theorem Wf.snoc {cl:Nat} {T:List dX} (h:Wf cl T) {s:Str} {v:AV} (hs:∀ t∈T,t.1≠s) : Wf (cl + 1) (T++[(s,v,cl)]):=by
 refine⟨?_, ?_, ?_⟩
 ·rw[List.map_append,List.nodup_append]
  refine⟨h.nodup,by simp, ?_⟩
  intro a ha b hb e
  obtain⟨t,ht,rfl⟩:=List.mem_map.1 ha
  simp at hb
  exact hs t ht (by rw[e,hb])
 ·rw[List.pairwise_append]
  refine⟨h.up,by simp,fun a ha b hb=>?_⟩
  simp at hb; subst hb
  exact h.lt a ha
 ·intro t ht
  rcases List.mem_append.1 ht with ht | ht
  ·have:=h.lt t ht; omega
  ·simp at ht; subst ht; exact Nat.lt_succ_self _
theorem Wf.filter {cl:Nat} {T:List dX} (h:Wf cl T) (p:dX→Bool) : Wf cl (T.filter p) :=
 ⟨h.nodup.sublist (List.Sublist.map _ (List.filter_sublist ..)),h.up.sublist (List.filter_sublist ..),fun t ht=>h.lt t ((List.mem_filter.1 ht).1)⟩
theorem Wf.same {cl:Nat} {T:List dX} (h:Wf cl T) {t t' : dX} (ht:t∈T) (ht' : t'∈T) (e:t.1=t'.1) : t=t':=by
 obtain⟨i,hi,rfl⟩:=List.getElem_of_mem ht
 obtain⟨j,hj,rfl⟩:=List.getElem_of_mem ht'
 have h1:(T.map (·.1))[i]'(by simpa using hi)=(T.map (·.1))[j]'(by simpa using hj):=by simpa using e
 have:=(List.getElem_inj h.nodup).1 h1
 subst this; rfl
structure nJ (TS:Nat) (M:RM) (sb:Nat) (T:List dX) (f:Str→Option Str) (W:Nat→Prop) : Prop where
 lt:∀ x,W x→x<M.next
 own:W sb
 map:∃ mb cl,W mb∧mb≠sb∧M.heap sb=some (.row [.map mb] false TS 0)∧M.heap mb=some (.map (T.map ed) cl)∧Wf cl T∧(∀ t∈T,∀ x∈ak t.2.1,x≠mb∧x≠sb)
 val:∀ t∈T,∃ b,f t.1=some b∧Bs M t.2.1 b∧b.length≤1000000∧∀ x∈ak t.2.1,W x
 dom:∀ s b,f s=some b→∃ t∈T,t.1=s
 nm:∀ t∈T,t.1.length=64
def lQ (TS:Nat) (M:RM) (sb:Nat) (f:Str→Option Str) (W:Nat→Prop) (n:Nat) : Prop:=∃ T,nJ TS M sb T f W∧T.length≤n
section
variable {TS sb:Nat} {M M' : RM} {T:List dX} {f:Str→Option Str} {W:Nat→Prop} {ks:List Nat}
theorem nJ.keep (h:nJ TS M sb T f W) (hk:aa ks M M') (hd:∀ x∈ks,¬ W x) : nJ TS M' sb T f W where
 lt x hx:=Nat.lt_of_lt_of_le (h.lt x hx) hk.next
 own:=h.own
 map:=by
  obtain⟨mb,cl,h1,h2,h3,h4,h5,h6⟩:=h.map
  exact⟨mb,cl,h1,h2,hk.ay h3 (h.lt _ h.own) (fun hm=>hd _ hm h.own),hk.ay h4 (h.lt _ h1) (fun hm=>hd _ hm h1),h5,h6⟩
 val t ht:=by
  obtain⟨b,h1,h2,h3,h4⟩:=h.val t ht
  exact⟨b,h1,h2.keep hk (fun x hx hm=>hd x hm (h4 x hx)),h3,h4⟩
 dom:=h.dom
 nm:=h.nm
theorem lQ.keep {n:Nat} (h:lQ TS M sb f W n) (hk:aa ks M M') (hd:∀ x∈ks,¬ W x) : lQ TS M' sb f W n:=let ⟨T,h,hn⟩:=h; ⟨T,h.keep hk hd,hn⟩
theorem nJ.absent (h:nJ TS M sb T f W) {s:Str} (hs:∀ t∈T,t.1≠s) : f s=none:=by
 cases he:f s with
 | none=>rfl
 | some b=>obtain⟨t,ht,e⟩:=h.dom s b he; exact absurd e (hs t ht)
theorem nJ.look (h:nJ TS M sb T f W) {s:Str} {ok:Bool} {K:AV→Prop} (h1:f s=none→K (fV bK false ok)) (h2:∀ v b,f s=some b→Bs M v b→b.length≤1000000→(∀ x∈ak v,W x)→K (fV v true ok)) :
  dS (.ptr sb 0) fun t=>eF t 0 fun a=>ag M a fun m=>gL false [2] (.sc (.slice none 0 0)) ok M m (St s) K:=by
 obtain⟨mb,cl,g1,g2,g3,g4,g5,g6⟩:=h.map
 rw[bC,iE,Nat.zero_add,aG g3 rfl]
 rcases rG s T 0 with⟨a1,a2⟩ | ⟨j,t,a1,a2,a3⟩
 ·exact⟨mb,_,cl,[St s],none,rfl,g4,rfl,rfl,a2,h1 (h.absent a1)⟩
 ·have ht:t∈T:=List.mem_of_getElem? a1
  obtain⟨b,q1,q2,q3,q4⟩:=h.val t ht
  rw[a2] at q1
  exact⟨mb,_,cl,[St s],_,rfl,g4,rfl,rfl,a3,h2 _ b q1 q2 q3 q4⟩
end
def xC (TS:Nat) (c:au) : Prop:=∀ {M:RM} {Q:ah},(∀ sb M' W,aa [] M M'→lQ TS M' sb (fun _=>none) W 0→(∀ x,W x→M.next≤x)→Q (.ptr sb 0) M')→c [] M Q
theorem DV {TS:Nat} : xC TS fun args M Q=>args=[]∧uZ TS M Q:=by
 intro M Q hQ
 refine⟨rfl, ?_⟩
 unfold uZ
 rw[aV,iR]
 refine⟨[.map M.next],by simp[kH,known,AV.cells,oneCell], ?_⟩
 refine⟨rfl,Nat.le_refl 1, ?_⟩
 dsimp only
 rw[aV]
 have k1:aa [] M (M.push (.map [] 0)):=(aa.refl _ _).push _
 have n1:(M.push (.map [] 0)).heap M.next=some (.map [] 0):=RM.bN _
 have x1:(M.push (.map [] 0)).next=M.next + 1:=rfl
 generalize M.push (.map [] 0)=M1 at *
 have k2:aa [] M1 (M1.push (.row (AV.agg [AV.map M.next]).cells false TS 0)):=(aa.refl _ _).push _
 have n2:(M1.push (.row (AV.agg [AV.map M.next]).cells false TS 0)).heap M1.next=some (.row [.map M.next] false TS 0):=RM.bN _
 have x2:(M1.push (.row (AV.agg [AV.map M.next]).cells false TS 0)).next=M1.next + 1:=rfl
 generalize M1.push (.row (AV.agg [AV.map M.next]).cells false TS 0)=M2 at *
 refine hQ M1.next M2 (fun x=>x=M.next∨x=M1.next) (k1.trans k2) ⟨[],⟨fun x hx=>by rcases hx with rfl | rfl <;> omega,.inr rfl,⟨M.next,0,.inl rfl,by omega,n2,k2.ay n1 (by omega) (by simp),.nil,by simp⟩,by simp,fun s b h=>(by cases h),by simp⟩,Nat.le_refl _⟩ (fun x hx=>by rcases hx with rfl | rfl <;> omega)
def Kn (TS:Nat) (c:au) : Prop:=∀ {M:RM} {sb:Nat} {f:Str→Option Str} {W:Nat→Prop} {n:Nat} {s:Str} {Q:ah},lQ TS M sb f W n→Q (Bo (f s).isSome) M→c [.ptr sb 0,St s] M Q
theorem RA {TS:Nat} : Kn TS fun args M Q=>∃ a0 a1,args=[a0,a1]∧lT a0 a1 M Q:=by
 rintro M sb f W n s Q ⟨T,h,hTn⟩ hQ
 refine⟨_,_,rfl, ?_⟩
 unfold lT
 refine h.look (fun h0=>?_) fun v b h0 _ _ _=>?_
 ·simp only[fV,if_true]
  rw[dm,dQ]; rw[h0] at hQ; exact hQ
 ·simp only[fV,if_true]
  rw[dm,dQ]; rw[h0] at hQ; exact hQ
def Na (TS TU:Nat) (c:au) : Prop:=∀ {M:RM} {sb:Nat} {f:Str→Option Str} {W:Nat→Prop} {n:Nat} {s:Str} {Q:ah},lQ TS M sb f W n →
 (f s=none→Q (.tup [bK,Bo false]) M)→(∀ v b M',f s=some b→b.length≤1000000→aa [] M M'→Ow BY M' M.next TU v b→Q (.tup [v,Bo true]) M')→c [.ptr sb 0,St s] M Q
def GM (c:au) : Prop:=∀ {M:RM} {Q:ah},Q bK M→c [bK] M Q
theorem Kv {T:Nat} : GM fun args M Q=>∃ a0,args=[a0]∧mF T a0 M Q:=by
 intro M Q hQ
 refine⟨_,rfl, ?_⟩
 unfold mF
 rcases aO.uD (M:=M) (size:=1) (cs:=[]) (n:=0) (v:=bK) .nil false with⟨_,he⟩ | ⟨hne,he⟩
 ·rw[he,show(!false)=true from rfl,jv]; exact hQ
 ·exact absurd rfl hne
theorem Qh {TS TU:Nat} {cc:au} (hc:Sha.jw TU cc) (hc0:GM cc) : Na TS TU fun args M Q=>∃ a0 a1,args=[a0,a1]∧lS cc a0 a1 M Q:=by
 rintro M sb f W n s Q ⟨T,h,hTn⟩ h1 h2
 refine⟨_,_,rfl, ?_⟩
 unfold lS
 refine h.look (fun h0=>?_) fun v b h0 hb hl hw=>?_
 ·simp only[fV,if_true]
  rw[dm,dQ]
  exact hc0 (h1 h0)
 ·simp only[fV,if_true]
  rw[dm,dQ]
  exact hc hb.sl (by omega) fun v' M' o k=>h2 v' b M' h0 hl k o
def qF (f:Str→Option Str) (b:Str) : Str→Option Str:=fun s=>if s=dI b∧f (dI b)=none then some b else f s
def Sa (TS:Nat) (c:au) : Prop:=∀ {M:RM} {sb:Nat} {f:Str→Option Str} {W:Nat→Prop} {n:Nat} {v:AV} {b:Str} {Q:ah},lQ TS M sb f W n→Bs M v b→b.length≤1000000 →
 (∀ M' W' ks,lQ TS M' sb (qF f b) W' (n + 1)→aa ks M M'→(∀ x∈ks,W x)→(∀ x,W' x→W x∨M.next≤x)→(∀ x,W x→W' x)→Q (St (dI b)) M')→c [.ptr sb 0,v] M Q
theorem Sc {TS TU:Nat} {cn ch cc:au} (hn:xS cn) (hh:Kn TS ch) (hc:Sha.jw TU cc) : Sa TS fun args M Q=>∃ a0 a1,args=[a0,a1]∧lX cn ch cc a0 a1 M Q:=by
 rintro M sb f W n v b Q ⟨T,h,hTn⟩ hv hl hQ
 refine⟨_,_,rfl, ?_⟩
 unfold lX
 refine hn hv (by omega) fun M1 k1=>?_
 have h1:=h.keep k1 (by simp)
 unfold fG
 refine hh ⟨T,h1,hTn⟩ ?_
 rw[iy]
 cases hf:f (dI b) with
 | some b0 =>
   rw[show(!(some b0).isSome)=false from rfl,iI]
   have e:qF f b=f:=by funext s; unfold qF; rw[hf]; simp
   exact hQ M1 W [] ⟨T,by rw[e]; exact h1,by omega⟩ k1 (by simp) (fun x hx=>.inl hx) fun x hx=>hx
 | none =>
   rw[show(!(none:Option Str).isSome)=true from rfl,jv]
   obtain⟨mb,cl,g1,g2,g3,g4,g5,g6⟩:=h1.map
   rw[bC,iE,Nat.zero_add,aG g3 rfl]
   refine hc (hv.keep k1 (by simp)).sl (by omega) fun w M2 o2 k2=>?_
   have h2:=h1.keep k2 (by simp)
   obtain⟨mb',cl',g1',g2',g3',g4',g5',g6'⟩:=h2.map
   have p3:=k2.ay g3 (h1.lt _ h1.own) (by simp)
   have p4:=k2.ay g4 (h1.lt _ g1) (by simp)
   rw[aG p3 rfl]
   refine⟨rfl, ?_⟩
   have hno:∀ t∈T,t.1≠dI b:=fun t ht e=>by
    obtain⟨b1,q1,_⟩:=h1.val t ht
    rw[e,hf] at q1; cases q1
   rcases rG (dI b) T 0 with⟨a1,a2⟩ | ⟨j,t,a1,a2,a3⟩
   ·refine⟨mb,_,cl,[St (dI b)],none,rfl,p4,rfl,rfl,a2, ?_⟩
    have k3:aa [mb] M2 (M2.put mb (wV (T.map ed) cl (St (dI b)) w none)):=(aa.refl _ _).put _ (.inr (by simp))
    have n3:(M2.put mb (wV (T.map ed) cl (St (dI b)) w none)).heap mb=some (.map ((T++[(dI b,w,cl)]).map ed) (cl + 1)):=by
     rw[aF]; simp[wV,ed]
    have x3:(M2.put mb (wV (T.map ed) cl (St (dI b)) w none)).next=M2.next:=rfl
    show Q _ (M2.put mb (wV (T.map ed) cl (St (dI b)) w none))
    generalize M2.put mb (wV (T.map ed) cl (St (dI b)) w none)=M3 at *
    have hwb:∀ x∈ak w,M1.next≤x∧x<M2.next:=fun x hx=>Own.blk o2 x hx
    have hn1:=k1.next
    have hn2:=k2.next
    refine hQ M3 (fun x=>W x∨x∈ak w) [mb] ⟨T++[(dI b,w,cl)], ?_,by simp; omega⟩ ((k1.trans k2).mono (by simp) |>.trans k3) (by simpa using g1) (fun x hx=>hx.elim .inl fun h=>.inr (by have:=hwb x h; omega)) fun x hx=>.inl hx
    refine⟨fun x hx=>?_,.inl h.own,⟨mb,cl + 1,.inl g1,g2,k3.ay p3 (by have:=h1.lt _ h1.own; omega) (by simpa using g2.symm),n3,g5.snoc a1,fun t ht x hx=>?_⟩,fun t ht=>?_,fun s b' hs=>?_,fun t ht=>?_⟩
    ·rcases hx with hx | hx
     ·have:=h.lt x hx; omega
     ·have:=hwb x hx; omega
    ·rcases List.mem_append.1 ht with ht | ht
     ·exact g6 t ht x hx
     ·simp at ht; subst ht
      have:=hwb x hx
      have:=h1.lt _ g1
      have:=h1.lt _ h1.own
      omega
    ·rcases List.mem_append.1 ht with ht | ht
     ·obtain⟨b1,q1,q2,q3,q4⟩:=h2.val t ht
      refine⟨b1, ?_,q2.keep k3 (fun x hx hm=>by simp at hm; subst hm; exact(g6 t ht _ hx).1 rfl),q3,fun x hx=>.inl (q4 x hx)⟩
      unfold qF; rw[if_neg (fun hc=>hno t ht hc.1)]; exact q1
     ·simp at ht; subst ht
      refine⟨b,by unfold qF; rw[if_pos ⟨rfl,hf⟩],(Bs.own o2).keep k3 (fun x hx hm=>?_),hl,fun x hx=>.inr hx⟩
      simp at hm
      have:=hwb x hx; have:=h1.lt _ g1; omega
    ·unfold qF at hs
     by_cases hc:s=dI b∧f (dI b)=none
     ·exact⟨_,List.mem_append_right _ (List.mem_singleton.2 rfl),hc.1.symm⟩
     ·rw[if_neg hc] at hs
      obtain⟨t,ht,e⟩:=h2.dom s b' hs
      exact⟨t,List.mem_append_left _ ht,e⟩
    ·rcases List.mem_append.1 ht with ht | ht
     ·exact h.nm t ht
     ·simp at ht; subst ht; exact AB b
   ·exact absurd a2 (hno t (List.mem_of_getElem? a1))
end Go.Ab.Bl
namespace Go.Ab.Dk
open Go Go.Ab
def uE (f:(List AV→RM→Prop)→Prop) (g:List AV→RM→Prop) : Prop:=f g
theorem fF (f:(List AV→RM→Prop)→Prop) (g:List AV→RM→Prop) : fG f g=uE f g:=rfl
theorem fK {H:(List AV→RM→Prop)→Prop} {G:List AV→RM→Prop} (P:List AV→RM→Prop) (hT:∀ xs M,P xs M→G xs M)
  (hH:∀ J:List AV→RM→Prop,(∀ xs M,P xs M→J xs M)→H J) : uE H G:=hH G hT
section
variable {i j:Nat} {K:AV→Prop}
theorem addN (h:i + j<4611686018427387904) : af .add (N .i64 (i:Int)) (N .i64 (j:Int)) K=K (N .i64 ((i + j:Nat) : Int)):=by
 rw[bq,aM (by omega) (by omega),Int.natCast_add]
theorem NM (h:j≤i) (hb:i<4611686018427387904) : af .sub (N .i64 (i:Int)) (N .i64 (j:Int)) K=K (N .i64 ((i - j:Nat) : Int)):=by
 rw[fM,aM (by omega) (by omega),show(i:Int) - (j:Int)=((i - j:Nat) : Int) by omega]
theorem lU:af .lss (N .i64 (i:Int)) (N .i64 (j:Int)) K=K (Bo (decide (i<j))):=by rw[kV,show decide ((i:Int)<(j:Int))=decide (i<j) by simp]
end
section
variable {M:RM} {c p:Bool} {f:ah→Prop} {P:RM→Prop} {G:AV→RM→Prop}
end
abbrev Nm:=List UInt8
abbrev Dir:=List (Nm × Nat)
def J8:Dir→Nm→Option Nat
 | [],_=>none
 | e :: l,n=>if n=e.1 then some e.2 else J8 l n
def SK:Dir→Nm→Dir
 | [],_=>[]
 | e :: l,n=>if n=e.1 then l else e :: SK l n
def SE:Dir→Nm→Nat→Dir
 | [],n,f=>[(n,f)]
 | e :: l,n,f=>if n=e.1 then(n,f) :: l else e :: SE l n f
abbrev TH:=Nm × Option Nat × Nm
abbrev Df:=List UInt8 × Nat
structure KT where
 files:List Df
 dir:Dir
 Yn:Dir
 chg:List TH
 Xc:Int
 app:Int
 syn:Int deriving DecidableEq
inductive Tag where
 | disk | names | safe | chg | file (i:Nat) | bytes (i:Nat) deriving DecidableEq
abbrev iJ:=Nat→Option Tag
def upd (own:iJ) (b:Nat) (t:Tag) : iJ:=fun c=>if c=b then some t else own c
theorem Jy {own:iJ} {b:Nat} {t:Tag} : upd own b t b=some t:=by simp[upd]
theorem upd_ne {own:iJ} {b c:Nat} {t:Tag} (h:c≠b) : upd own b t c=own c:=by simp[upd,h]
def iQ (fbs:List Nat) (cl:Nat) : Nat→List (AV × AV × Nat)→Dir→Prop
 | _,[],[]=>True
 | lo,e :: es,d :: ds=>e.1=St d.1∧(∃ b,fbs[d.2]?=some b∧e.2.1=.ptr b 0)∧lo≤e.2.2∧e.2.2<cl∧iQ fbs cl (e.2.2 + 1) es ds
 | _,_,_=>False
variable {fbs gbs:List Nat} {cl lo:Nat} {es:List (AV × AV × Nat)} {d:Dir}
theorem iQ.len:∀ {es:List (AV × AV × Nat)} {d:Dir} {lo:Nat},iQ fbs cl lo es d→es.length=d.length
 | [],[],_,_=>rfl
 | _ :: es,_ :: d,_,h=>by simp only[List.length_cons]; rw[h.2.2.2.2.len]
theorem iQ.grow (hg:∀ i b:Nat,fbs[i]?=some b→gbs[i]?=some b) {cl' : Nat} (hc:cl≤cl') : ∀ {es:List (AV × AV × Nat)} {d:Dir} {lo lo' : Nat},lo'≤lo→iQ fbs cl lo es d→iQ gbs cl' lo' es d
 | [],[],_,_,_,_=>trivial
 | _ :: es,_ :: d,_,_,hl,⟨h1,⟨b,h2,h3⟩,h4,h5,h6⟩=>⟨h1,⟨b,hg _ _ h2,h3⟩,Nat.le_trans hl h4,Nat.lt_of_lt_of_le h5 hc,h6.grow hg hc (Nat.le_refl _)⟩
theorem H7 (s:Nm) : ∀ {es:List (AV × AV × Nat)} {d:Dir} {lo:Nat} (i:Nat),iQ fbs cl lo es d →
  (jg false [2] [St s] es i=some none∧J8 d s=none) ∨
  ∃ j f b,jg false [2] [St s] es i=some (some (i + j,.ptr b 0))∧J8 d s=some f∧fbs[f]?=some b∧iQ fbs cl lo (es.eraseIdx j) (SK d s) ∧
    ∀ g c,fbs[g]?=some c→iQ fbs cl lo (Az (St s) (.ptr c 0) es j) (SE d s g)
 | [],[],_,i,_=>.inl ⟨rfl,rfl⟩
 | (k,v,n) :: es,(s',f) :: d,lo,i,⟨h1,⟨b,h2,h3⟩,h4,h5,h6⟩=>by
   simp only at h1 h2 h3 h4 h5 h6
   subst h1 h3
   simp only[jg,dW,J8,SK,SE]
   rw[if_pos (by rfl),FY]
   by_cases hs:s=s'
   ·subst hs
    simp only[if_true,FE]
    refine .inr ⟨0,f,b,rfl,rfl,h2, ?_, ?_⟩
    ·exact h6.grow (fun _ _ h=>h) (Nat.le_refl _) (by omega)
    ·intro g c hg
     exact⟨rfl,⟨c,hg,rfl⟩,h4,h5,h6⟩
   ·simp only[if_neg hs]
    rcases H7 s (i + 1) h6 with⟨a1,a2⟩ | ⟨j,f',b',a1,a2,a3,a4,a5⟩
    ·exact .inl ⟨a1,a2⟩
    ·refine .inr ⟨j + 1,f',b', ?_,a2,a3, ?_, ?_⟩
     ·rw[a1]; congr 3; omega
     ·exact⟨rfl,⟨b,h2,rfl⟩,h4,h5,a4⟩
     ·intro g c hg
      exact⟨rfl,⟨b,h2,rfl⟩,h4,h5,a5 g c hg⟩
structure MapAt (own:iJ) (M:RM) (fbs:List Nat) (m:Nat) (d:Dir) (t:Tag) : Prop where
 tg:own m=some t
 lt:m<M.next
 heap:∃ es cl,M.heap m=some (.map es cl)∧iQ fbs cl 0 es d
inductive FB (M:RM) (TU:Nat) : AV→List UInt8→Prop
 | nil:FB M TU bK []
 | op (b:Nat) (xs:List UInt8) : b<M.next→M.heap b=some (.row (BY.row xs) true TU 0)→FB M TU (.slc b 0 xs.length (.op 1)) xs
 | ex (b o n:Nat) (xs:List UInt8) : b<M.next→M.loads b o n=some (BY.row xs)→xs.length=n→FB M TU (.slc b o n (.ex n)) xs
structure qw (TF TU:Nat) (own:iJ) (M:RM) (fbs:List Nat) (i b:Nat) (v:AV) (f:Df) : Prop where
 at_:fbs[i]?=some b
 lt:b<M.next
 tg:own b=some (.file i)
 heap:M.heap b=some (.row [v,N .i64 (f.2:Int)] false TF 0)
 fb:FB M TU v f.1
 le:f.2≤f.1.length
 blk:∀ c∈ak v,own c=some (.bytes i)
structure rH (TF TU:Nat) (own:iJ) (M:RM) (fbs:List Nat) (fs:List Df) : Prop where
 len:fbs.length=fs.length
 file:∀ i f,fs[i]?=some f→∃ b v,qw TF TU own M fbs i b v f
def Z8:Enc (Nm × Option Nat × Nm):=⟨3,fun c=>[St c.1,(match c.2.1 with | some b=>.ptr b 0 | none=>.sc (.pointer none)),St c.2.2],fun _=>rfl,fun c=>by obtain⟨a,_ | b,g⟩:=c <;> rfl⟩
def Z9 (fbs:List Nat) (c:TH) : Nm × Option Nat × Nm:=(c.1,c.2.1.bind (fbs[·]?),c.2.2)
structure Ck (TC:Nat) (own:iJ) (M:RM) (fbs:List Nat) (v:AV) (cs:List TH) : Prop where
 ow:Ow Z8 M 0 TC v (cs.map (Z9 fbs))
 blk:∀ b∈ak v,own b=some .chg
 wf:∀ c∈cs,∀ f,c.2.1=some f→f<fbs.length
variable {own own' : iJ} {M M' : RM} {bs:List Nat} {m:Nat} {t:Tag}
theorem MapAt.step (h:MapAt own M fbs m d t) (hk:aa bs M M') (hb:∀ b∈bs,own b≠some t) (ho:∀ b,own b=some t→own' b=some t) : MapAt own' M' fbs m d t :=
 ⟨ho _ h.tg,Nat.lt_of_lt_of_le h.lt hk.next,let ⟨es,cl,h1,h2⟩:=h.heap; ⟨es,cl,hk.ay h1 h.lt (fun hm=>hb _ hm h.tg),h2⟩⟩
theorem FB.keep {TU:Nat} {v:AV} {xs:List UInt8} (h:FB M TU v xs) (hk:aa bs M M') (hb:∀ b∈ak v,b ∉ bs) : FB M' TU v xs:=by
 cases h with
 | nil=>exact .nil
 | op b xs hl hh=>exact .op b xs (Nat.lt_of_lt_of_le hl hk.next) (hk.ay hh hl (hb b (by simp[ak])))
 | ex b o n xs hl hh h2=>exact .ex b o n xs (Nat.lt_of_lt_of_le hl hk.next) ((hk.loads hl (hb b (by simp[ak]))).trans hh) h2
theorem FB.sl {TU:Nat} {v:AV} {xs:List UInt8} (h:FB M TU v xs) : Sl BY M v xs:=by
 cases h with
 | nil=>exact .nil
 | op b xs hl hh=>exact Rw.sl ⟨hh,hl⟩
 | ex b o n xs hl hh h2 =>
   subst h2
   refine .slc _ _ _ _ _ hl ?_
   show M.loads b o (xs.length * 1)=_
   rw[Nat.mul_one,hh]
theorem FB.one {TU:Nat} {v:AV} {xs:List UInt8} (h:FB M TU v xs) : oneCell v=true∧v.cells=[v]∧known v=true:=by
 cases h <;> exact⟨rfl,rfl,rfl⟩
section
variable {TF TU i b:Nat} {v:AV} {f:Df} {fs:List Df}
theorem qw.step (h:qw TF TU own M fbs i b v f) (hk:aa bs M M') (hb:∀ b∈bs,own b≠some (.file i)∧own b≠some (.bytes i)) (ho:∀ b,own b=some (.file i)∨own b=some (.bytes i)→own' b=own b) : qw TF TU own' M' fbs i b v f :=
 ⟨h.at_,Nat.lt_of_lt_of_le h.lt hk.next,by rw[ho _ (.inl h.tg),h.tg],hk.ay h.heap h.lt (fun hm=>(hb _ hm).1 h.tg),h.fb.keep hk (fun c hc hm=>(hb _ hm).2 (h.blk c hc)),h.le,
  fun c hc=>by rw[ho _ (.inr (h.blk c hc)),h.blk c hc]⟩
theorem rH.step (h:rH TF TU own M fbs fs) (hk:aa bs M M') (hb:∀ b∈bs,∀ i,own b≠some (.file i)∧own b≠some (.bytes i)) (ho:∀ b i,own b=some (.file i)∨own b=some (.bytes i)→own' b=own b) : rH TF TU own' M' fbs fs :=
 ⟨h.len,fun i f hf=>let ⟨b,v,h1⟩:=h.file i f hf; ⟨b,v,h1.step hk (fun b hm=>hb b hm i) (fun b=>ho b i)⟩⟩
theorem rH.at (h:rH TF TU own M fbs fs) {i b:Nat} (hb:fbs[i]?=some b) : ∃ f v,fs[i]?=some f∧qw TF TU own M fbs i b v f:=by
 have hi:i<fs.length:=by rw[← h.len]; exact(List.getElem?_eq_some_iff.1 hb).1
 obtain⟨b',v,h1⟩:=h.file i fs[i] (List.getElem?_eq_getElem hi)
 have:b'=b:=by have:=h1.at_; rw[hb] at this; cases this; rfl
 subst this
 exact⟨_,v,List.getElem?_eq_getElem hi,h1⟩
end
section
variable {TC:Nat} {v:AV} {cs:List TH}
theorem Ck.step (h:Ck TC own M fbs v cs) (hk:aa bs M M') (hb:∀ b∈bs,own b≠some .chg) (ho:∀ b,own b=some .chg→own' b=some .chg) : Ck TC own' M' fbs v cs :=
 ⟨Own.keep h.ow hk (fun b hm hm2=>hb b hm2 (h.blk b hm)),fun b hm=>ho b (h.blk b hm),h.wf⟩
theorem Ck.nil:Ck TC own M fbs bK []:=⟨.nil,by simp[ak],by simp⟩
end
structure E8 (TD TF TU TC:Nat) (own:iJ) (M:RM) (db:Nat) (s:KT) (fbs:List Nat) (nm sm:Nat) (cv:AV) : Prop where
 lt:∀ b,own b≠none→b<M.next
 od:own db=some .disk
 row:M.heap db=some (.row [N .i64 s.Xc,.map nm,.map sm,cv,N .i64 s.app,N .i64 s.syn] false TD 0)
 names:MapAt own M fbs nm s.dir .names
 safe:MapAt own M fbs sm s.Yn .safe
 chg:Ck TC own M fbs cv s.chg
 files:rH TF TU own M fbs s.files
def P5 (TD TF TU TC:Nat) (own:iJ) (M:RM) (db:Nat) (s:KT) : Prop:=∃ fbs nm sm cv,E8 TD TF TU TC own M db s fbs nm sm cv
def Tr (own:iJ) (M:RM) (own' : iJ) (M' : RM) : Prop:=∃ bs,aa bs M M'∧(∀ b∈bs,own b≠none)∧∀ b,b<M.next→own b=none→own' b=none
theorem Tr.refl (own:iJ) (M:RM) : Tr own M own M:=⟨[],aa.refl _ _,by simp,fun _ _ h=>h⟩
theorem Tr.keep (hk:aa [] M M') : Tr own M own M':=⟨[],hk,by simp,fun _ _ h=>h⟩
theorem Tr.next (h:Tr own M own' M') : M.next≤M'.next:=let ⟨_,h1,_⟩:=h; h1.next
theorem Tr.base (h:Tr own M own' M') : M'.base=M.base:=let ⟨_,h1,_⟩:=h; h1.base
section
variable {TD TF TU TC db:Nat} {s:KT} {nm sm:Nat} {cv:AV}
theorem E8.keep (h:E8 TD TF TU TC own M db s fbs nm sm cv) (hk:aa [] M M') : E8 TD TF TU TC own M' db s fbs nm sm cv :=
 ⟨fun b hb=>Nat.lt_of_lt_of_le (h.lt b hb) hk.next,h.od,hk.ay h.row (h.lt _ (by rw[h.od]; simp)) (by simp),h.names.step hk (by simp) (fun _ h=>h),h.safe.step hk (by simp) (fun _ h=>h),
  h.chg.step hk (by simp) (fun _ h=>h),h.files.step hk (by simp) (fun _ _ _=>rfl)⟩
end
end Go.Ab.Dk
set_option maxRecDepth 100000
namespace Go.Ab.Dk
open Go Go.Ab
def zN (p1:Nat) (a0:AV) (M0:RM) (Q:ah) : Prop:=af .lss a0 (N .i64 0) fun l=>aC l ( Q (.tup [(.sc (.pointer none)),(N .i64 1)]) M0) ( aW (.map [] 0) (fun c=>.map c) M0 fun m d=>aW (.map [] 0) (fun c=>.map c) d fun n e=>jd [(N .i64 0),(.sc (.map none)),(.sc (.map none)),(.sc (.slice none 0 0)),(N .i64 0),(N .i64 0)] [(0,1,a0),(1,1,m),(2,1,n)] fun o=>kZ p1 o fun i h=>aW i h e fun j g=>Q (.tup [j,(N .i64 0)]) g)
def oJ (p1:au) (a0 a1:AV) (M0:RM) (Q:ah) : Prop:=dS a0 fun m=>eF m 1 fun n=>ag M0 n fun e=>gL false [2] (.sc (.pointer none)) false M0 e a1 fun c=>eu false 1 c (.sc (.pointer none)) fun g=>aC g ( Q (.tup [(.sc (.slice none 0 0)),(N .i64 4)]) M0) ( dS c fun h=>eF h 0 fun i=>ag M0 i fun j=>p1 [j] M0 fun l d=>Q (.tup [l,(N .i64 0)]) d)
def bG (p1 p2:Nat) (a0:AV) (M0:RM) (Q:ah) : Prop:=kZ p1 a0 fun e d=>aW e d M0 fun g c=>Q (.fn (.func p2) [] [g]) c
set_option maxRecDepth 10000
abbrev SL:AV:=.sc (.pointer none)
section
variable {fbs gbs:List Nat} {own own' : iJ} {M M' : RM} {bs:List Nat} {m:Nat} {d:Dir} {t:Tag} {s:Nm}
theorem Oi (h:MapAt own M fbs m d t) {K:AV→Prop} (h1:J8 d s=none→K SL) (h2:∀ f b,J8 d s=some f→fbs[f]?=some b→K (.ptr b 0)) : gL false [2] SL false M (.map m) (St s) K:=by
 obtain⟨es,cl,hh,he⟩:=h.heap
 rcases H7 s 0 he with⟨a1,a2⟩ | ⟨j,f,b,a1,a2,a3,a4,a5⟩
 ·exact⟨m,es,cl,[St s],none,rfl,hh,rfl,rfl,a1,h1 a2⟩
 ·exact⟨m,es,cl,[St s],_,rfl,hh,rfl,rfl,a1,h2 f b a2 a3⟩
end
def tot (fs:List Df) : Dir→Nat
 | []=>0
 | e :: d=>(fs[e.2]?.getD ([],0)).1.length + tot fs d
def NY (s:KT) (f:Nat) : Df:=s.files[f]?.getD ([],0)
def NU (s:KT) (n:Nm) : List UInt8 × Int :=
 match J8 s.dir n with
 | none=>([],4)
 | some f=>((NY s f).1,0)
def gZ (p:List Int) (i n:Nat) : Nat:=match p[i]? with
 | none=>0
 | some x=>if x<0 then 0 else x.toNat % n
section
variable {TD TF TU TC:Nat}
theorem qw.put {own:iJ} {M:RM} {fbs:List Nat} {i b:Nat} {v:AV} {f:Df} (h:qw TF TU own M fbs i b v f) (n:Nat) (hn:n≤f.1.length) :
  qw TF TU own (M.put b (.row [v,N .i64 (n:Int)] false TF 0)) fbs i b v (f.1,n):=by
 have hk:aa [b] M (M.put b (.row [v,N .i64 (n:Int)] false TF 0)):=(aa.refl _ _).put _ (.inr (by simp))
 refine⟨h.at_,h.lt,h.tg,aF _,h.fb.keep hk (fun c hc hm=>?_),hn,h.blk⟩
 rw[List.mem_singleton] at hm
 have:=h.blk c hc
 rw[hm,h.tg] at this; cases this
def Uk (TU:Nat) (c:au) : Prop:=Go.Ab.aP.jw TU 1 1 c
def EI (TD TF TU TC:Nat) (c:au) : Prop:=∀ {own:iJ} {M:RM} {db:Nat} {s:KT} {n:Nm} {Q:ah},P5 TD TF TU TC own M db s→(∀ f∈s.files,f.1.length≤140737488355328) →
 (∀ v M',aa [] M M'→Ow BY M' M.next TU v (NU s n).1→Q (.tup [v,N .i64 (NU s n).2]) M')→c [.ptr db 0,St n] M Q
theorem IA {ck:au} (hc:Uk TU ck) : EI TD TF TU TC fun args M Q=>∃ a0 a1,args=[a0,a1]∧oJ ck a0 a1 M Q:=by
 intro own M db s n Q hd hlen hQ
 obtain⟨fbs,nm,sm,cv,hd⟩:=hd
 refine⟨_,_,rfl, ?_⟩
 unfold oJ
 rw[bC,iE,aG (i:=0 + 1) hd.row rfl]
 unfold NU at hQ
 refine Oi hd.names (fun hn=>?_) (fun f b hf hb=>?_)
 ·rw[hn] at hQ
  rw[uy,Bool.not_false,jv]
  exact hQ _ M (aa.refl _ _) .nil
 ·rw[hf] at hQ
  dsimp only at hQ
  rw[wC,iI]
  obtain⟨fl,v,hfl,hat⟩:=hd.files.at hb
  have hff:NY s f=fl:=by unfold NY; rw[hfl]; rfl
  rw[hff] at hQ
  have:=hlen fl (List.mem_of_getElem? hfl)
  rw[bC,iE,aG (i:=0 + 0) hat.heap rfl]
  refine hc hat.fb.sl (BY.bX _) (by omega) this fun v' M' o k=>?_
  exact hQ v' M' k o
end
section
variable {TD TF TU TC:Nat}
def Vd (n:Int) : KT:=⟨[],[],[],[],n,0,0⟩
def xC (TD TF TU TC:Nat) (c:au) : Prop:=∀ {M:RM} {n:Int} {Q:ah},(n<0→Q (.tup [SL,N .i64 1]) M) →
 (¬ n<0→∀ own M' db,P5 TD TF TU TC own M' db (Vd n)→(∀ b,b<M.next→own b=none)→aa [] M M'→Q (.tup [.ptr db 0,N .i64 0]) M')→c [N .i64 n] M Q
theorem DV:xC TD TF TU TC fun args M Q=>∃ a0,args=[a0]∧zN TD a0 M Q:=by
 intro M n Q h1 h2
 refine⟨_,rfl, ?_⟩
 unfold zN
 rw[kV]
 refine aZ (fun hc=>h1 (of_decide_eq_true hc)) (fun hc=>?_)
 rw[aV,aV,iR]
 refine⟨_,rfl, ?_⟩
 rw[kK rfl (by show 1≤6; decide),aV]
 have k1:aa [] M (((M.push (.map [] 0)).push (.map [] 0)).push (.row [N .i64 n,.map M.next,.map (M.next + 1),bK,N .i64 0,N .i64 0] false TD 0)):=(((aa.refl _ _).push _).push _).push _
 refine h2 (of_decide_eq_false hc) (upd (upd (upd (fun _=>none) M.next .names) (M.next + 1) .safe) (M.next + 2) .disk) _ _ ?_ ?_ k1
 ·have e1:(((M.push (.map [] 0)).push (.map [] 0)).push (.row [N .i64 n,.map M.next,.map (M.next + 1),bK,N .i64 0,N .i64 0] false TD 0)).heap M.next=some (.map [] 0) :=
   rO (rO (RM.bN _) (by rw[dB]; omega)) (by rw[dB,dB]; omega)
  have e2:(((M.push (.map [] 0)).push (.map [] 0)).push (.row [N .i64 n,.map M.next,.map (M.next + 1),bK,N .i64 0,N .i64 0] false TD 0)).heap (M.next + 1)=some (.map [] 0) :=
   rO (RM.bN _) (by rw[dB,dB]; omega)
  have o1:(upd (upd (upd (fun _=>none) M.next .names) (M.next + 1) .safe) (M.next + 2) .disk) M.next=some .names:=by
   rw[upd_ne (by omega),upd_ne (by omega),Jy]
  have o2:(upd (upd (upd (fun _=>none) M.next .names) (M.next + 1) .safe) (M.next + 2) .disk) (M.next + 1)=some .safe:=by
   rw[upd_ne (by omega),Jy]
  refine⟨[],M.next,M.next + 1,bK,fun b hb=>?_,Jy,RM.bN _,⟨o1,by rw[dB,dB,dB]; omega,[],0,e1,trivial⟩,⟨o2,by rw[dB,dB,dB]; omega,[],0,e2,trivial⟩,.nil,⟨rfl,fun i f h=>by simp[Vd] at h⟩⟩
  simp only[upd] at hb
  rw[dB,dB,dB]
  split at hb
  ·omega
  ·split at hb
   ·omega
   ·split at hb
    ·omega
    ·simp at hb
 ·intro b hb
  rw[upd_ne (by omega),upd_ne (by omega),upd_ne (by omega)]
def fA (fs:List Df) (seen:List Nat) : List (AV × AV × Nat)→Dir→Nat
 | e :: es,d :: ds=>(if e.2.2∈seen then(fs[d.2]?.getD ([],0)).1.length else 0) + fA fs seen es ds
 | _,_=>0
def jl (seen:List Nat) : List (AV × AV × Nat)→Nat
 | []=>0
 | e :: es=>(if e.2.2∈seen then 0 else 1) + jl seen es
section
variable {fbs:List Nat} {cl:Nat} {fs:List Df}
theorem BZ (seen:List Nat) : ∀ {es:List (AV × AV × Nat)} {d:Dir} {lo:Nat},iQ fbs cl lo es d→fA fs seen es d≤tot fs d
 | [],[],_,_=>Nat.le_refl _
 | e :: es,_ :: d,_,⟨_,_,_,_,h⟩=>by
   have:=BZ seen h
   simp only[fA,tot]; split <;> omega
theorem yT (seen:List Nat) : ∀ {es:List (AV × AV × Nat)} {d:Dir} {lo:Nat},iQ fbs cl lo es d→(∀ e∈es,e.2.2∈seen)→fA fs seen es d=tot fs d
 | [],[],_,_,_=>rfl
 | e :: es,_ :: d,_,⟨_,_,_,_,h⟩,ha=>by
   have:=yT seen h (fun e he=>ha e (List.mem_cons_of_mem _ he))
   simp only[fA,tot,if_pos (ha e (List.mem_cons_self ..)),this]
theorem xA:∀ {es:List (AV × AV × Nat)} {d:Dir},fA fs [] es d=0
 | [],_=>by cases ‹Dir› <;> rfl
 | e :: es,[]=>rfl
 | e :: es,d :: ds=>by simp[fA,xA (es:=es)]
theorem wG (seen:List Nat) (k:Nat) : ∀ {es:List (AV × AV × Nat)} {d:Dir} {lo:Nat},iQ fbs cl lo es d→k<lo→fA fs (seen++[k]) es d=fA fs seen es d∧jl (seen++[k]) es=jl seen es
 | [],[],_,_,_=>⟨rfl,rfl⟩
 | e :: es,_ :: d,lo,⟨_,_,h1,_,h⟩,hk=>by
   obtain⟨a1,a2⟩:=wG seen k h (by omega)
   have:(e.2.2∈seen++[k])=(e.2.2∈seen):=by
    simp only[List.mem_append,List.mem_singleton,eq_iff_iff]
    exact⟨fun h=>h.resolve_right (by omega),.inl⟩
   simp only[fA,jl,a1,a2,this,and_self]
theorem oL (seen:List Nat) : ∀ {es:List (AV × AV × Nat)} {d:Dir} {lo:Nat},iQ fbs cl lo es d→∀ n∈es,n.2.2 ∉ seen →
  ∃ (f b:Nat),fbs[f]?=some b∧n.2.1=.ptr b 0∧es.find? (fun e=>e.2.2 == n.2.2)=some n∧lo≤n.2.2∧n.2.2<cl∧fA fs (seen++[n.2.2]) es d=fA fs seen es d + (fs[f]?.getD ([],0)).1.length∧jl (seen++[n.2.2]) es<jl seen es
 | [],[],_,_,n,hn,_=>by cases hn
 | e :: es,x :: d,lo,⟨h0,⟨b,h1,h2⟩,h3,h4,h⟩,n,hn,hs=>by
   rcases List.mem_cons.1 hn with rfl | hn
   ·obtain⟨a1,a2⟩:=wG (fs:=fs) seen n.2.2 h (by omega)
    refine⟨x.2,b,h1,h2,by simp,h3,h4, ?_, ?_⟩
    ·simp only[fA,a1,List.mem_append,List.mem_singleton,or_true,if_true,if_neg hs]; omega
    ·simp only[jl,a2,List.mem_append,List.mem_singleton,or_true,if_true,if_neg hs]; omega
   ·obtain⟨f,b',q1,q2,q3,q4,q5,q6,q7⟩:=oL seen h n hn hs
    have hne:e.2.2≠n.2.2:=by omega
    have:(e.2.2∈seen++[n.2.2])=(e.2.2∈seen):=by
     simp only[List.mem_append,List.mem_singleton,eq_iff_iff]
     exact⟨fun h=>h.resolve_right hne,.inl⟩
    refine⟨f,b',q1,q2, ?_,by omega,q5, ?_, ?_⟩
    ·rw[List.find?_cons_of_neg (by simpa using hne)]; exact q3
    ·simp only[fA,q6,this]; omega
    ·simp only[jl,this]; omega
end
end
def mh:Nm→Nm→Bool
 | [],_=>true
 | _ :: _,[]=>false
 | a :: x,b :: y=>decide (a.toNat<b.toNat) || (decide (a.toNat=b.toNat) && mh x y)
def Es (x:Nm) : List Nm→List Nm
 | []=>[x]
 | y :: l=>if mh x y then x :: y :: l else y :: Es x l
def lL:List Nm→List Nm
 | []=>[]
 | x :: l=>Es x (lL l)
theorem A8 (x:Nm) : ∀ l,(Es x l).Perm (x :: l)
 | []=>.refl _
 | y :: l=>by
   unfold Es
   split
   ·exact .refl _
   ·exact((A8 x l).cons y).trans (.swap _ _ _)
theorem qL:∀ l,(lL l).Perm l
 | []=>.refl _
 | x :: l=>(A8 x _).trans ((qL l).cons x)
def JP (d:Dir) : List Nm:=d.map (·.1)
section
variable {M:RM} {TU:Nat}
end
def Xn (d:Dir) : Prop:=(JP d).Nodup∧∀ n∈JP d,n.length≤64
section
variable {TD TF TU TC:Nat}
end
theorem vV:∀ x y:Nm,mh x y=decide (x≤y)
 | [],y=>by simp[mh]
 | a :: x,[]=>by simp[mh]
 | a :: x,b :: y=>by
   rw[mh,vV x y,Bool.eq_iff_iff]
   simp only[Bool.or_eq_true,Bool.and_eq_true,decide_eq_true_eq,List.cons_le_cons_iff]
   rw[UInt8.lt_iff_toNat_lt,← UInt8.toNat_inj]
theorem Hq (x y:Nm) : (mh x y || mh y x)=true:=by
 rw[vV,vV,Bool.or_eq_true,decide_eq_true_eq,decide_eq_true_eq]
 exact Std.Total.total x y
theorem Ir (x y z:Nm) (h1:mh x y=true) (h2:mh y z=true) : mh x z=true:=by
 rw[vV,decide_eq_true_eq] at *
 exact List.le_trans h1 h2
theorem Ro (x y:Nm) (h1:mh x y=true) (h2:mh y x=true) : x=y:=by
 rw[vV,decide_eq_true_eq] at *
 exact List.le_antisymm h1 h2
theorem Dm (x:Nm) : ∀ {l:List Nm},l.Pairwise (fun a b=>mh a b=true)→(Es x l).Pairwise (fun a b=>mh a b=true)
 | [],_=>by simp[Es]
 | y :: l,h=>by
   unfold Es
   split
   ·rename_i hxy
    refine List.pairwise_cons.2 ⟨fun z hz=>?_,h⟩
    rcases List.mem_cons.1 hz with rfl | hz
    ·exact hxy
    ·exact Ir _ _ _ hxy ((List.pairwise_cons.1 h).1 z hz)
   ·rename_i hxy
    have hyx:mh y x=true:=by have:=Hq x y; simp only[Bool.not_eq_true] at hxy; rw[hxy] at this; simpa using this
    refine List.pairwise_cons.2 ⟨fun z hz=>?_,Dm x (List.pairwise_cons.1 h).2⟩
    rcases List.mem_cons.1 ((A8 x l).mem_iff.1 hz) with rfl | hz
    ·exact hyx
    ·exact(List.pairwise_cons.1 h).1 z hz
theorem zX:∀ l:List Nm,(lL l).Pairwise (fun a b=>mh a b=true)
 | []=>.nil
 | x :: l=>Dm x (zX l)
theorem Dc {ss l:List Nm} (h:ss.Perm l) : ss.mergeSort (fun x y=>decide (x≤y))=lL l:=by
 have e:(fun x y:Nm=>decide (x≤y))=mh:=by funext x y; rw[vV]
 rw[e]
 refine List.Perm.eq_of_pairwise (le:=fun a b=>mh a b=true) (fun a b _ _ h1 h2=>Ro a b h1 h2) ?_ (zX l) ((List.mergeSort_perm _ _).trans (h.trans (qL l).symm))
 exact List.pairwise_mergeSort Ir Hq ss
def GH (TS TM g:Nat) (c:au) : Prop:=∀ {own:iJ} {M:RM} {fbs:List Nat} {m b:Nat} {d:Dir} {t:Tag} {Q:ah},MapAt own M fbs m d t→M.heap b=some (.row [.map m] false TM 0)→b<M.next→d.length≤4000000000→Xn d →
 (∀ v M',Ow eB M' M.next TS v (lL (JP d))→aa [] M M'→Q v M')→c [.fn (.func g) [] [.ptr b 0]] M Q
def Nn (TM g:Nat) (c:au) : Prop:=∀ {M:RM} {m:Nat} {Q:ah},Q (.fn (.func g) [] [.ptr M.next 0]) (M.push (.row [.map m] false TM 0))→c [.map m] M Q
section
variable {TD TF TU TC:Nat}
end
end Go.Ab.Dk
namespace Go.Ab.Bl
open Go Go.Ab Go.Ab.aP Go.Ab.Sha
open Go.Ab.Dk (lL mh)
def iG (T:List dX) : List Str:=T.map (·.1)
def GH (TS TM g:Nat) (c:au) : Prop:=∀ {M:RM} {m b cl:Nat} {T:List dX} {Q:ah},M.heap m=some (.map (T.map ed) cl)→Wf cl T→(∀ t∈T,t.1.length=64)→M.heap b=some (.row [.map m] false TM 0)→b<M.next→T.length≤1000000 →
 (∀ v M',Ow eB M' M.next TS v (lL (iG T))→aa [] M M'→Q v M')→c [.fn (.func g) [] [.ptr b 0]] M Q
def Nn (TM g:Nat) (c:au) : Prop:=∀ {M:RM} {m:Nat} {Q:ah},Q (.fn (.func g) [] [.ptr M.next 0]) (M.push (.row [.map m] false TM 0))→c [.map m] M Q
def BC (TSt TS:Nat) (c:au) : Prop:=∀ {M:RM} {sb n:Nat} {f:Str→Option Str} {W:Nat→Prop} {Q:ah},lQ TSt M sb f W n→n≤1000000 →
 (∀ T v M',nJ TSt M sb T f W→T.length≤n→Ow eB M' M.next TS v (lL (iG T))→aa [] M M'→Q v M')→c [.ptr sb 0] M Q
theorem IP {TSt TS TM g:Nat} {ck cs:au} (hk:Nn TM g ck) (hs:GH TS TM g cs) : BC TSt TS fun args M Q=>∃ a0,args=[a0]∧kC ck cs a0 M Q:=by
 rintro M sb n f W Q ⟨T,h,hT⟩ hn hQ
 refine⟨_,rfl, ?_⟩
 unfold kC
 obtain⟨mb,cl,g1,g2,g3,g4,g5,g6⟩:=h.map
 rw[bC,iE,Nat.zero_add,aG g3 rfl]
 refine hk ?_
 have k1:aa [] M (M.push (.row [.map mb] false TM 0)):=(aa.refl _ _).push _
 have n1:(M.push (.row [.map mb] false TM 0)).heap M.next=some (.row [.map mb] false TM 0):=RM.bN _
 have x1:(M.push (.row [.map mb] false TM 0)).next=M.next + 1:=rfl
 generalize M.push (.row [.map mb] false TM 0)=M1 at *
 refine hs (k1.ay g4 (h.lt _ g1) (by simp)) g5 h.nm n1 (by omega) (by omega) fun v M2 o2 k2=>?_
 exact hQ T v M2 h hT (Own.mono o2 (by omega)) (k1.trans k2)
def fA (g:dX→Nat) (seen:List Nat) : List dX→Nat
 | []=>0
 | t :: T=>(if t.2.2∈seen then g t else 0) + fA g seen T
def jl (seen:List Nat) : List dX→Nat
 | []=>0
 | t :: T=>(if t.2.2∈seen then 0 else 1) + jl seen T
def wY (g:dX→Nat) (T:List dX) : Nat:=(T.map g).sum
section
variable {g:dX→Nat} {seen:List Nat}
theorem xA:∀ {T:List dX},fA g [] T=0
 | []=>rfl
 | t :: T=>by simp[fA,xA (T:=T)]
theorem BZ:∀ {T:List dX},fA g seen T≤wY g T
 | []=>Nat.le_refl _
 | t :: T=>by
   have:=BZ (T:=T)
   unfold wY at *
   simp only[fA,List.map_cons,List.sum_cons]; split <;> omega
theorem yT:∀ {T:List dX},(∀ t∈T,t.2.2∈seen)→fA g seen T=wY g T
 | [],_=>rfl
 | t :: T,h=>by
   have:=yT (T:=T) (fun x hx=>h x (List.mem_cons_of_mem _ hx))
   unfold wY at *
   simp only[fA,List.map_cons,List.sum_cons,if_pos (h t (List.mem_cons_self ..)),this]
theorem wG {k:Nat} : ∀ {T:List dX},(∀ t∈T,t.2.2≠k)→fA g (seen++[k]) T=fA g seen T∧jl (seen++[k]) T=jl seen T
 | [],_=>⟨rfl,rfl⟩
 | t :: T,h=>by
   obtain⟨a1,a2⟩:=wG (T:=T) (fun x hx=>h x (List.mem_cons_of_mem _ hx))
   have:(t.2.2∈seen++[k])=(t.2.2∈seen):=by
    simp only[List.mem_append,List.mem_singleton,eq_iff_iff]
    exact⟨fun hm=>hm.resolve_right (h t (List.mem_cons_self ..)),.inl⟩
   simp only[fA,jl,a1,a2,this,and_self]
theorem oL:∀ {T:List dX},T.Pairwise (fun a b=>a.2.2<b.2.2)→∀ n∈T,n.2.2 ∉ seen →
  (T.map ed).find? (fun e=>e.2.2 == n.2.2)=some (ed n)∧fA g (seen++[n.2.2]) T=fA g seen T + g n∧jl (seen++[n.2.2]) T<jl seen T
 | [],_,n,hn,_=>by cases hn
 | t :: T,h,n,hn,hs=>by
   rw[List.pairwise_cons] at h
   rcases List.mem_cons.1 hn with rfl | hn
   ·obtain⟨a1,a2⟩:=wG (g:=g) (seen:=seen) (k:=n.2.2) (T:=T) (fun x hx e=>by have:=h.1 x hx; omega)
    refine⟨by simp[ed], ?_, ?_⟩
    ·simp only[fA,a1,List.mem_append,List.mem_singleton,or_true,if_true,if_neg hs]; omega
    ·simp only[jl,a2,List.mem_append,List.mem_singleton,or_true,if_true,if_neg hs]; omega
   ·obtain⟨q3,q6,q7⟩:=oL h.2 n hn hs
    have hne:t.2.2≠n.2.2:=by have:=h.1 n hn; omega
    have:(t.2.2∈seen++[n.2.2])=(t.2.2∈seen):=by
     simp only[List.mem_append,List.mem_singleton,eq_iff_iff]
     exact⟨fun h=>h.resolve_right hne,.inl⟩
    refine⟨?_, ?_, ?_⟩
    ·rw[List.map_cons,List.find?_cons_of_neg (by simpa [ed] using hne)]; exact q3
    ·simp only[fA,q6,this]; omega
    ·simp only[jl,this]; omega
end
def vM (f:Str→Option Str) (t:dX) : Nat:=((f t.1).getD []).length
def Bn (TSt:Nat) (c:au) : Prop:=∀ {M:RM} {sb n:Nat} {f:Str→Option Str} {W:Nat→Prop} {Q:ah},lQ TSt M sb f W n→n≤1000000 →
 (∀ T M',nJ TSt M sb T f W→T.length≤n→aa [] M M'→Q (N .i64 (wY (vM f) T:Int)) M')→c [.ptr sb 0] M Q
theorem Mx {g:dX→Nat} {k:Nat} : ∀ {T:List dX},(∀ t∈T,g t≤k)→wY g T≤T.length * k
 | [],_=>Nat.zero_le _
 | t :: T,h=>by
   have h1:=Mx (T:=T) (fun x hx=>h x (List.mem_cons_of_mem _ hx))
   have h2:=h t (List.mem_cons_self ..)
   unfold wY at *
   simp only[List.map_cons,List.sum_cons,List.length_cons,Nat.succ_mul]; omega
theorem Fh {TSt:Nat} : Bn TSt fun args M Q=>∃ a0,args=[a0]∧ku a0 M Q:=by
 rintro M sb n f W Q ⟨T,h,hT⟩ hn hQ
 refine⟨_,rfl, ?_⟩
 unfold ku
 obtain⟨mb,cl,g1,g2,g3,g4,g5,g6⟩:=h.map
 rw[bC,iE,Nat.zero_add,aG g3 rfl]
 refine⟨mb,_,cl,rfl,g4, ?_⟩
 have hml:=h.lt _ g1
 have hval:∀ t∈T,vM f t≤1000000:=fun t ht=>by
  obtain⟨b,q1,_,q3,_⟩:=h.val t ht
  unfold vM; rw[q1]; exact q3
 have htot:=Mx hval
 have htot2:wY (vM f) T≤1000000 * 1000000:=Nat.le_trans htot (Nat.mul_le_mul_right _ (by omega))
 have k1:aa [] M (M.push (.iter (some mb) cl [] cl)):=(aa.refl _ _).push _
 refine aT (fun z ys M'=>∃ seen,z=jl seen T∧ys=[N .i64 (fA (vM f) seen T:Int)]∧aa [] M M'∧M.next<M'.next∧M'.heap M.next=some (.iter (some mb) cl seen cl)) (jl [] T)
  ⟨[],rfl,by rw[xA]; rfl,k1,by rw[dB]; omega,RM.bN _⟩ ?_
 rintro next z ys M' hnext ⟨seen,rfl,rfl,k2,n2,h2⟩
 dsimp only[aj]
 have hm:=k2.ay g4 hml (by simp)
 refine⟨M.next,mb,cl,seen,cl,_,cl,rfl,h2,hm, ?_,fun e he hs=>?_,fun ha=>?_⟩
 ·cases T with
  | nil=>exact .inr (.inl rfl)
  | cons t T=>exact .inr (.inr ⟨ed t,by simp,g5.lt t (List.mem_cons_self ..)⟩)
 ·obtain⟨t,ht,rfl⟩:=List.mem_map.1 he
  obtain⟨q3,q6,q7⟩:=oL (g:=vM f) g5.up t ht hs
  rw[dm,jv]
  have k3:aa [] M (M'.put M.next (.iter (some mb) cl (seen++[(ed t).2.2]) cl)):=k2.put _ (.inl (Nat.le_refl _))
  have h3:(M'.put M.next (.iter (some mb) cl (seen++[(ed t).2.2]) cl)).heap M.next=some (.iter (some mb) cl (seen++[(ed t).2.2]) cl):=aF _
  have hm3:=k3.ay g4 hml (by simp)
  refine⟨M.next,mb,cl,seen,_,cl,_,_,rfl,h3,hm3,q3, ?_⟩
  obtain⟨b,p1,p2,p3,p4⟩:=(h.keep k3 (by simp)).val t ht
  have e1:vM f t=b.length:=by unfold vM; rw[p1]; rfl
  have hle:=BZ (g:=vM f) (seen:=seen++[t.2.2]) (T:=T)
  rw[dQ,show(ed t).2.1=t.2.1 from rfl,p2.len,addN (by omega),← e1,← q6]
  exact hnext _ _ _ q7 ⟨_,rfl,rfl,k3,n2,h3⟩
 ·dsimp only
  rw[dm,iI,yT (fun t ht=>?_)]
  ·exact hQ T M' h hT k2
  ·rcases Classical.em (t.2.2∈seen) with hx | hx
   ·exact hx
   ·have:=ha (ed t) (List.mem_map_of_mem ht) hx
    have:=g5.lt t ht
    simp only[ed] at *
    omega
end Go.Ab.Bl
namespace Go.Ab.Bl
open Go Go.Ab Go.Ab.aP Go.Ab.Sha
theorem nP {i:Nat} (hi:i<4611686018427387903) {K:AV→Prop} : af .add (N .i64 (i:Int)) (N .i64 1) K=K (N .i64 ((i + 1:Nat) : Int)):=by
 rw[show(1:Int)=((1:Nat) : Int) from rfl,addN (by omega)]
def CE (P:RM→Prop) (p:Str→Bool) (c:List AV→RM→ah→Prop) : Prop:=∀ {M:RM} {x:Str} {Q:ah},P M→x.length≤281474976710656→(∀ M',aa [] M M'→Q (Bo (p x)) M')→c [St x] M Q
def wN (P:RM→Prop) (p:Str→Bool) (fv:AV) (c:au) : Prop:=∀ {M:RM} {v:AV} {xs:List Str} {Q:ah},P M→(∀ M M',P M→aa [] M M'→P M')→Sl eB M v xs→xs.length≤1000000000→(∀ x∈xs,x.length≤281474976710656) →
 (xs.any p=false→∀ M',aa [] M M'→Q (N .i64 (-1)) M')→(∀ (i:Nat) (hi:i<xs.length),p xs[i]=true→(∀ x∈xs.take i,p x=false)→∀ M',aa [] M M'→Q (N .i64 (i:Int)) M')→c [v,fv] M Q
theorem Dq {P:RM→Prop} {p:Str→Bool} {fv:AV} {cv:FuncId→au} (hp:CE P p (nU cv fv)) : wN P p fv fun args M Q=>∃ a0 a1,args=[a0,a1]∧kX cv a0 a1 M Q:=by
 intro M v xs Q hP hPk hs hl hxl h0 h1
 refine⟨_,_,rfl, ?_⟩
 unfold kX
 rw[aO.len hs]
 refine aT (fun m ys M3=>∃ i:Nat,m=xs.length - i∧ys=[N .i64 (i:Int)]∧i≤xs.length∧aa [] M M3∧∀ x∈xs.take i,p x=false) _ ⟨0,rfl,rfl,Nat.zero_le _,aa.refl _ _,by simp⟩ ?_
 rintro next m ys M3 hnext ⟨i,rfl,rfl,hi,k3,hm⟩
 simp only[aK]
 rw[lU]
 refine aZ (fun hlt=>?_) (fun hge=>?_)
 ·have hlt:i<xs.length:=of_decide_eq_true hlt
  refine tY (aO.keep hs k3 (by simp)) hlt ?_
  refine hp (hPk _ _ hP k3) (hxl _ (List.getElem_mem _)) fun M4 k4=>?_
  refine aZ (fun he=>h1 i hlt he hm M4 (k3.trans k4)) (fun he=>?_)
  rw[nP (by omega)]
  refine hnext _ _ _ (by omega) ⟨i + 1,rfl,rfl,by omega,k3.trans k4,fun x hx=>?_⟩
  rw[List.take_succ_eq_append_getElem hlt,List.mem_append] at hx
  rcases hx with hx | hx
  ·exact hm x hx
  ·simp at hx; subst hx; exact he
 ·have he:i=xs.length:=by
   have:¬ i<xs.length:=of_decide_eq_false hge
   omega
  subst he
  rw[List.take_length] at hm
  exact h0 (by simpa using hm) M3 k3
def J4 (P:RM→Prop) (p:Str→Bool) (fv:AV) (c:au) : Prop:=∀ {M:RM} {v:AV} {xs:List Str} {Q:ah},P M→(∀ M M',P M→aa [] M M'→P M')→Sl eB M v xs→xs.length≤1000000000→(∀ x∈xs,x.length≤281474976710656) →
 (∀ M',aa [] M M'→Q (Bo (xs.any p)) M')→c [v,fv] M Q
theorem Ob {P:RM→Prop} {p:Str→Bool} {fv:AV} {ci:au} (hi:wN P p fv ci) : J4 P p fv fun args M Q=>∃ a0 a1,args=[a0,a1]∧jy ci a0 a1 M Q:=by
 intro M v xs Q hP hPk hs hl hxl hQ
 refine⟨_,_,rfl, ?_⟩
 unfold jy
 refine hi hP hPk hs hl hxl (fun hn M1 k1=>?_) fun i hlt hpi _ M1 k1=>?_
 ·rw[jQ,show decide ((-1:Int) ≥ 0)=false by decide,← hn]
  exact hQ M1 k1
 ·rw[jQ,show decide ((i:Int) ≥ 0)=true by simp,← List.any_eq_true.2 ⟨_,List.getElem_mem hlt,hpi⟩]
  exact hQ M1 k1
def JD (c:au) : Prop:=∀ {M:RM} {v:AV} {xs:List Str} {s:Str} {Q:ah},Sl eB M v xs→xs.length≤1000000000→Q (Bo (decide (s∈xs))) M→c [v,St s] M Q
def G7 (c:au) : Prop:=∀ {M:RM} {v:AV} {xs:List Str} {s:Str} {Q:ah},Sl eB M v xs→xs.length≤1000000000→(∀ n:Int,decide (n ≥ 0)=decide (s∈xs)→Q (N .i64 n) M)→c [v,St s] M Q
theorem LP:G7 fun args M Q=>∃ a0 a1,args=[a0,a1]∧oW a0 a1 M Q:=by
 intro M v xs s Q hs hl hQ
 refine⟨_,_,rfl, ?_⟩
 unfold oW
 rw[aO.len hs]
 refine aT (fun m ys M3=>∃ i:Nat,m=xs.length - i∧ys=[N .i64 (i:Int)]∧i≤xs.length∧M3=M∧s ∉ xs.take i) _ ⟨0,rfl,rfl,Nat.zero_le _,rfl,by simp⟩ ?_
 rintro next m ys M3 hnext ⟨i,rfl,rfl,hi,rfl,hm⟩
 simp only[aK]
 rw[lU]
 refine aZ (fun hlt=>?_) (fun hge=>?_)
 ·have hlt:i<xs.length:=of_decide_eq_true hlt
  refine tY hs hlt ?_
  rw[sM]
  refine aZ (fun he=>?_) (fun he=>?_)
  ·have he:s=xs[i]:=by simpa using he
   refine hQ i ?_
   rw[show decide ((i:Int) ≥ 0)=true by simp,eq_comm,decide_eq_true_eq,he]
   exact List.getElem_mem _
  ·have he:¬ s=xs[i]:=by simpa using he
   rw[nP (by omega)]
   refine hnext _ _ _ (by omega) ⟨i + 1,rfl,rfl,by omega,rfl,fun hx=>?_⟩
   rw[List.take_succ_eq_append_getElem hlt,List.mem_append] at hx
   rcases hx with hx | hx
   ·exact hm hx
   ·simp at hx; exact he hx
 ·have he:i=xs.length:=by
   have:¬ i<xs.length:=of_decide_eq_false hge
   omega
  subst he
  rw[List.take_length] at hm
  exact hQ (-1) (by rw[show decide ((-1:Int) ≥ 0)=false by decide,eq_comm,decide_eq_false_iff_not]; exact hm)
theorem OM {ci:au} (hi:G7 ci) : JD fun args M Q=>∃ a0 a1,args=[a0,a1]∧lW ci a0 a1 M Q:=by
 intro M v xs s Q hs hl hQ
 refine⟨_,_,rfl, ?_⟩
 unfold lW
 refine hi hs hl fun n hn=>?_
 rw[jQ,hn]
 exact hQ
theorem Rf {b o n k z:Nat} (h:k≤n) (h0:0<n) : dJ z (.slc b o n (.op z)) none (some (N .i64 (k:Int))) none=some (.slc b o k (.op z)):=by
 simp only[dJ,bnd]
 simp[h]
 omega
def Ef (P:RM→Prop) (p:Str→Bool) (fv:AV) (c:au) : Prop:=∀ {M:RM} {base T:Nat} {v:AV} {xs:List Str} {Q:ah},P M→(∀ M M' ks,P M→aa ks M M'→(∀ d∈ks,d∈ak v)→P M')→Ow eB M base T v xs→xs.length≤100000000→(∀ x∈xs,x.length≤281474976710656) →
 (∀ v' M',Sl eB M' v' (xs.filter fun x=>!p x)→(∀ d∈ak v',d∈ak v)→aa (ak v) M M'→Q v' M')→c [v,fv] M Q
theorem KU {P:RM→Prop} {p:Str→Bool} {fv:AV} {cv:FuncId→au} {ci:au} (hi:wN P p fv ci) (hp:CE P p (nU cv fv)) : Ef P p fv fun args M Q=>∃ a0 a1,args=[a0,a1]∧kD ci cv a0 a1 M Q:=by
 intro M base T v xs Q hP hPk ho hl hxl hQ
 refine⟨_,_,rfl, ?_⟩
 unfold kD
 simp only[Sha.fF]
 have hs:Sl eB M v xs:=ho.lN
 refine hi hP (fun M M' h k=>hPk M M' [] h k (by simp)) hs (by omega) hxl (fun hn M1 k1=>?_) (fun i hlt hpi hm M1 k1=>?_)
 ·rw[bM,show((-1:Int) == -1)=true from rfl,jv]
  have e:(xs.filter fun x=>!p x)=xs:=List.filter_eq_self.2 fun x hx=>by
   have:=List.any_eq_false.1 hn x hx
   simpa using this
  exact hQ v M1 (by rw[e]; exact aO.keep hs k1 (by simp)) (fun d hd=>hd) (k1.mono (by simp))
 rw[bM,show((i:Int) == -1)=false by rw[beq_eq_false_iff_ne]; omega,iI,nP (by omega)]
 obtain⟨b,rfl,h1,h2,h3,h4⟩:=Own.U2 ho (by omega)
 have hat:Rw eB M b true T xs:=⟨h3,h2⟩
 have hpre0:xs.take i=(xs.take (i + 1)).filter fun x=>!p x:=by
  rw[List.take_succ_eq_append_getElem hlt,List.filter_append,List.filter_eq_self.2 fun x hx=>by simpa using hm x hx]
  simp[hpi]
 refine aT (fun m ys M3=>∃ (k j:Nat) (d:List Str),m=xs.length - j∧ys=[N .i64 (k:Int),N .i64 (j:Int)]∧j≤xs.length∧k<j∧Rw eB M3 b true T d∧aa [b] M M3∧d.length=xs.length∧d.take k=(xs.take j).filter (fun x=>!p x)∧d.drop j=xs.drop j) _
  ⟨i,i + 1,xs,rfl,rfl,by omega,by omega,hat.keep k1 (by simp),k1.mono (by simp),rfl,hpre0,rfl⟩ ?_
 rintro next m ys M3 hnext ⟨k,j,d,rfl,rfl,hj,hkj,h3',k3,hds,hpre,hold⟩
 simp only[aK,eP]
 have YL:∀ K:AV→Prop,bI (AV.slc b 0 xs.length (.op eB.size)) K=K (N .i64 (xs.length:Int)):=fun K=>by simp[Kk]
 rw[YL,lU]
 have e5:eB.size=1:=rfl
 rw[e5] at *
 refine aZ (fun hlt2=>?_) (fun Zh=>?_)
 ·have hlt2:j<xs.length:=of_decide_eq_true hlt2
  have hdj:d[j]?=some xs[j]:=by
   have:=congrArg (·[0]?) hold
   simpa [hlt2] using this
  have X7:d[j]'(by omega)=xs[j]:=by rw[List.getElem?_eq_getElem (by omega)] at hdj; exact Option.some.inj hdj
  refine fK (fun zs M'=>∃ (k' : Nat) (d' : List Str),zs=[N .i64 (k' : Int)]∧k'<j + 1∧Rw eB M' b true T d'∧aa [b] M M'∧d'.length=xs.length∧d'.take k'=(xs.take (j + 1)).filter (fun x=>!p x)∧d'.drop (j + 1)=xs.drop (j + 1)) ?_ ?_
  ·rintro zs M' ⟨k',d',rfl,c1,c2,c3,c4,c5,c6⟩
   simp only[aK]
   rw[nP (by omega)]
   exact hnext _ _ _ (by omega) ⟨k',j + 1,d',rfl,rfl,by omega,c1,c2,c3,c4,c5,c6⟩
  intro J hJ
  rw[← hds,Sd (by omega),iX]
  refine⟨St xs[j],h3'.ag (i:=j) (by omega) rfl (by rw[X7]; rfl), ?_⟩
  have hP3:P M3:=hPk M M3 [b] hP k3 (by simp[ak])
  refine hp hP3 (hxl _ (List.getElem_mem _)) fun M5 k5=>?_
  have kk5:aa [b] M M5:=k3.trans (k5.mono (cs:=[b]) (by simp))
  have VU:=h3'.keep k5 (by simp)
  have V9:(xs.take (j + 1)).filter (fun x=>!p x)=if p xs[j] then(xs.take j).filter (fun x=>!p x) else(xs.take j).filter (fun x=>!p x)++[xs[j]]:=by
   rw[List.take_succ_eq_append_getElem hlt2,List.filter_append]
   by_cases hpj:p xs[j]=true <;> simp[hpj]
  have SY:d.drop (j + 1)=xs.drop (j + 1):=by
   have:=congrArg (List.drop 1) hold
   simpa [Nat.add_comm] using this
  rw[iy]
  refine aZ (fun hn=>?_) (fun hn=>?_)
  ·have hpj:p xs[j]=false:=by simpa using hn
   obtain⟨st1,st2⟩:=VU.PW (i:=k) (by omega) xs[j] rfl (u:=St xs[j]) rfl
   rw[Sd (by omega)]
   refine⟨b,k,_,rfl,rfl,st1, ?_⟩
   dsimp only
   rw[nP (by omega)]
   have k6:aa [b] M5 (M5.put b (.row (eB.row (d.set k xs[j])) true T 0)):=(aa.refl _ _).put _ (.inr (by simp))
   refine hJ _ _ ⟨k + 1,_,rfl,by omega,st2,kk5.trans k6,by simpa using hds, ?_, ?_⟩
   ·rw[V9,hpj,← hpre,List.take_succ_eq_append_getElem (by rw[List.length_set]; omega),List.getElem_set_self,List.take_set_of_le (Nat.le_refl _)]
    rfl
   ·rw[List.drop_set_of_lt (by omega)]; exact SY
  ·have hpj:p xs[j]=true:=by simpa using hn
   exact hJ _ _ ⟨k,d,rfl,by omega,VU,kk5,hds,by rw[V9,hpj]; exact hpre,SY⟩
 ·have hj2:j=xs.length:=by
   have:¬ j<xs.length:=of_decide_eq_false Zh
   omega
  subst hj2
  rw[List.take_length] at hpre
  have hrl:(eB.row d).length=xs.length:=by rw[Enc.gP,hds]; exact Nat.mul_one _
  have hrp:(fB [(St [])] (xs.length - k)).length=xs.length - k∧(fB [(St [])] (xs.length - k)).all oneCell=true:=by
   generalize xs.length - k=q
   induction q with
   | zero=>exact⟨rfl,rfl⟩
   | succ q ih=>rw[fB]; simp only[List.singleton_append,List.length_cons,ih.1,List.all_cons,ih.2]; exact⟨trivial,rfl⟩
  have hst:M3.stores b (0 + k * 1) (fB [(St [])] (xs.length - k))=some (M3.put b (.row ((eB.row d).take (0 + k * 1)++fB [(St [])] (xs.length - k)++(eB.row d).drop (0 + k * 1 + (fB [(St [])] (xs.length - k)).length)) true T 0)):=by
   refine RM.Gb h3'.heap ?_ (Nat.zero_le _) hrp.2
   rw[hrp.1,hrl]; omega
  rw[KW (by omega),nE]
  refine .inl ⟨_,_,_,_,_,rfl,hst, ?_⟩
  dsimp only
  rw[Rf (show k≤xs.length by omega) (by omega),nE]
  have hlk:(xs.filter fun x=>!p x).length=k:=by rw[← hpre,List.length_take]; omega
  refine hQ _ _ ?_ (fun e he=>by simpa [ak] using he) ?_
  ·have hrow:((eB.row d).take (0 + k * 1))=eB.row (xs.filter fun x=>!p x):=by
    rw[← hpre,show 0 + k * 1=k * eB.size by show 0 + k * 1=k * 1; omega,Enc.sN]
   show aO _ 1 (.slc b 0 k (.op 1)) (eB.row (xs.filter fun x=>!p x)) (xs.filter fun x=>!p x).length
   rw[hlk]
   refine .slc _ _ _ _ _ h3'.lt ?_
   have hl:(eB.row (xs.filter fun x=>!p x)).length=k * 1:=by rw[Enc.gP,hlk]; rfl
   rw[RM.iW (aF _) (by rw[hrow]; simp[hl]),List.drop_zero,hrow,List.append_assoc,List.take_left' hl]
  ·have:aa [b] M3 (M3.put b (.row ((eB.row d).take (0 + k * 1)++fB [(St [])] (xs.length - k)++(eB.row d).drop (0 + k * 1 + (fB [(St [])] (xs.length - k)).length)) true T 0)):=(aa.refl _ _).put _ (.inr (by simp))
   simpa [ak] using k3.trans this
def gp (p:Str→Bool) (acc:List Str) (n:Str) : List Str:=if p n && !decide (n∈acc) then acc++[n] else acc
def iK (p:Str→Bool) (l:List Str) : List Str:=l.foldl (gp p) []
theorem DZ {p:Str→Bool} : ∀ {l acc:List Str},(l.foldl (gp p) acc).length≤acc.length + l.length
 | [],acc=>by simp
 | x :: l,acc=>by
   have:=DZ (p:=p) (l:=l) (acc:=gp p acc x)
   have h2:(gp p acc x).length≤acc.length + 1:=by unfold gp; split <;> simp
   simp only[List.foldl_cons,List.length_cons]; omega
theorem Ko {p:Str→Bool} : ∀ {l acc:List Str},∀ x∈l.foldl (gp p) acc,x∈acc∨x∈l
 | [],acc,x,h=>.inl h
 | y :: l,acc,x,h=>by
   rcases Ko (l:=l) (acc:=gp p acc y) x h with h | h
   ·unfold gp at h
    split at h
    ·rcases List.mem_append.1 h with h | h
     ·exact .inl h
     ·simp at h; exact .inr (by simp[h])
    ·exact .inl h
   ·exact .inr (List.mem_cons_of_mem _ h)
def isNil (f:Str→Option Str) (s:Str) : Bool:=!(f s).isSome
def ES (TSt T:Nat) (c:au) : Prop:=∀ {M:RM} {sb n:Nat} {f:Str→Option Str} {W:Nat→Prop} {v:AV} {l:List Str} {Q:ah},lQ TSt M sb f W n→Sl eB M v l→l.length≤10000000 →
 (∀ v' M',aa [] M M'→Ow eB M' M.next T v' (iK (isNil f) l)→Q v' M')→c [.ptr sb 0,v] M Q
theorem NW {TSt T:Nat} {ch cc:au} (hh:Kn TSt ch) (hc:JD cc) : ES TSt T fun args M Q=>∃ a0 a1,args=[a0,a1]∧kw ch cc T a0 a1 M Q:=by
 intro M sb n f W v l Q hst hs hl hQ
 refine⟨_,_,rfl, ?_⟩
 unfold kw
 simp only[rD,Sha.fF]
 rw[aO.len hs]
 refine aT (fun m ys M3=>∃ (i:Nat) (ov:AV),m=l.length - i∧ys=[ov,N .i64 (i:Int)]∧i≤l.length∧aa [] M M3∧Ow eB M3 M.next T ov (iK (isNil f) (l.take i))) _ ⟨0,bK,rfl,rfl,Nat.zero_le _,aa.refl _ _,.nil⟩ ?_
 rintro next m ys M3 hnext ⟨i,ov,rfl,rfl,hi,k3,o3⟩
 simp only[aK,eP]
 rw[lU]
 refine aZ (fun hlt=>?_) (fun hge=>?_)
 ·have hlt:i<l.length:=of_decide_eq_true hlt
  have hstep:iK (isNil f) (l.take (i + 1))=gp (isNil f) (iK (isNil f) (l.take i)) l[i]:=by
   unfold iK
   rw[List.take_succ_eq_append_getElem hlt,List.foldl_append]; rfl
  have hll:(iK (isNil f) (l.take i)).length≤10000000:=by
   have:=DZ (p:=isNil f) (l:=l.take i) (acc:=[])
   rw[List.length_take] at this
   unfold iK; simp only[List.length_nil] at this; omega
  refine fK (fun zs M'=>∃ ov',zs=[ov']∧aa [] M M'∧Ow eB M' M.next T ov' (iK (isNil f) (l.take (i + 1)))) ?_ ?_
  ·rintro zs M' ⟨ov',rfl,c1,c2⟩
   simp only[aK]
   rw[nP (by omega)]
   exact hnext _ _ _ (by omega) ⟨i + 1,ov',rfl,rfl,hlt,c1,c2⟩
  intro J hJ
  refine tY (aO.keep hs k3 (by simp)) hlt ?_
  refine hh (hst.keep k3 (by simp)) ?_
  rw[iy]
  refine andM (p:=!decide (l[i]∈iK (isNil f) (l.take i))) (fun _ K hK=>?_) ?_
  ·refine hc (Own.lN o3) (by omega) ?_
   rw[iy]
   exact hK
  refine aZ (fun hb=>?_) (fun hb=>?_)
  ·rw[kF (x:=St l[i]) (size:=1) rfl rfl rfl,aV]
   have hn3:=k3.next
   refine iN (E:=eB) (a:=l[i]) o3 (by omega) (by decide) (by omega) (by omega) fun v5 M5 o5 k5 hn5 hv5=>?_
   refine hJ _ _ ⟨v5,rfl,aa.own k3 k5 (fun x hx=>(Own.blk o3 x hx).1), ?_⟩
   have hb' : (isNil f l[i] && !decide (l[i]∈iK (isNil f) (l.take i)))=true:=hb
   rw[hstep]
   unfold gp
   rw[if_pos hb']
   exact o5
  ·refine hJ _ _ ⟨ov,rfl,k3, ?_⟩
   have hb' : ¬ (isNil f l[i] && !decide (l[i]∈iK (isNil f) (l.take i)))=true:=by
    have:(isNil f l[i] && !decide (l[i]∈iK (isNil f) (l.take i)))=false:=hb
    rw[this]; decide
   rw[hstep]
   unfold gp
   rw[if_neg hb']
   exact o3
 ·have:i=l.length:=by
   have:¬ i<l.length:=of_decide_eq_false hge
   omega
  subst this
  rw[List.take_length] at o3
  exact hQ ov M3 k3 o3
structure ML (n0:Nat) (M:RM) (v:AV) (l:List Str) : Prop where
 sl:Sl eB M v l
 new:∀ x∈ak v,n0≤x
theorem ML.own {n0 T:Nat} {M:RM} {v:AV} {l:List Str} (h:Ow eB M n0 T v l) : ML n0 M v l:=⟨Own.lN h,fun x hx=>(Own.blk h x hx).1⟩
def xO (f:Str→Option Str) (s:Str) : List Str:=match f s with
 | none=>[s]
 | some m=>match oq m with
   | none=>[]
   | some (_,l)=>iK (isNil f) l
def Dw (TSt:Nat) (c:au) : Prop:=∀ {M:RM} {sb n:Nat} {f:Str→Option Str} {W:Nat→Prop} {s:Str} {Q:ah},lQ TSt M sb f W n→(∀ v' M',aa [] M M'→ML M.next M' v' (xO f s)→Q v' M')→c [.ptr sb 0,St s] M Q
theorem Dt {m:Str} {n:Nat} {l:List Str} (h:oq m=some (n,l)) : l.length=(n + 64 - 1) / 64∧n≤4096∧∀ x∈l,x.length=64:=by
 have hn:=(TY h).2
 unfold oq at h
 split at h
 ·cases h
 ·rename_i n' r h1
  split at h
  ·rename_i hl
   simp only[Option.some.injEq,Prod.mk.injEq] at h
   obtain⟨rfl,rfl⟩:=h
   have hl' : r.length=32 * ((n' + 64 - 1) / 64):=hl
   refine⟨by rw[List.length_map,iP]; unfold fO; omega,hn,fun x hx=>?_⟩
   obtain⟨y,hy,rfl⟩:=List.mem_map.1 hx
   obtain⟨k,hk,rfl⟩:=List.mem_map.1 hy
   have hk:=(nV (n:=32) (b:=r) (by decide)).1 (List.mem_range.1 hk)
   rw[yE,List.length_take,List.length_drop]
   omega
  ·cases h
theorem JO {TSt T:Nat} {cn cl:au} (hn:rX T cn) (hl:ES TSt T cl) : Dw TSt fun args M Q=>∃ a0 a1,args=[a0,a1]∧jE T cn cl a0 a1 M Q:=by
 rintro M sb n f W s Q hst hQ
 obtain⟨T',h,hT⟩:=id hst
 refine⟨_,_,rfl, ?_⟩
 unfold jE
 refine h.look (fun h0=>?_) fun v b h0 hb hbl hw=>?_
 ·simp only[fV,if_true]
  rw[dm,dQ,iy,Bool.not_false,jv,kF (x:=St s) (size:=1) rfl rfl rfl,aV]
  refine hQ _ _ ((aa.refl _ _).push _) ⟨?_,by simp[ak]⟩
  unfold xO; rw[h0]
  exact Sl.new (E:=eB) [s]
 ·simp only[fV,if_true]
  rw[dm,dQ,iy,Bool.not_true,iI]
  refine hn hb (by omega) (fun M1 k1 hx=>?_) (fun n' l lv M1 k1 hx o1=>?_)
  ·rw[dm,dQ,lH]
   refine hl (hst.keep k1 (by simp)) (v:=bK) (l:=[]) .nil (by simp) fun v' M2 k2 o2=>?_
   refine hQ v' M2 (k1.trans k2) ?_
   unfold xO; rw[h0]; simp only[hx]
   exact ML.own (Own.mono o2 k1.next)
  ·rw[dm,dQ,lH]
   have hle:=Dt hx
   refine hl (hst.keep k1 (by simp)) (Own.lN o1) (by rw[hle.1]; omega) fun v' M2 k2 o2=>?_
   refine hQ v' M2 (k1.trans k2) ?_
   unfold xO; rw[h0]; simp only[hx]
   exact ML.own (Own.mono o2 k1.next)
theorem Nr {T32:Nat} {cr:au} {cv:FuncId→au} {g:FuncId} (hg:∀ {s:AV} {M:RM} {Q:ah},jK cr T32 s M Q→cv g [s] M Q) (hr:J3 cr) : CE (fun _=>True) (fun x=>!fI x) (nU cv (.fn (.func g) [] [])):=by
 intro M x Q _ hx hQ
 rw[Ke]
 refine hg ?_
 unfold jK
 refine hr hx fun cs M1 k1 h1 h2=>?_
 rw[dm,dQ]
 refine eU (BY.row (List.replicate 32 0)) fun M2 k2 n2 e2=>?_
 rw[jT n2 h1 (by rw[fu,List.length_replicate]) h2,dH]
 have e:((if fI x then(0:Int) else 14) != 0)=!fI x:=by cases fI x <;> rfl
 rw[e]
 exact hQ _ (k1.trans (k2.new _ (Nat.le_refl _)))
def Nh (TSt:Nat) (c:au) : Prop:=∀ {M:RM} {sb n:Nat} {f:Str→Option Str} {W:Nat→Prop} {v:AV} {l:List Str} {Q:ah},lQ TSt M sb f W n→Sl eB M v l→l.length≤10000000→(∀ x∈l,x.length≤281474976710656) →
 (∀ v' M',aa [] M M'→ML M.next M' v' ((iK (isNil f) l).filter fI)→Q v' M')→c [.ptr sb 0,v] M Q
theorem Pz {TSt T:Nat} {cl cd:au} {g:FuncId} (hl:ES TSt T cl) (hd:Ef (fun _=>True) (fun x=>!fI x) (.fn (.func g) [] []) cd) : Nh TSt fun args M Q=>∃ a0 a1,args=[a0,a1]∧kM cl cd g a0 a1 M Q:=by
 intro M sb n f W v l Q hst hs hll hlx hQ
 refine⟨_,_,rfl, ?_⟩
 unfold kM
 refine hl hst hs hll fun v1 M1 k1 o1=>?_
 have h1:=DZ (p:=isNil f) (l:=l) (acc:=[])
 have h2:=Ko (p:=isNil f) (l:=l) (acc:=[])
 refine hd trivial (fun _ _ _ _ _ _=>trivial) o1 (by unfold iK; simp at h1; omega) (fun x hx=>hlx x ((h2 x hx).resolve_left (by simp))) fun v2 M2 s2 hb2 k2=>?_
 have e:(fun x=>!!fI x)=fI:=by funext x; simp
 rw[e] at s2
 exact hQ v2 M2 (aa.own k1 k2 (fun x hx=>(Own.blk o1 x hx).1)) ⟨s2,fun x hx=>(Own.blk o1 x (hb2 x hx)).1⟩
def lV (f:Str→Option Str) (c:Str) : Str:=(f c).getD []
def pO (f:Str→Option Str) (n:Nat) : Str→List Str→Str × Nat
 | acc,[]=>(acc,0)
 | acc,c :: l=>if (lV f c).length=min 64 (n - acc.length) then pO f n (acc++lV f c) l else([],14)
def kR (f:Str→Option Str) (s:Str) : Str × Nat:=match f s with
 | none=>([],4)
 | some m=>match oq m with
   | none=>([],14)
   | some (n,l)=>if l.any (isNil f) then([],4) else pO f n [] l
def EX (TSt:Nat) (c:au) : Prop:=∀ {M:RM} {sb n:Nat} {f:Str→Option Str} {W:Nat→Prop} {s:Str} {Q:ah},lQ TSt M sb f W n→(∀ v' M',aa [] M M'→Nw M.next M' v' (kR f s).1→Q (.tup [v',N .i64 ((kR f s).2:Int)]) M')→c [.ptr sb 0,St s] M Q
theorem EK {n0:Nat} {M:RM} : Nw n0 M bK []:=⟨⟨.nil,trivial⟩,by simp[ak]⟩
theorem LU {TSt TP sb n b2:Nat} {f:Str→Option Str} {W:Nat→Prop} {ch:au} {cv:FuncId→au} {g:FuncId} (hg:∀ {s t:AV} {M:RM} {Q:ah},jG ch s t M Q→cv g [s,t] M Q) (hh:Kn TSt ch) :
  CE (fun M=>lQ TSt M sb f W n∧M.heap b2=some (.row [.ptr sb 0] false TP 0)∧b2<M.next) (isNil f) (nU cv (.fn (.func g) [] [.ptr b2 0])):=by
 intro M x Q hP hx hQ
 obtain⟨h1,h2,h3⟩:=hP
 rw[Ke]
 refine hg ?_
 unfold jG
 rw[aG h2 rfl]
 refine hh h1 ?_
 rw[iy]
 exact hQ M (aa.refl _ _)
theorem O7 {TSt TP T T8:Nat} {cn cc:au} {g:FuncId} (hn:rX T cn) (hc:∀ {sb n b2:Nat} {f:Str→Option Str} {W:Nat→Prop},J4 (fun M=>lQ TSt M sb f W n∧M.heap b2=some (.row [.ptr sb 0] false TP 0)∧b2<M.next) (isNil f) (.fn (.func g) [] [.ptr b2 0]) cc) :
  EX TSt fun args M Q=>∃ a0 a1,args=[a0,a1]∧kE TP cn g cc T8 a0 a1 M Q:=by
 rintro M sb n f W s Q hst hQ
 refine⟨_,_,rfl, ?_⟩
 unfold kE
 refine⟨rfl,Nat.le_refl 1, ?_⟩
 dsimp only
 refine eU [.ptr sb 0] fun M1 k1 n1 e1=>?_
 have VQ:=hst.keep k1 (by simp)
 obtain⟨T',h,hT⟩:=id VQ
 have hn1:=k1.next
 rw[aG n1 rfl]
 refine h.look (fun h0=>?_) fun v b h0 hb hbl hw=>?_
 ·simp only[fV,if_true]
  rw[dm,dQ,iy,Bool.not_false,jv]
  have:=hQ bK M1 k1 (by unfold kR; rw[h0]; exact EK)
  unfold kR at this; rw[h0] at this; exact this
 ·simp only[fV,if_true]
  rw[dm,dQ,iy,Bool.not_true,iI]
  refine hn hb (by omega) (fun M2 k2 hx=>?_) (fun n' l lv M2 k2 hx o2=>?_)
  ·rw[dm,dQ,lH,dH,show((14:Int) != 0)=true by decide,jv]
   have:=hQ bK M2 (k1.trans k2) (by unfold kR; rw[h0]; simp only[hx]; exact EK)
   unfold kR at this; rw[h0] at this; simp only[hx] at this; exact this
  ·rw[dm,dQ,lH,dH,show((0:Int) != 0)=false by decide,iI]
   obtain⟨hll,hn4,Yk⟩:=Dt hx
   have hn2:=k2.next
   have m1:=k2.ay n1 (by omega) (by simp)
   have hls:=Own.lN o2
   refine hc (n:=n) (W:=W) ⟨VQ.keep k2 (by simp),m1,by omega⟩ (fun Ma Mb ⟨q1,q2,q3⟩ k=>⟨q1.keep k (by simp),k.ay q2 q3 (by simp),by have:=k.next; omega⟩) hls (by omega) (fun x hx=>by rw[Yk x hx]; decide) fun M3 k3=>?_
   have k13:=(k1.trans k2).trans k3
   have hn3:=k3.next
   have hPh:kR f s=if l.any (isNil f) then([],4) else pO f n' [] l:=by unfold kR; rw[h0]; simp only[hx]
   rw[hPh] at hQ
   refine aZ (fun hany=>?_) (fun hany=>?_)
   ·rw[if_pos hany] at hQ
    exact hQ bK M3 k13 EK
   rw[if_neg (by rw[hany]; decide)] at hQ
   have hsome:∀ x∈l,∃ b,f x=some b:=fun x hx=>by
    have:=List.any_eq_false.1 hany x hx
    unfold isNil at this
    cases hf:f x with
    | none=>rw[hf] at this; simp at this
    | some b=>exact⟨b,rfl⟩
   have Wj:=aO.keep hls k3 (by simp)
   rw[aO.len Wj]
   have p1:=k3.ay m1 (by omega) (by simp)
   refine aT (fun m ys M4=>∃ (i:Nat) (pv:AV) (acc:Str),m=l.length - i∧ys=[pv,N .i64 (i:Int)]∧i≤l.length∧aa [] M M4∧aa [] M3 M4∧Ow BY M4 M3.next T8 pv acc∧acc.length≤n'∧pO f n' acc (l.drop i)=pO f n' [] l) _ ⟨0,bK,[],rfl,rfl,Nat.zero_le _,k13,aa.refl _ _,.nil,Nat.zero_le _,rfl⟩ ?_
   rintro next m ys M4 hnext ⟨i,pv,acc,rfl,rfl,hi,k4,k34,o4,hacc,hj⟩
   simp only[aK,eP]
   rw[lU]
   have XY:=k34.next
   refine aZ (fun hlt=>?_) (fun hge=>?_)
   ·have hlt:i<l.length:=of_decide_eq_true hlt
    refine tY (aO.keep Wj k34 (by simp)) hlt ?_
    rw[aG (k34.ay p1 (by omega) (by simp)) rfl]
    obtain⟨b1,hb1⟩:=hsome _ (List.getElem_mem hlt)
    obtain⟨T4,h4,hT4⟩:=hst.keep k4 (by simp)
    rw[List.drop_eq_getElem_cons hlt,pO] at hj
    have hval:lV f l[i]=b1:=by unfold lV; rw[hb1]; rfl
    rw[hval] at hj
    refine h4.look (fun h00=>by rw[hb1] at h00; cases h00) fun w b2 h00 hb2 hbl2 hw2=>?_
    rw[hb1] at h00; cases h00
    simp only[fV,if_true]
    have:∀ {K:AV→Prop},(bI w fun t51=>bI pv fun t54=>af .sub (N .i64 (n' : Int)) t54 fun t55=>Eg false (N .i64 64) t55 fun t56=>af .neq t51 t56 K)=K (Bo (!decide (b1.length=min 64 (n' - acc.length)))):=by
     intro K
     rw[hb2.len,aO.len (Own.lN o4),NM (by omega) (by omega)]
     apply propext
     have hm:(if ((n' - acc.length:Nat) : Int)<(64:Int) then((n' - acc.length:Nat) : Int) else(64:Int))=((min 64 (n' - acc.length) : Nat) : Int):=MK 64 (n' - acc.length)
     have hne:(((b1.length:Nat) : Int) != ((min 64 (n' - acc.length) : Nat) : Int))=!decide (b1.length=min 64 (n' - acc.length)):=by
      rw[bne,Bool.not_inj_iff,Bool.eq_iff_iff,beq_iff_eq,decide_eq_true_iff]; omega
     constructor
     ·rintro⟨k,a,b,e1,e2,hK⟩
      cases e1; cases e2
      simp only[Bool.false_eq_true,if_false] at hK
      rw[hm,dH,hne] at hK; exact hK
     ·intro hK
      refine⟨_,_,_,rfl,rfl, ?_⟩
      simp only[Bool.false_eq_true,if_false]
      rw[hm,dH,hne]; exact hK
    rw[this]
    refine aZ (fun hbad=>?_) (fun hgood=>?_)
    ·have hbad:¬ b1.length=min 64 (n' - acc.length):=by simpa using hbad
     rw[if_neg hbad] at hj
     rw[← hj] at hQ
     exact hQ bK M4 k4 EK
    ·have hgood:b1.length=min 64 (n' - acc.length):=by simpa using hgood
     rw[if_pos hgood] at hj
     refine pE (E:=BY) o4 XY (by decide) hb2.sl (by omega) (by omega) fun v5 M5 o5 k5 hn5 hv5=>?_
     rw[nP (by omega)]
     have hbk:∀ x∈ak pv,M3.next≤x:=fun x hx=>(Own.blk o4 x hx).1
     have hnM:=k13.next
     refine hnext _ _ _ (by omega) ⟨i + 1,v5,acc++b1,rfl,rfl,hlt,k4.eX k5 (fun x hx=>.inl (by have:=hbk x hx; omega)),k34.eX k5 (fun x hx=>.inl (hbk x hx)),o5,by rw[List.length_append]; omega,hj⟩
   ·have:i=l.length:=by
     have:¬ i<l.length:=of_decide_eq_false hge
     omega
    subst this
    rw[List.drop_length,pO] at hj
    rw[← hj] at hQ
    have hnM:=k13.next
    exact hQ pv M4 k4 ⟨Bs.own o4,fun x hx=>by have:=(Own.blk o4 x hx).1; omega⟩
def KM (M:RM) (m:Nat) (kp:Str→Bool) : Prop:=∃ (L:List dX) (cl:Nat),M.heap m=some (.map (L.map ed) cl)∧(L.map (·.1)).Nodup∧(∀ t∈L,t.2.1=Bo (kp t.1))∧∀ s,kp s=true→∃ t∈L,t.1=s
def rY (kp:Str→Bool) (s:Str) (b:Bool) : Str→Bool:=fun x=>if x=s then b else kp x
theorem KM.keep {M M' : RM} {m:Nat} {kp:Str→Bool} {ks:List Nat} (h:KM M m kp) (hm:m<M.next) (k:aa ks M M') (hk:m ∉ ks) : KM M' m kp:=by
 obtain⟨L,cl,h1,h2⟩:=h
 exact⟨L,cl,k.ay h1 hm hk,h2⟩
theorem KM.look {M:RM} {m:Nat} {kp:Str→Bool} {s:Str} {K:AV→Prop} (h:KM M m kp) (hK:K (Bo (kp s))) : gL false [2] (Bo false) false M (.map m) (St s) K:=by
 obtain⟨L,cl,h1,h2,h3,h4⟩:=h
 rcases rG s L 0 with⟨a1,a2⟩ | ⟨j,t,a1,a2,a3⟩
 ·refine⟨m,_,cl,[St s],none,rfl,h1,rfl,rfl,a2, ?_⟩
  have:kp s=false:=by
   cases hk:kp s with
   | false=>rfl
   | true=>obtain⟨t,ht,e⟩:=h4 s hk; exact absurd e (a1 t ht)
  rw[this] at hK; exact hK
 ·refine⟨m,_,cl,[St s],_,rfl,h1,rfl,rfl,a3, ?_⟩
  show K t.2.1
  rw[h3 t (List.mem_of_getElem? a1),a2]; exact hK
theorem PZ {s:Str} {v:AV} : ∀ {L:List dX} {j:Nat} {t:dX},L[j]?=some t→Az (St s) v (L.map ed) j=(L.set j (s,v,t.2.2)).map ed
 | t :: L,0,t',h=>by simp at h; subst h; rfl
 | x :: L,j + 1,t,h=>by
   simp only[List.map_cons,List.set_cons_succ,Az]
   rw[PZ (by simpa using h)]
theorem KM.upd {M:RM} {m:Nat} {kp:Str→Bool} {s:Str} {b:Bool} {K:RM→Prop} (h:KM M m kp) (hK:∀ M',KM M' m (rY kp s b)→aa [m] M M'→M'.next=M.next→K M') : lu false [2] M (.map m) (St s) (Bo b) K:=by
 obtain⟨L,cl,h1,h2,h3,h4⟩:=h
 have hk:∀ X,aa [m] M (M.put m X):=fun X=>(aa.refl _ _).put _ (.inr (by simp))
 rcases rG s L 0 with⟨a1,a2⟩ | ⟨j,t,a1,a2,a3⟩
 ·refine⟨m,_,cl,[St s],none,rfl,h1,rfl,rfl,a2,hK _ ⟨L++[(s,Bo b,cl)],cl + 1, ?_, ?_, ?_, ?_⟩ (hk _) rfl⟩
  ·rw[aF]; simp[wV,ed]
  ·rw[List.map_append,List.nodup_append]
   refine⟨h2,by simp, ?_⟩
   intro a ha c hc e
   obtain⟨t,ht,rfl⟩:=List.mem_map.1 ha
   simp at hc
   exact a1 t ht (by rw[e,hc])
  ·intro t ht
   rcases List.mem_append.1 ht with ht | ht
   ·rw[h3 t ht]; unfold rY; rw[if_neg (a1 t ht)]
   ·simp at ht; subst ht; unfold rY; rw[if_pos rfl]
  ·intro x hx
   unfold rY at hx
   by_cases e:x=s
   ·exact⟨_,List.mem_append_right _ (List.mem_singleton.2 rfl),e.symm⟩
   ·rw[if_neg e] at hx
    obtain⟨t,ht,e⟩:=h4 x hx
    exact⟨t,List.mem_append_left _ ht,e⟩
 ·have hj:j<L.length:=(List.getElem?_eq_some_iff.1 a1).1
  have hjt:L[j]=t:=(List.getElem?_eq_some_iff.1 a1).2
  refine⟨m,_,cl,[St s],_,rfl,h1,rfl,rfl,a3,hK _ ⟨L.set j (s,Bo b,t.2.2),cl, ?_, ?_, ?_, ?_⟩ (hk _) rfl⟩
  ·rw[aF]; simp only[wV,Nat.zero_add]; rw[PZ a1]
  ·have:(L.set j (s,Bo b,t.2.2)).map (·.1)=L.map (·.1):=by
    rw[List.map_set]
    apply List.ext_getElem?
    intro i
    rw[List.getElem?_set]
    split
    ·rename_i e; subst e; simp[hj,hjt,a2]
    ·rfl
   rw[this]; exact h2
  ·intro x hx
   obtain⟨i,hi,rfl⟩:=List.getElem_of_mem hx
   rw[List.length_set] at hi
   rw[List.getElem_set]
   split
   ·unfold rY; simp
   ·rename_i hne
    unfold rY
    have hne2:L[i].1≠s:=by
     intro e
     have e2:(L.map (·.1))[i]'(by simpa using hi)=(L.map (·.1))[j]'(by simpa using hj):=by simp[e,hjt,a2]
     have:=(List.getElem_inj h2).1 e2
     omega
    rw[if_neg hne2]
    exact h3 _ (List.getElem_mem hi)
  ·intro x hx
   unfold rY at hx
   by_cases e:x=s
   ·exact⟨_,List.mem_set hj _,e.symm⟩
   ·rw[if_neg e] at hx
    obtain⟨y,hy,e2⟩:=h4 x hx
    obtain⟨i,hi,rfl⟩:=List.getElem_of_mem hy
    refine⟨L[i], ?_,e2⟩
    have hne:j≠i:=fun e3=>by subst e3; exact e (by rw[← e2,hjt,a2])
    have:(L.set j (s,Bo b,t.2.2))[i]'(by rw[List.length_set]; exact hi)=L[i]:=by rw[List.getElem_set,if_neg hne]
    rw[← this]; exact List.getElem_mem _
def SB (m:Str) : List Str:=match oq m with
 | none=>[]
 | some (_,l)=>l
def Ou (m:Str) : Bool:=(oq m).isSome
def IW (f:Str→Option Str) (kp:Str→Bool) (p:Str) : Str→Bool:=(SB (lV f p)).foldl (fun k c=>rY k c true) (rY kp p (kp p || Ou (lV f p)))
def kJ (f:Str→Option Str) (l:List Str) : Str→Bool:=l.foldl (IW f) (fun _=>false)
theorem Iu:∀ {T:List dX} {j:Nat},(T.map ed).eraseIdx j=(T.eraseIdx j).map ed
 | [],j=>rfl
 | x :: T,0=>rfl
 | x :: T,j + 1=>by rw[List.map_cons,List.eraseIdx_cons_succ,List.eraseIdx_cons_succ,List.map_cons,Iu]
theorem erase_filter:∀ {T:List dX} {j:Nat} {t:dX},(T.map (·.1)).Nodup→T[j]?=some t→T.eraseIdx j=T.filter fun x=>decide (x.1≠t.1)
 | x :: T,0,t,hn,h=>by
   simp at h; subst h
   rw[List.map_cons,List.nodup_cons] at hn
   rw[List.eraseIdx_cons_zero,List.filter_cons]
   simp only[ne_eq,not_true_eq_false,decide_false,Bool.false_eq_true,if_false]
   exact(List.filter_eq_self.2 fun y hy=>by rw[decide_eq_true_eq]; exact fun e=>hn.1 (by rw[← e]; exact List.mem_map_of_mem hy)).symm
 | x :: T,j + 1,t,hn,h=>by
   rw[List.map_cons,List.nodup_cons] at hn
   have ht:t∈T:=List.mem_of_getElem? (by simpa using h)
   have hne:x.1≠t.1:=fun e=>hn.1 (by rw[e]; exact List.mem_map_of_mem ht)
   rw[List.eraseIdx_cons_succ,List.filter_cons,if_pos (decide_eq_true hne),erase_filter hn.2 (by simpa using h)]
def Ot (TSt:Nat) (c:au) : Prop:=∀ {M:RM} {sb:Nat} {T:List dX} {f:Str→Option Str} {W:Nat→Prop} {v:AV} {l:List Str} {Q:ah},nJ TSt M sb T f W→T.length≤1000000→Sl eB M v l→l.length≤1000000 →
 (∀ M' ks,nJ TSt M' sb (T.filter fun t=>kJ f l t.1) (fun s=>if kJ f l s then f s else none) W→aa ks M M'→(∀ x∈ks,W x)→Q (N .i64 ((T.length - (T.filter fun t=>kJ f l t.1).length:Nat) : Int)) M')→c [.ptr sb 0,v] M Q
theorem Qa {TSt TN:Nat} {cn:au} (hn:rX TN cn) : Ot TSt fun args M Q=>∃ a0 a1,args=[a0,a1]∧lm cn a0 a1 M Q:=by
 intro M sb T f W v l Q h hT hs hl hQ
 refine⟨_,_,rfl, ?_⟩
 unfold lm
 simp only[rD]
 rw[aV]
 have k1:aa [] M (M.push (.map [] 0)):=(aa.refl _ _).push _
 have n1:(M.push (.map [] 0)).heap M.next=some (.map [] 0):=RM.bN _
 have x1:(M.push (.map [] 0)).next=M.next + 1:=rfl
 generalize M.push (.map [] 0)=M1 at *
 have km1:KM M1 M.next (fun _=>false):=⟨[],0,n1,.nil,by simp,by simp⟩
 rw[aO.len hs]
 refine aT (fun m ys M3=>∃ i:Nat,m=l.length - i∧ys=[N .i64 (i:Int)]∧i≤l.length∧aa [] M M3∧M.next<M3.next∧KM M3 M.next (kJ f (l.take i))) _ ⟨0,rfl,rfl,Nat.zero_le _,k1,by omega,km1⟩ ?_
 rintro next m ys M3 hnext ⟨i,rfl,rfl,hi,k3,hn3,km3⟩
 simp only[aK]
 rw[lU]
 refine aZ (fun hlt=>?_) (fun hge=>?_)
 ·have hlt:i<l.length:=of_decide_eq_true hlt
  have hstep:kJ f (l.take (i + 1))=IW f (kJ f (l.take i)) l[i]:=by
   unfold kJ
   rw[List.take_succ_eq_append_getElem hlt,List.foldl_append]; rfl
  refine tY (aO.keep hs k3 (by simp)) hlt ?_
  have h3:=h.keep k3 (by simp)
  have go:∀ w,Bs M3 w (lV f l[i])→(lV f l[i]).length≤1000000→cn [w] M3 fun t29 M_1=>bA t29 0 fun t30=>bA t29 1 fun t31=>bA t29 2 fun t32=>gL false [2] (Bo false) false M_1 (.map M.next) (St l[i]) fun t37 =>
    az t37 false (fun k=>af .eql t32 (N .i64 0) fun t40=>k t40 M_1) (fun k=>k .undef M_1) fun WW M_5=>bn t37 (Bo true) WW fun t41=>lu false [2] M_5 (.map M.next) (St l[i]) t41 fun M_6=>bI t31 fun t43 =>
    bE (fun JH Eb M_9=>af .lss (aj Eb 0) t43 fun t45=>aC t45 (bf t31 (aj Eb 0) 1 fun t46=>ag M_9 t46 fun t47=>lu false [2] M_9 (.map M.next) t47 (Bo true) fun Sg=>af .add (aj Eb 0) (N .i64 1) fun t50=>JH [t50] Sg) (af .add (N .i64 (i:Int)) (N .i64 1) fun t51=>next [t51] M_9)) [(N .i64 0)] M_6:=by
   intro w hw hwl
   have inner:∀ (lv:AV) (ls:List Str) (kp:Str→Bool) (M4:RM),Sl eB M4 lv ls→ls.length≤10000→(∀ x∈ak lv,x≠M.next)→aa [] M M4→M.next<M4.next→KM M4 M.next kp→ls.foldl (fun k c=>rY k c true) kp=kJ f (l.take (i + 1)) →
     (bI lv fun t43=>bE (fun JH Eb M_9=>af .lss (aj Eb 0) t43 fun t45=>aC t45 (bf lv (aj Eb 0) 1 fun t46=>ag M_9 t46 fun t47=>lu false [2] M_9 (.map M.next) t47 (Bo true) fun Sg=>af .add (aj Eb 0) (N .i64 1) fun t50=>JH [t50] Sg) (af .add (N .i64 (i:Int)) (N .i64 1) fun t51=>next [t51] M_9)) [(N .i64 0)] M4):=by
    intro lv ls kp M4 hls hll hbl k4 hn4 km4 hfin
    rw[aO.len hls]
    refine aT (fun m ys M5=>∃ j:Nat,m=ls.length - j∧ys=[N .i64 (j:Int)]∧j≤ls.length∧aa [] M M5∧M.next<M5.next∧KM M5 M.next ((ls.take j).foldl (fun k c=>rY k c true) kp)∧Sl eB M5 lv ls) _ ⟨0,rfl,rfl,Nat.zero_le _,k4,hn4,km4,hls⟩ ?_
    rintro next' m' ys' M5 Wm ⟨j,rfl,rfl,hj,k5,hn5,km5,UY⟩
    simp only[aK]
    rw[lU]
    refine aZ (fun hlt=>?_) (fun hge=>?_)
    ·have hlt:j<ls.length:=of_decide_eq_true hlt
     refine tY UY hlt ?_
     refine km5.upd fun M6 km6 k6 e6=>?_
     rw[nP (by omega)]
     refine Wm _ _ _ (by omega) ⟨j + 1,rfl,rfl,hlt,k5.eX k6 (by simp),by omega, ?_,aO.keep UY k6 (fun x hx hm=>by simp at hm; exact hbl x hx hm)⟩
     rw[List.take_succ_eq_append_getElem hlt,List.foldl_append]; exact km6
    ·have:j=ls.length:=by
      have:¬ j<ls.length:=of_decide_eq_false hge
      omega
     subst this
     rw[List.take_length,hfin] at km5
     rw[nP (by omega)]
     exact hnext _ _ _ (by omega) ⟨i + 1,rfl,rfl,hlt,k5,hn5,km5⟩
   have UU:∀ {c p:Bool} {M:RM} {x:Int} {G:AV→RM→Prop},(decide (x=0))=p→G (Bo (c || p)) M→az (Bo c) false (fun k=>af .eql (N .i64 x) (N .i64 0) fun t40=>k t40 M) (fun k=>k .undef M) (fun t M'=>bn (Bo c) (Bo true) t fun u=>G u M'):=by
    intro c p M x G hx hG
    refine YQ (p:=p) (fun _ K hK=>?_) hG
    rw[bM,show(x == 0)=p by rw[← hx,Bool.eq_iff_iff,beq_iff_eq,decide_eq_true_iff]]
    exact hK
   refine hn hw (by omega) (fun M4 k4 hx=>?_) (fun n' ls lv M4 k4 hx o4=>?_)
   ·rw[dm,dQ,lH]
    have hn4:=k4.next
    have km4:=km3.keep (by omega) k4 (by simp)
    refine km4.look ?_
    refine UU (p:=false) (by decide) ?_
    refine km4.upd fun M5 km5 k5 e5=>?_
    refine inner bK [] _ M5 .nil (by simp) (by simp[ak]) ((k3.trans k4).eX k5 (by simp)) (by omega) km5 ?_
    rw[hstep]
    unfold IW SB Ou
    rw[hx]; rfl
   ·rw[dm,dQ,lH]
    have hn4:=k4.next
    have km4:=km3.keep (by omega) k4 (by simp)
    have hle:=Dt hx
    refine km4.look ?_
    refine UU (p:=true) (by decide) ?_
    refine km4.upd fun M5 km5 k5 e5=>?_
    have hbl:∀ x∈ak lv,x≠M.next:=fun x hx=>by have:=(Own.blk o4 x hx).1; omega
    refine inner lv ls _ M5 (aO.keep (Own.lN o4) k5 (fun x hx hm=>by simp at hm; exact hbl x hx hm)) (by omega) hbl ((k3.trans k4).eX k5 (by simp)) (by omega) km5 ?_
    rw[hstep]
    unfold IW SB Ou
    rw[hx]; rfl
  refine h3.look (fun h0=>?_) fun w b h0 hb hbl hw=>?_
  ·have e:lV f l[i]=[]:=by unfold lV; rw[h0]; rfl
   exact go bK (by rw[e]; exact⟨.nil,trivial⟩) (by rw[e]; simp)
  ·have e:lV f l[i]=b:=by unfold lV; rw[h0]; rfl
   exact go w (by rw[e]; exact hb) (by rw[e]; exact hbl)
 ·have:i=l.length:=by
   have:¬ i<l.length:=of_decide_eq_false hge
   omega
  subst this
  rw[List.take_length] at km3
  have h3:=h.keep k3 (by simp)
  obtain⟨mb,cl,g1,g2,g3,g4,g5,g6⟩:=h3.map
  have Np:mb<M.next:=h.lt _ g1
  have hslt:sb<M.next:=h.lt _ h.own
  rw[bC,iE,Nat.zero_add,aG g3 rfl]
  refine⟨mb,_,cl,rfl,g4, ?_⟩
  have k4:aa [] M3 (M3.push (.iter (some mb) cl [] cl)):=(aa.refl _ _).push _
  have n4:(M3.push (.iter (some mb) cl [] cl)).heap M3.next=some (.iter (some mb) cl [] cl):=RM.bN _
  have x4:(M3.push (.iter (some mb) cl [] cl)).next=M3.next + 1:=rfl
  generalize M3.push (.iter (some mb) cl [] cl)=M4 at *
  obtain⟨kp,hkp⟩ : ∃ kp,kJ f l=kp:=⟨_,rfl⟩
  rw[hkp] at hQ km3
  have hf0:(T.filter fun t=>decide (t.2.2 ∉ ([] : List Nat)) || kp t.1)=T:=List.filter_eq_self.2 fun t _=>by simp
  refine aT (fun z ys M'=>∃ seen:List Nat,z=jl seen T∧ys=[N .i64 ((T.length - (T.filter fun t=>decide (t.2.2 ∉ seen) || kp t.1).length:Nat) : Int)]∧aa [mb] M M'∧M3.next<M'.next∧M'.heap M3.next=some (.iter (some mb) cl seen cl) ∧
   M'.heap mb=some (.map ((T.filter fun t=>decide (t.2.2 ∉ seen) || kp t.1).map ed) cl)∧M'.heap sb=some (.row [.map mb] false TSt 0)∧KM M' M.next kp) (jl [] T)
   ⟨[],rfl,by rw[hf0,Nat.sub_self]; rfl,(k3.trans k4).mono (by simp),by omega,n4,by rw[hf0]; exact k4.ay g4 (by omega) (by simp),k4.ay g3 (by omega) (by simp),km3.keep (by omega) k4 (by simp)⟩ ?_
  rintro next z ys M' hnext ⟨seen,rfl,rfl,q1,q2,q3,q4,q5,q6⟩
  simp only[aK]
  have wfP:=g5.filter (fun t=>decide (t.2.2 ∉ seen) || kp t.1)
  refine⟨M3.next,mb,cl,seen,cl,_,cl,rfl,q3,q4, ?_,fun e he hs'=>?_,fun ha=>?_⟩
  ·generalize hTP:(T.filter fun t=>decide (t.2.2 ∉ seen) || kp t.1)=TP at *
   cases TP with
   | nil=>exact .inr (.inl rfl)
   | cons t TP=>exact .inr (.inr ⟨ed t,by simp,wfP.lt t (List.mem_cons_self ..)⟩)
  ·obtain⟨t,ht,rfl⟩:=List.mem_map.1 he
   have htT:t∈T:=(List.mem_filter.1 ht).1
   obtain⟨r3,_,_⟩:=oL (g:=fun _=>0) (seen:=seen) wfP.up t ht hs'
   obtain⟨_,_,r7⟩:=oL (g:=fun _=>0) (seen:=seen) g5.up t htT hs'
   rw[dm,jv]
   have k5:aa [mb] M (M'.put M3.next (.iter (some mb) cl (seen++[(ed t).2.2]) cl)):=q1.put _ (.inl (by have:=k3.next; omega))
   have kk5:aa [M3.next] M' (M'.put M3.next (.iter (some mb) cl (seen++[(ed t).2.2]) cl)):=(aa.refl _ _).put _ (.inr (by simp))
   have hn3':=k3.next
   have hnM:=q1.next
   have s3:(M'.put M3.next (.iter (some mb) cl (seen++[(ed t).2.2]) cl)).heap M3.next=some (.iter (some mb) cl (seen++[(ed t).2.2]) cl):=aF _
   have s4:=kk5.ay q4 (by omega) (by simp; omega)
   have s5:=kk5.ay q5 (by omega) (by simp; omega)
   have s6:=q6.keep (by omega) kk5 (by simp; omega)
   have e5:(M'.put M3.next (.iter (some mb) cl (seen++[(ed t).2.2]) cl)).next=M'.next:=rfl
   generalize M'.put M3.next (.iter (some mb) cl (seen++[(ed t).2.2]) cl)=M5 at *
   refine⟨M3.next,mb,cl,seen,_,cl,_,_,rfl,s3,s4,r3, ?_⟩
   dsimp only
   rw[dm,show(ed t).1=St t.1 from rfl]
   refine s6.look ?_
   rw[iy]
   have other:∀ x∈T,x.1≠t.1→(decide (x.2.2 ∉ seen++[t.2.2]) || kp x.1)=(decide (x.2.2 ∉ seen) || kp x.1):=by
    intro x hx hne
    have:x.2.2≠t.2.2:=fun e=>by
     obtain⟨i,hi,rfl⟩:=List.getElem_of_mem hx
     obtain⟨j,hj,rfl⟩:=List.getElem_of_mem htT
     have hp:=List.pairwise_iff_getElem.1 g5.up
     rcases Nat.lt_trichotomy i j with hij | hij | hij
     ·have:=hp i j hi hj hij; omega
     ·subst hij; exact hne rfl
     ·have:=hp j i hj hi hij; omega
    have e:(x.2.2 ∉ seen++[t.2.2])=(x.2.2 ∉ seen):=by
     simp only[List.mem_append,List.mem_singleton,this,or_false]
    simp only[e]
   refine aZ (fun hno=>?_) (fun Si=>?_)
   ·have hno:kp t.1=false:=by simpa using hno
    rw[bC,iE,Nat.zero_add,aG s5 rfl]
    rcases rG t.1 (T.filter fun t=>decide (t.2.2 ∉ seen) || kp t.1) 0 with⟨a1,_⟩ | ⟨j,t',a1,a2,a3⟩
    ·exact absurd rfl (a1 t ht)
    have hj:=(List.getElem?_eq_some_iff.1 a1).1
    refine⟨mb,_,cl,[St t.1],_,rfl,s4,rfl,rfl,a3, ?_⟩
    have k6:aa [mb] M5 (M5.put mb (Gj ((T.filter fun t=>decide (t.2.2 ∉ seen) || kp t.1).map ed) cl (some (0 + j,t'.2.1)))):=(aa.refl _ _).put _ (.inr (by simp))
    have hfil:(T.filter fun x=>decide (x.2.2 ∉ seen++[t.2.2]) || kp x.1)=(T.filter fun t=>decide (t.2.2 ∉ seen) || kp t.1).eraseIdx j:=by
     rw[erase_filter wfP.nodup a1,List.filter_filter]
     refine List.filter_congr fun x hx=>?_
     by_cases hxt:x.1=t.1
     ·have:=g5.same hx htT hxt
      subst this
      simp[hno,a2]
     ·rw[other x hx hxt,a2]
      simp[hxt]
    have m4:(M5.put mb (Gj ((T.filter fun t=>decide (t.2.2 ∉ seen) || kp t.1).map ed) cl (some (0 + j,t'.2.1)))).heap mb=some (.map ((T.filter fun x=>decide (x.2.2 ∉ seen++[t.2.2]) || kp x.1).map ed) cl):=by
     rw[aF,hfil]
     simp only[Gj,Nat.zero_add]
     rw[Iu]
    have e6:(M5.put mb (Gj ((T.filter fun t=>decide (t.2.2 ∉ seen) || kp t.1).map ed) cl (some (0 + j,t'.2.1)))).next=M5.next:=rfl
    dsimp only
    generalize M5.put mb (Gj ((T.filter fun t=>decide (t.2.2 ∉ seen) || kp t.1).map ed) cl (some (0 + j,t'.2.1)))=M6 at *
    have hlen:(T.filter fun x=>decide (x.2.2 ∉ seen++[t.2.2]) || kp x.1).length + 1=(T.filter fun t=>decide (t.2.2 ∉ seen) || kp t.1).length:=by
     rw[hfil,List.length_eraseIdx_of_lt hj]; omega
    have hle:(T.filter fun t=>decide (t.2.2 ∉ seen) || kp t.1).length≤T.length:=List.length_filter_le ..
    rw[nP (by omega),show T.length - (T.filter fun t=>decide (t.2.2 ∉ seen) || kp t.1).length + 1=T.length - (T.filter fun x=>decide (x.2.2 ∉ seen++[t.2.2]) || kp x.1).length by omega]
    exact hnext _ _ _ r7 ⟨seen++[t.2.2],rfl,rfl,k5.trans k6,by omega,k6.ay s3 (by omega) (by simp; omega),m4,k6.ay s5 (by omega) (by simpa using g2.symm),s6.keep (by omega) k6 (by simp; omega)⟩
   ·have Si:kp t.1=true:=by simpa using Si
    have hfil:(T.filter fun x=>decide (x.2.2 ∉ seen++[t.2.2]) || kp x.1)=(T.filter fun t=>decide (t.2.2 ∉ seen) || kp t.1):=by
     refine List.filter_congr fun x hx=>?_
     by_cases hxt:x.1=t.1
     ·have:=g5.same hx htT hxt
      subst this
      simp[Si]
     ·exact other x hx hxt
    exact hnext _ _ _ r7 ⟨seen++[t.2.2],rfl,by rw[hfil],k5,by omega,s3,by rw[hfil]; exact s4,s5,s6⟩
  ·dsimp only
   rw[dm,iI]
   have hfil:(T.filter fun t=>decide (t.2.2 ∉ seen) || kp t.1)=T.filter fun t=>kp t.1:=by
    refine List.filter_congr fun t ht=>?_
    cases hk:kp t.1 with
    | true=>simp
    | false =>
      have:t.2.2∈seen:=by
       rcases Classical.em (t.2.2∈seen) with hx | hx
       ·exact hx
       ·have:=ha (ed t) (List.mem_map_of_mem (List.mem_filter.2 ⟨ht,by simp[hx]⟩)) hx
        have:=g5.lt t ht
        simp only[ed] at *
        omega
      simp[this]
   rw[hfil] at q4 ⊢
   refine hQ M' [mb] ⟨fun x hx=>Nat.lt_of_lt_of_le (h.lt x hx) q1.next,h.own,⟨mb,cl,g1,g2,q5,q4,g5.filter _,fun t ht=>g6 t (List.mem_filter.1 ht).1⟩,fun t ht=>?_,fun s b hs=>?_,fun t ht=>h.nm t (List.mem_filter.1 ht).1⟩ q1 (by simpa using g1)
   ·obtain⟨ht1,ht2⟩:=List.mem_filter.1 ht
    obtain⟨b,p1,p2,p3,p4⟩:=h.val t ht1
    exact⟨b,by rw[if_pos ht2]; exact p1,p2.keep q1 (fun x hx hm=>by simp at hm; exact(g6 t ht1 x hx).1 hm),p3,p4⟩
   ·by_cases hk:kp s=true
    ·rw[if_pos hk] at hs
     obtain⟨t,ht,e⟩:=h.dom s b hs
     exact⟨t,List.mem_filter.2 ⟨ht,by rw[e]; exact hk⟩,e⟩
    ·rw[if_neg hk] at hs; cases hs
abbrev YB:=Str × Str
section
variable {M M' : RM} {base T:Nat} {v:AV} {w:List YB} {S S' : Nat→Prop} {ks:List Nat}
end
def QC (fr i:Nat) : UInt8:=UInt8.ofNat ((fr + 7 * i) % 256)
def lZ (n fr:Nat) : Str:=(List.range n).map fun i=>QC fr i
theorem qY (n fr:Nat) : (lZ n fr).length=n:=by simp[lZ]
def Gm (c:au) : Prop:=∀ {M:RM} {n fr:Nat} {Q:ah},n≤1000→fr<256→(∀ v M',aa [] M M'→Nw M.next M' v (lZ n fr)→Q v M')→c [N .i64 (n:Int),N .u8 (fr:Int)] M Q
theorem G6:∀ n:Nat,fB [(N .u8 0)] n=BY.row (List.replicate n 0)
 | 0=>rfl
 | n + 1=>by rw[fB,G6 n,List.replicate_succ,Enc.gu]; rfl
theorem Lu {T:Nat} : Gm fun args M Q=>∃ a0 a1,args=[a0,a1]∧qD T a0 a1 M Q:=by
 intro M n fr Q hn hfr hQ
 refine⟨_,_,rfl, ?_⟩
 unfold qD
 refine⟨_,_,(n:Int),(n:Int),rfl,rfl,by omega,Int.le_refl _,by rw[Int.toNat_natCast]; omega,by rw[Int.toNat_natCast]; omega, ?_⟩
 rw[Int.toNat_natCast,G6]
 dsimp only
 rw[aV]
 have k1:aa [] M (M.push (.row (BY.row (List.replicate n 0)) false T 0)):=(aa.refl _ _).push _
 have n1:(M.push (.row (BY.row (List.replicate n 0)) false T 0)).heap M.next=some (.row (BY.row (List.replicate n 0)) false T 0):=RM.bN _
 have e1:(M.push (.row (BY.row (List.replicate n 0)) false T 0)).next=M.next + 1:=rfl
 generalize M.push (.row (BY.row (List.replicate n 0)) false T 0)=M1 at *
 have r1:Rw BY M1 M.next false T (List.replicate n 0):=⟨n1,by omega⟩
 refine aT (fun m ys M3=>∃ (i:Nat) (d:Str),m=n - i∧ys=[N .i64 (i:Int)]∧i≤n∧aa [] M M3∧Rw BY M3 M.next false T d∧d.length=n∧d.take i=lZ i fr) _ ⟨0,_,rfl,rfl,Nat.zero_le _,k1,r1,by simp,by simp[lZ]⟩ ?_
 rintro next m ys M3 hnext ⟨i,d,rfl,rfl,hi,k3,r3,hd,hp⟩
 simp only[aK]
 rw[lU]
 refine aZ (fun hlt=>?_) (fun hge=>?_)
 ·have hlt:i<n:=of_decide_eq_true hlt
  rw[fE,show(i:Int) * 7=((i * 7:Nat) : Int) by omega,aM (by omega) (by omega),dz,wrap_u8,bq,show(fr:Int) + ((i * 7 % 256:Nat) : Int)=((fr + i * 7 % 256:Nat) : Int) by omega,wrap_u8]
  have e:N .u8 (((fr + i * 7 % 256) % 256:Nat) : Int)=By (QC fr i):=by
   rw[By,QC,KA]; congr 2; omega
  rw[e,← hd]
  obtain⟨st1,st2⟩:=r3.PW (i:=i) (by omega) (QC fr i) rfl (u:=By (QC fr i)) rfl
  rw[Sd (by omega)]
  refine⟨_,i,_,rfl,rfl,st1, ?_⟩
  dsimp only
  rw[nP (by omega)]
  refine hnext _ _ _ (by omega) ⟨i + 1,_,rfl,rfl,hlt,k3.put _ (.inl (Nat.le_refl _)),st2,by simpa using hd, ?_⟩
  rw[List.take_succ_eq_append_getElem (by rw[List.length_set]; omega),List.getElem_set_self,List.take_set_of_le (Nat.le_refl _),hp]
  unfold lZ
  rw[List.range_succ,List.map_append]; rfl
 ·have:i=n:=by
   have:¬ i<n:=of_decide_eq_false hge
   omega
  subst this
  rw[List.take_of_length_le (by omega)] at hp
  subst hp
  refine hQ _ M3 k3 ⟨⟨?_,Nat.le_refl _⟩,by simp[ak]⟩
  have:=r3.sl (cap:=.ex i)
  rw[qY] at this; exact this
set_option maxRecDepth 100000
def pA:Str:=lZ 65 1
def c0:Str:=pA.take 64
def c1:Str:=pA.drop 64
def oT:Str:=[111,116,104,101,114]
def mA:Str:=65 :: (rR c0++rR c1)
def nA:Str:=dI mA
def n0:Str:=dI c0
def n1:Str:=dI c1
def nO:Str:=dI oT
theorem Y7:Hr pA=mA:=by
 have h:(ek 64 pA)=[c0,c1]:=by decide +kernel
 unfold Hr mA
 rw[h]
 have:pA.length=65:=qY 65 1
 rw[this,yA (by decide)]
 simp
theorem Zp:ek 64 pA=[c0,c1]:=by decide +kernel
theorem Ti:n0≠n1:=by decide +kernel
theorem SQ:nA≠n0:=by decide +kernel
theorem Ta:nA≠n1:=by decide +kernel
theorem ZV:nO≠nA:=by decide +kernel
theorem ZZ:nO≠n0:=by decide +kernel
theorem Z4:nO≠n1:=by decide +kernel
theorem OI:oq mA=some (65,[n0,n1]):=by decide +kernel
theorem ZX:fI nA=true∧fI nO=true:=by decide +kernel
theorem cc:c0++c1=pA:=List.take_append_drop 64 pA
theorem l0:c0.length=64:=by decide +kernel
theorem l1:c1.length=1:=by decide +kernel
theorem lM:mA.length=65:=by decide +kernel
set_option maxRecDepth 10000
theorem Ez {f:Str→Option Str} {b n:Str} (hn:dI b=n) (h0:f n=none) (s:Str) : qF f b s=if s=n then some b else f s:=by
 subst hn
 unfold qF
 by_cases h:s=dI b
 ·rw[if_pos ⟨h,h0⟩,if_pos h]
 ·rw[if_neg (fun hc=>h hc.1),if_neg h]
theorem eA:dI mA=nA:=rfl
theorem e0:dI c0=n0:=rfl
theorem e1:dI c1=n1:=rfl
theorem eO:dI oT=nO:=rfl
def f1:Str→Option Str:=qF (fun _=>none) mA
def f3:Str→Option Str:=qF (qF f1 c0) c1
theorem EY (s:Str) : f1 s=if s=nA then some mA else none:=Ez eA rfl s
theorem Tq (s:Str) : qF f1 c0 s=if s=n0 then some c0 else if s=nA then some mA else none:=by
 rw[Ez e0 (by rw[EY,if_neg (fun h=>SQ h.symm)]),EY]
theorem FP (s:Str) : f3 s=if s=n1 then some c1 else if s=n0 then some c0 else if s=nA then some mA else none:=by
 unfold f3
 rw[Ez e1 (by rw[Tq,if_neg (fun h=>Ti h.symm),if_neg (fun h=>Ta h.symm)]),Tq]
theorem Kc:f3 nA=some mA:=by rw[FP,if_neg Ta,if_neg SQ,if_pos rfl]
theorem RF:f3 n0=some c0:=by rw[FP,if_neg Ti,if_pos rfl]
theorem QJ:f3 n1=some c1:=by rw[FP,if_pos rfl]
theorem X8:f3 nO=none:=by rw[FP,if_neg Z4,if_neg ZZ,if_neg ZV]
theorem WE:xO (fun _=>none) nA=[nA]:=rfl
theorem WU:xO f1 nA=[n0,n1]:=by
 unfold xO
 rw[EY,if_pos rfl]
 simp only[OI]
 have h0:isNil f1 n0=true:=by unfold isNil; rw[EY,if_neg SQ.symm]; rfl
 have h1:isNil f1 n1=true:=by unfold isNil; rw[EY,if_neg Ta.symm]; rfl
 unfold iK
 simp only[List.foldl_cons,List.foldl_nil,gp,h0,h1]
 have:¬ n1=n0:=fun h=>Ti h.symm
 simp[this]
theorem ZU:kR f3 nA=(pA,0):=by
 unfold kR
 rw[Kc]
 simp only[OI]
 have h0:isNil f3 n0=false:=by unfold isNil; rw[RF]; rfl
 have h1:isNil f3 n1=false:=by unfold isNil; rw[QJ]; rfl
 have v0:lV f3 n0=c0:=by unfold lV; rw[RF]; rfl
 have v1:lV f3 n1=c1:=by unfold lV; rw[QJ]; rfl
 rw[if_neg (by simp[h0,h1]),pO,v0,l0,if_pos (by decide),pO,v1,l1,List.nil_append,l0,if_pos (by decide),pO,cc]
theorem Xv:(iK (isNil f3) [nA,nO]).filter fI=[nO]:=by
 have h0:isNil f3 nA=false:=by unfold isNil; rw[Kc]; rfl
 have h1:isNil f3 nO=true:=by unfold isNil; rw[X8]; rfl
 unfold iK
 simp[gp,h0,h1,ZX.2]
theorem three {TS sb:Nat} {M:RM} {T:List dX} {W:Nat→Prop} (h:nJ TS M sb T f3 W) : T.length=3:=by
 obtain⟨mb,cl,_,_,_,_,wf,_⟩:=h.map
 have hnd:[nA,n0,n1].Nodup:=by simp[SQ,Ta,Ti]
 have hp:(T.map (·.1)).Perm [nA,n0,n1]:=by
  rw[List.perm_ext_iff_of_nodup wf.nodup hnd]
  intro s
  constructor
  ·intro hs
   obtain⟨t,ht,rfl⟩:=List.mem_map.1 hs
   obtain⟨b,hb,_⟩:=h.val t ht
   rw[FP] at hb
   by_cases e1:t.1=n1
   ·simp[e1]
   ·rw[if_neg e1] at hb
    by_cases e2:t.1=n0
    ·simp[e2]
    ·rw[if_neg e2] at hb
     by_cases e3:t.1=nA
     ·simp[e3]
     ·rw[if_neg e3] at hb; cases hb
  ·intro hs
   have:∃ b,f3 s=some b:=by
    simp at hs
    rcases hs with rfl | rfl | rfl
    ·exact⟨_,Kc⟩
    ·exact⟨_,RF⟩
    ·exact⟨_,QJ⟩
   obtain⟨b,hb⟩:=this
   obtain⟨t,ht,e⟩:=h.dom s b hb
   exact List.mem_map.2 ⟨t,ht,e⟩
 have:=hp.length_eq
 simpa using this
theorem Ip {f:Str→Option Str} : kJ f []=fun _=>false:=rfl
theorem Ui {T n:Nat} {M:RM} {parts:List (Nat × Nat × AV)} (s:Str) {K:ah} (he:jM (fB [(N .u8 0)] n) parts=some (BY.row s)) (hn:s.length=n)
  (hK:∀ v M',Bs M' v s→aa [] M M'→(∀ b∈ak v,M.next≤b)→K v M') : bW T n [(N .u8 0)] parts fun r f=>aW r f M fun t14 M1=>NQ t14 M1 fun t15 M_0=>K t15 M_0:=by
 refine⟨BY.row s,he, ?_⟩
 simp only[aV]
 refine⟨M.next,0,n,n,BY.row s,T,rfl,by simp[RM.push], ?_⟩
 refine hK _ _ ⟨?_,Nat.le_refl _⟩ (((aa.refl _ _).push _).new _ (Nat.le_refl _)) (fun b hb=>by simp[ak] at hb; omega)
 subst hn
 refine aO.slc _ _ _ _ _ (by simp[RM.push,RM.put]) ?_
 rw[RM.iW (aF _) (by rw[fu]; simp[BY]),List.drop_zero,List.take_of_length_le (by rw[fu]; simp[BY])]
def Ap (M:RM) (v:AV) (W:Nat→Prop) : Prop:=∀ x∈ak v,x<M.next∧¬ W x
theorem Ap.put {M M' : RM} {v:AV} {W W' : Nat→Prop} (h:Ap M v W) (hn:M.next≤M'.next) (hw:∀ x,W' x→W x∨M.next≤x) : Ap M' v W':=fun x hx=>by
 obtain⟨h1,h2⟩:=h x hx
 refine⟨by omega,fun hc=>?_⟩
 rcases hw x hc with h | h
 ·exact h2 h
 ·omega
theorem Ap.keep {M M' : RM} {v:AV} {W:Nat→Prop} (h:Ap M v W) (hn:M.next≤M'.next) : Ap M' v W:=h.put hn fun x hx=>.inl hx
theorem Ap.off {M:RM} {v:AV} {W:Nat→Prop} {ks:List Nat} (h:Ap M v W) (hk:∀ x∈ks,W x) : ∀ x∈ak v,x ∉ ks:=fun x hx hm=>(h x hx).2 (hk x hm)
structure Cs (TSt T8 TB TS T32:Nat) (cph uS vR Jd Gq cPh Gw cNm cN2 zA Ci cNs cBy:au) : Prop where
 ph:Gm cph
 cut:NL T8 TB uS
 new:xC TSt vR
 miss:Dw TSt Jd
 put:Sa TSt Gq
 Tz:EX TSt cPh
 get:Na TSt T8 Gw
 nm:rX TS cNm
 n2:xS cN2
 want:Nh TSt zA
 keep:Ot TSt Ci
 ns:BC TSt TS cNs
 by_:Bn TSt cBy
theorem Yf {s:Str} : (s != s)=false:=by simp[bne]
def F6 (c:au) : Prop:=∀ {M:RM} {Q:ah},(∀ M',aa [] M M'→Q (Bo true) M')→c [] M Q
theorem Nk {TSt T8 TB TS T32 TU TT:Nat} {cph uS vR Jd Gq cPh Gw cNm cN2 zA Ci cNs cBy:au} (C:Cs TSt T8 TB TS T32 cph uS vR Jd Gq cPh Gw cNm cN2 zA Ci cNs cBy) :
  F6 fun args M Q=>args=[]∧qG cph uS vR Jd Gq cPh Gw cNm TU cN2 TT zA Ci cNs cBy M Q:=by
 intro M Q hQ
 refine⟨rfl, ?_⟩
 unfold qG
 refine C.ph (n:=65) (fr:=1) (by decide) (by decide) fun v M1 k1 hv=>?_
 refine C.cut hv.bs (by rw[qY]; decide) (fun h=>by rw[qY] at h; omega) fun mv lv M2 S _ k2 om ol hS=>?_
 have hm:Hr (lZ 65 1)=mA:=Y7
 have hc:ek 64 (lZ 65 1)=[c0,c1]:=Zp
 rw[hm] at om ⊢
 rw[hc] at ol
 rw[show dI mA=nA from rfl]
 rw[dm,dQ,lH,NP]
 refine C.new fun sb M3 W k3 hst hW=>?_
 have hn1:=k1.next
 have hn2:=k2.next
 have hn3:=k3.next
 rw[dH,show((0:Int) != 0)=false by decide]
 simp only[cZ]
 have bm:Bs M3 mv mA:=(Bs.own om).keep k3 (by simp)
 have sl2:jJ Pn M2 lv [c0,c1] (fun x=>S x∨(M1.next≤x∧x<M2.next)):=(ol.mono (fun x h=>.inl h)).ZY (fun x h1 h2=>.inr ⟨h1,h2⟩)
 have sl3:=(sl2.mono (S':=fun x=>M1.next≤x∧x<M2.next) (fun x h=>h.elim (fun h=>⟨(hS x h).1,(hS x h).2.1⟩) id)).keep k3 (by simp)
 have YE:∀ {K:AV→Prop},eu false 1 (.ptr sb 0) (.sc (.pointer none)) K=K (Bo false):=fun {K} => il (r:=false) rfl rfl
 rw[YE,gZ]
 simp only[cZ]
 rw[sl3.len,dH,show((([c0,c1] : List Str).length:Int) != 2)=false by decide,gZ]
 simp only[cZ]
 obtain⟨b1,o1,cs1,hb1n,Wl,TA,VH,w1,rfl,hw1,Yj⟩:=sl3.at (i:=1) 1 1 (by decide)
 obtain⟨b0,o0,cs0,hb0n,Yy,WO,Yw,w0,rfl,hw0,Yg⟩:=sl3.at (i:=0) 1 0 (by decide)
 have hw1:Bs M3 w1 c1:=hw1
 have hw0:Bs M3 w0 c0:=hw0
 rw[TA,oG (je.1 VH),hw1.len,l1,dH,show(((1:Nat) : Int) != 1)=false by decide,gZ]
 simp only[cZ]
 rw[bm.len,lM,dH,show(((65:Nat) : Int) != 65)=false by decide,gZ]
 simp only[cZ]
 have hnl:nA.length=64:=AB _
 rw[Hz,hnl,dH,show(((64:Nat) : Int) != 64)=false by decide,gZ,iI]
 have apm:Ap M3 mv W:=fun x hx=>⟨by have:=(Own.blk om x hx).2; omega,fun h=>by have:=hW x h; have:=(Own.blk om x hx).2; omega⟩
 have ap1:Ap M3 w1 W:=fun x hx=>⟨hw1.lt x hx,fun h=>by have:=hW x h; have:=Yj x hx; omega⟩
 have ap0:Ap M3 w0 W:=fun x hx=>⟨hw0.lt x hx,fun h=>by have:=hW x h; have:=Yg x hx; omega⟩
 have miss0' : ∀ x∈([] : List Nat),¬ W x:=by simp
 refine C.miss hst fun av M4 k4 ha=>?_
 have hn4:=k4.next
 rw[WE] at ha
 have Zo:=hst.keep k4 (by simp)
 have aa4:Ap M4 av W:=fun x hx=>⟨aO.lt ha.sl x hx,fun h=>by have:=ha.new x hx; obtain⟨T,hT,_⟩:=hst; have:=hT.lt x h; omega⟩
 refine C.put Zo (bm.keep k4 (by simp)) (by rw[lM]; decide) fun M5 W5 ks5 Jz k5 hk5 hW5 hs5=>?_
 have hn5:=k5.next
 rw[eA,QU,Yf,iI]
 have Jz:lQ TSt M5 sb f1 W5 1:=Jz
 have Wd:=(apm.keep hn4).put hn5 hW5
 have Wo:=(ap1.keep hn4).put hn5 hW5
 have ap05:=(ap0.keep hn4).put hn5 hW5
 have aa5:=aa4.put hn5 hW5
 have bm5:=(bm.keep k4 (by simp)).keep k5 ((apm.keep hn4).off hk5)
 have ZA:=(hw1.keep k4 (by simp)).keep k5 ((ap1.keep hn4).off hk5)
 have X3:=(hw0.keep k4 (by simp)).keep k5 ((ap0.keep hn4).off hk5)
 have sa5:=aO.keep ha.sl k5 (aa4.off hk5)
 have hlw:∀ x∈ak lv,x<M2.next:=fun x hx=>(ol.blk x hx).2
 have nW:∀ x,x<M2.next→x ∉ ks5:=fun x hx hm=>by have:=hW x (hk5 x hm); omega
 have c05:M5.cell b0 o0=some w0:=by rw[k5.cell (by omega) (nW b0 (hlw b0 Yy)),k4.cell (by omega) (by simp)]; exact je.1 Yw
 have c15:M5.cell b1 o1=some w1:=by rw[k5.cell (by omega) (nW b1 (hlw b1 Wl)),k4.cell (by omega) (by simp)]; exact je.1 VH
 refine C.miss Jz fun bv M6 k6 hb=>?_
 rw[WU] at hb
 have hn6:=k6.next
 have ab6:Ap M6 bv W5:=fun x hx=>⟨aO.lt hb.sl x hx,fun h=>by have:=hb.new x hx; obtain⟨T,hT,_⟩:=Jz; have:=hT.lt x h; omega⟩
 have c06:M6.cell b0 o0=some w0:=by rw[k6.cell (by omega) (by simp)]; exact c05
 rw[WO,oG c06]
 refine C.put (Jz.keep k6 (by simp)) (X3.keep k6 (by simp)) (by rw[l0]; decide) fun M7 W7 ks7 YY k7 hk7 hW7 hs7=>?_
 have hn7:=k7.next
 have nW7:∀ x,x<M2.next→x ∉ ks7:=fun x hx hm=>by
  rcases hW5 x (hk7 x hm) with h | h
  ·have:=hW x h; omega
  ·omega
 have c17:M7.cell b1 o1=some w1:=by rw[k7.cell (by omega) (nW7 b1 (hlw b1 Wl)),k6.cell (by omega) (by simp)]; exact c15
 rw[TA,oG c17]
 have YX:=(ZA.keep k6 (by simp)).keep k7 ((Wo.keep hn6).off hk7)
 have ap17:=(Wo.keep hn6).put hn7 hW7
 have bm7:=(bm5.keep k6 (by simp)).keep k7 ((Wd.keep hn6).off hk7)
 have Wt:=(Wd.keep hn6).put hn7 hW7
 have sa7:=aO.keep (aO.keep sa5 k6 (by simp)) k7 ((aa5.keep hn6).off hk7)
 have aa7:=(aa5.keep hn6).put hn7 hW7
 have sb7:=aO.keep hb.sl k7 (ab6.off hk7)
 have ab7:=ab6.put hn7 hW7
 refine C.put YY YX (by rw[l1]; decide) fun M8 W8 ks8 xG k8 hk8 hW8 hs8=>?_
 have xG:lQ TSt M8 sb f3 W8 3:=xG
 have hn8:=k8.next
 have bm8:=bm7.keep k8 (Wt.off hk8)
 have sa8:=aO.keep sa7 k8 (aa7.off hk8)
 have aa8:=aa7.put hn8 hW8
 have sb8:=aO.keep sb7 k8 (ab7.off hk8)
 have ab8:=ab7.put hn8 hW8
 have Zw:=Wt.put hn8 hW8
 refine C.Tz xG fun pv M9 k9 hp=>?_
 rw[ZU] at hp ⊢
 rw[dm,dQ]
 have hn9:=k9.next
 have XZ:Ap M9 pv W8:=fun x hx=>⟨hp.bs.lt x hx,fun h=>by have:=hp.new x hx; obtain⟨T,hT,_⟩:=xG; have:=hT.lt x h; omega⟩
 have Ww:=xG.keep k9 (by simp)
 refine C.get Ww (fun h0=>by rw[Kc] at h0; cases h0) fun gv bb M10 h0 hbl k10 og=>?_
 rw[Kc] at h0
 cases h0
 rw[dm,dQ]
 have YI:=k10.next
 have WQ:Ap M10 gv W8:=fun x hx=>⟨(Own.blk og x hx).2,fun h=>by have:=(Own.blk og x hx).1; obtain⟨T,hT,_⟩:=Ww; have:=hT.lt x h; omega⟩
 have k8a:=k9.trans k10
 refine C.nm (bm8.keep k8a (by simp)) (by rw[lM]; decide) (fun M11 k11 hx=>by rw[OI] at hx; cases hx) fun n' ls nv M11 k11 hx on=>?_
 rw[OI] at hx
 cases hx
 rw[dm,dQ,lH]
 have Yd:=k11.next
 have Xw:Ap M11 nv W8:=fun x hx=>⟨(Own.blk on x hx).2,fun h=>by have:=(Own.blk on x hx).1; obtain⟨T,hT,_⟩:=xG; have:=hT.lt x h; omega⟩
 refine Ui oT rfl rfl fun ov M12 bo k12 ho=>?_
 refine C.n2 bo (by decide) fun M13 k13=>?_
 rw[eO,NB rfl rfl rfl rfl,aV]
 have k14:aa [] M13 (M13.push (.row [St nA,St nO] false TT 0)):=(aa.refl _ _).push _
 have s14:Sl eB (M13.push (.row [St nA,St nO] false TT 0)) (.slc M13.next 0 2 (.ex 2)) [nA,nO]:=Sl.new (E:=eB) [nA,nO]
 have x14:(M13.push (.row [St nA,St nO] false TT 0)).next=M13.next + 1:=rfl
 show zA _ (M13.push (.row [St nA,St nO] false TT 0)) _
 generalize M13.push (.row [St nA,St nO] false TT 0)=M14 at *
 have Vn:=((k8a.trans k11).trans (k12.trans k13)).trans k14
 have RZ:=k12.next
 have hn13:=k13.next
 have Xa:=xG.keep Vn (by simp)
 refine C.want Xa s14 (by simp) (fun x hx=>by
  have hO:nO.length=64:=AB _
  simp at hx
  rcases hx with h | h <;> subst h <;> omega) fun wv M15 k15 hwv=>?_
 rw[Xv] at hwv
 have hn15:=k15.next
 have Xx:Ap M15 wv W8:=fun x hx=>⟨aO.lt hwv.sl x hx,fun h=>by have:=hwv.new x hx; obtain⟨T,hT,_⟩:=xG; have:=hT.lt x h; omega⟩
 have zZ:=Vn.trans k15
 obtain⟨T8',hT8,_⟩:=xG.keep zZ (by simp)
 have h3:=three hT8
 refine C.keep hT8 (by omega) (v:=bK) (l:=[]) .nil (by simp) fun M16 ks16 hT16 k16 Aa=>?_
 have hn16:=k16.next
 have hfil:(T8'.filter fun t=>kJ f3 [] t.1)=[]:=List.filter_eq_nil_iff.2 (fun t _=>by rw[Ip]; exact Bool.false_ne_true)
 rw[hfil] at hT16 ⊢
 rw[h3]
 have VZ:=aO.keep (aO.keep sa8 zZ (by simp)) k16 ((aa8.keep zZ.next).off Aa)
 have Ya:=aO.keep (aO.keep sb8 zZ (by simp)) k16 ((ab8.keep zZ.next).off Aa)
 have VA:=((k10.trans k11).trans (k12.trans k13)).trans (k14.trans k15)
 have VV:=(hp.bs.keep VA (by simp)).keep k16 ((XZ.keep VA.next).off Aa)
 have SN:=(k11.trans (k12.trans k13)).trans (k14.trans k15)
 have Zi:=((Bs.own og).keep SN (by simp)).keep k16 ((WQ.keep SN.next).off Aa)
 have Tu:=(k12.trans k13).trans (k14.trans k15)
 have Yv:=aO.keep (aO.keep (Own.lN on) Tu (by simp)) k16 ((Xw.keep Tu.next).off Aa)
 have Zz:=aO.keep hwv.sl k16 (Xx.off Aa)
 have YZ:=(bm8.keep zZ (by simp)).keep k16 ((Zw.keep zZ.next).off Aa)
 have YH:aa [] M M16:=by
  have a1:aa [] M M4:=((k1.trans k2).trans k3).trans k4
  have a2:aa [] M M6:=(a1.eX k5 (fun x hx=>.inl (by have:=hW x (hk5 x hx); omega))).trans k6
  have h57:∀ x,W5 x→M.next≤x:=fun x hx=>by
   rcases hW5 x hx with h | h
   ·have:=hW x h; omega
   ·omega
  have a3:=a2.eX k7 (fun x hx=>.inl (h57 x (hk7 x hx)))
  have h78:∀ x,W7 x→M.next≤x:=fun x hx=>by
   rcases hW7 x hx with h | h
   ·exact h57 x h
   ·omega
  have a4:=(a3.eX k8 (fun x hx=>.inl (h78 x (hk8 x hx)))).trans zZ
  exact a4.eX k16 (fun x hx=>.inl (by
   rcases hW8 x (Aa x hx) with h | h
   ·exact h78 x h
   ·omega))
 simp only[rD,O5,JW,KO]
 rw[aO.len VZ,bM,show((([nA] : List Str).length:Int) == 1)=true by rfl]
 simp only[dC]
 refine tY (i:=0) VZ (by decide) ?_
 have hsn:∀ {x:Str},(x == x)=true:=fun {x} => by simp
 rw[show([nA] : List Str)[0]=nA from rfl,sM,hsn,dK]
 simp only[dC]
 rw[aO.len Ya,bM,show((([n0,n1] : List Str).length:Int) == 2)=true by rfl,dK]
 simp only[dC]
 rw[bM,show(((0:Nat) : Int) == 0)=true by rfl,dK]
 simp only[dC,dY,Ij]
 rw[VV.str]
 refine C.ph (n:=65) (fr:=1) (by decide) (by decide) fun v17 M17 k17 YF=>?_
 have Yp:=VV.keep k17 (by simp)
 rw[Yp.str]
 refine⟨rfl, ?_⟩
 rw[YF.bs.str,show lZ 65 1=pA from rfl,sM,hsn,dK]
 simp only[dC]
 rw[dK]
 simp only[dC]
 rw[(Zi.keep k17 (by simp)).str,(YZ.keep k17 (by simp)).str,sM,hsn,dK]
 simp only[dC]
 rw[bM,show((0:Int) == 0)=true by rfl,dK]
 simp only[dC]
 rw[bM,show(((65:Nat) : Int) == 65)=true by rfl,dK]
 simp only[dC]
 rw[aO.len Yv,bM,show((([n0,n1] : List Str).length:Int) == 2)=true by rfl,dK]
 simp only[dC]
 rw[aO.len Zz,bM,show((([nO] : List Str).length:Int) == 1)=true by rfl,dK]
 simp only[dC]
 rw[bM,show(((3 - ([] : List dX).length:Nat) : Int) == 3)=true by rfl,dK]
 simp only[dC,dY]
 have Tk:lQ TSt M17 sb (fun s=>if kJ f3 [] s then f3 s else none) W8 0:=⟨[],hT16.keep k17 (by simp),Nat.le_refl _⟩
 have hT0:∀ {M:RM} {T:List dX},nJ TSt M sb T (fun s=>if kJ f3 [] s then f3 s else none) W8→T=[]:=by
  intro M T h
  cases T with
  | nil=>rfl
  | cons t T =>
    obtain⟨b,hb,_⟩:=h.val t (List.mem_cons_self ..)
    rw[Ip] at hb
    cases hb
 refine C.ns Tk (by decide) fun T18 v18 M18 YW _ o18 k18=>?_
 rw[hT0 YW] at o18
 rw[aO.len (Own.lN o18),bM,show(((Go.Ab.Dk.lL (iG [])).length:Int) == 0)=true by rfl,dK]
 simp only[dC,dY]
 refine C.by_ (Tk.keep k18 (by simp)) (by decide) fun T19 M19 Zx _ k19=>?_
 rw[hT0 Zx,bM,show((wY (vM fun s=>if kJ f3 [] s then f3 s else none) [] : Nat) : Int)=0 from rfl,show((0:Int) == 0)=true by rfl,dK]
 exact hQ M19 (((YH.trans k17).trans k18).trans k19)
def Qx (c:au) : Prop:=∀ {M:RM} {Q:ah},(∀ M',Q (Bo true) M')→c [] M Q
theorem Ny {TSt T8 TB TS TU:Nat} {ca uS cNm vR cPh:au} (ha:F6 ca) (hc:NL T8 TB uS) (hn:rX TS cNm) (hw:xC TSt vR) (hp:EX TSt cPh) : Qx fun args M Q=>args=[]∧kN ca TU uS cNm vR cPh M Q:=by
 intro M Q hQ
 refine⟨rfl, ?_⟩
 unfold kN
 simp only[rD]
 refine ha fun M1 k1=>?_
 rw[iy,Bool.not_true,iI]
 refine⟨_,_,4097,4097,rfl,rfl,by decide,by decide,by decide,by decide, ?_⟩
 rw[show(4097:Int).toNat=4097 from rfl,G6]
 dsimp only
 rw[aV]
 have r2:Rw BY (M1.push (.row (BY.row (List.replicate 4097 0)) false TU 0)) M1.next false TU (List.replicate 4097 0):=Rw.new M1 _
 generalize M1.push (.row (BY.row (List.replicate 4097 0)) false TU 0)=M2 at *
 have hb2:Bs M2 (.slc M1.next 0 4097 (.ex 4097)) (List.replicate 4097 0):=⟨by have:=r2.sl (cap:=.ex 4097); rw[List.length_replicate] at this; exact this,Nat.le_refl _⟩
 refine hc hb2 (by rw[List.length_replicate]; decide) (fun _=>?_) fun mv lv M' S h=>by rw[List.length_replicate] at h; omega
 rw[dm,dQ,lH,NP]
 refine hc (v:=bK) (b:=[]) ⟨.nil,trivial⟩ (by simp) (fun h=>by simp at h) fun mv lv M3 S _ k3 om ol hS=>?_
 rw[dm,dQ,lH,NP]
 refine hn (v:=bK) (m:=[]) ⟨.nil,trivial⟩ (by simp) (fun M4 k4 _=>?_) fun n l lv M4 k4 hx=>by cases hx
 rw[dm,dQ,lH]
 refine hw fun sb M5 W k5 hst hW=>?_
 refine hp hst fun pv M6 k6 hpv=>?_
 rw[show kR (fun _=>none) [120]=([],4) from rfl,dm,dQ,bM,show((2:Int) == 2)=true by rfl]
 simp only[dY]
 rw[bM,show((0:Int) == 0)=true by rfl,dK]
 simp only[dY]
 have hl0:∀ {K:AV→Prop},bI lv K=K (N .i64 0):=fun {K} => by
  have:=ol.len (K:=K)
  rw[show(ek 64 []).length=0 from rfl] at this; exact this
 rw[hl0,bM,show((0:Int) == 0)=true by rfl,dK]
 simp only[dY]
 rw[bM,show((14:Int) == 14)=true by rfl,dK]
 simp only[dY]
 rw[bM,show(((4:Nat) : Int) == 4)=true by rfl,dK]
 exact hQ M6
end Go.Ab.Bl
namespace Go.Ab.Sha
open Go Go.Ab Go.Ab.Sm
structure VS (M:RM) (base T:Nat) (v:AV) (l:List Int) : Prop where
 ex:∃ vb p cap,v=.slc vb 0 l.length cap∧M.heap vb=some (.row (bu.row l) p T 0)∧base≤vb∧vb<M.next
theorem VS.keep {M M' : RM} {base T:Nat} {v:AV} {l:List Int} (h:VS M base T v l) (k:aa [] M M') : VS M' base T v l:=by
 obtain⟨vb,p,cap,e,h1,h2,h3⟩:=h.ex
 exact⟨vb,p,cap,e,k.ay h1 h3 (by simp),h2,Nat.lt_of_lt_of_le h3 k.next⟩
theorem VS.mono {M:RM} {base base' T:Nat} {v:AV} {l:List Int} (h:VS M base T v l) (hb:base'≤base) : VS M base' T v l:=by
 obtain⟨vb,p,cap,e,h1,h2,h3⟩:=h.ex
 exact⟨vb,p,cap,e,h1,by omega,h3⟩
theorem VS.sl {M:RM} {base T:Nat} {v:AV} {l:List Int} (h:VS M base T v l) : Sl bu M v l:=by
 obtain⟨vb,p,cap,rfl,h1,h2,h3⟩:=h.ex
 exact Rw.sl ⟨h1,h3⟩
theorem GL {M:RM} {base T:Nat} {v:AV} {s:List Int} (h:Ow bu M base T v s) (hs:s≠[]) : VS M base T v s:=by
 unfold Ow at h
 generalize hc:bu.row s=cs at h
 generalize hn:s.length=n at h
 cases h with
 | nil=>exact absurd (List.length_eq_zero_iff.1 hn) hs
 | ex0 b o _ _ _=>exact absurd (List.length_eq_zero_iff.1 hn) hs
 | op b n cs h1 h2 h3 h4=>subst hc; subst hn; exact⟨b,_,_,rfl,h3,h1,h2⟩
theorem vG {vb n i:Nat} {c:Cap} {j:Int} {k:IntKind} {K:AV→Prop} (hj:j=(i:Int)) (h:i<n) : bf (.slc vb 0 n c) (N k j) 1 K=K (.ptr vb i):=by
 subst hj
 rw[sJ,Nat.zero_add,Nat.mul_one,Int.toNat_natCast]
 exact propext ⟨fun h=>h.2.2,fun k=>⟨by omega,by omega,k⟩⟩
theorem QX {M:RM} {vb T:Nat} {p:Bool} {l:List Int} (h:M.heap vb=some (.row (bu.row l) p T 0)) {i:Nat} (hi:i<l.length) (x:Int) {K:RM→Prop} : aR M (.ptr vb i) (N .u32 x) 1 K=K (M.put vb (.row (bu.row (l.set i x)) p T 0)):=by
 refine fP _ h (by rw[iA]; exact hi) rfl rfl ?_
 rw[jV,jV,List.map_set]
theorem Uw {M:RM} {vb T:Nat} {p:Bool} {l:List Int} (h:M.heap vb=some (.row (bu.row l) p T 0)) {i:Nat} (hi:i<l.length) {K:AV→Prop} : ag M (.ptr vb i) K=K (N .u32 (l.getD i 0)):=by
 refine aG h ?_
 rw[jV,List.getElem?_map,List.getElem?_eq_getElem hi]
 simp[List.getD,hi]
theorem ER {M:RM} {v:AV} {l:List Int} (h:Sl bu M v l) {i:Nat} (hi:i<l.length) {K:AV→Prop} : (bf v (N .i64 (i:Int)) 1 fun t=>ag M t K)=K (N .u32 (l.getD i 0)):=by
 obtain⟨c,o,_,_,hix,hld⟩:=h.PG (i:Int) hi
 rw[hix,iX,hld _ rfl]
 have e:l[i]=l.getD i 0:=by simp[List.getD,hi]
 rw[← e]
 exact propext ⟨fun⟨v,e,k⟩=>by cases e; exact k,fun k=>⟨_,rfl,k⟩⟩
theorem PI {M:RM} {v:AV} {l:List Int} (h:Sl bu M v l) {i:Nat} (hi:i<l.length) : ∃ c o,c<M.next∧(∀ {K:AV→Prop},bf v (N .i64 (i:Int)) 1 K=K (.ptr c o))∧M.cell c o=some (N .u32 (l.getD i 0)):=by
 obtain⟨c,o,hc,_,hix,hld⟩:=h.PG (i:Int) hi
 have e:l[i]=l.getD i 0:=by simp[List.getD,hi]
 exact⟨c,o,hc,fun {K} => hix _ K,by rw[← e]; exact hld _ rfl⟩
theorem oG {M:RM} {c o:Nat} {x:AV} (h:M.cell c o=some x) {K:AV→Prop} : ag M (.ptr c o) K=K x:=by
 rw[iX,h]
 exact propext ⟨fun⟨v,e,k⟩=>by cases e; exact k,fun k=>⟨_,rfl,k⟩⟩
theorem mY {cs:List AV} {rest:List (Nat × Nat × AV)} {off:Nat} {k:IntKind} {n:Int} (h:off<cs.length) : jM cs ((off,1,N k n) :: rest)=jM (cs.set off (N k n)) rest:=by
 rw[jM,if_pos ⟨rfl,rfl,by omega⟩,List.set_eq_take_append_cons_drop,if_pos h,List.append_assoc]
 rfl
theorem WG {T:Nat} {a b c d e f g h:Int} {K:RB→(Nat→AV)→Prop} :
  bW T 8 [N .u32 0] [(0,1,N .u32 a),(1,1,N .u32 b),(2,1,N .u32 c),(3,1,N .u32 d),(4,1,N .u32 e),(5,1,N .u32 f),(6,1,N .u32 g),(7,1,N .u32 h)] K=K (.row (bu.row [a,b,c,d,e,f,g,h]) false T 0) (fun b=>.slc b 0 8 (.ex 8)):=by
 have:jM (fB [N .u32 0] 8) [(0,1,N .u32 a),(1,1,N .u32 b),(2,1,N .u32 c),(3,1,N .u32 d),(4,1,N .u32 e),(5,1,N .u32 f),(6,1,N .u32 g),(7,1,N .u32 h)]=some (bu.row [a,b,c,d,e,f,g,h]):=by
  have e0:fB [N .u32 0] 8=[N .u32 0,N .u32 0,N .u32 0,N .u32 0,N .u32 0,N .u32 0,N .u32 0,N .u32 0]:=rfl
  rw[e0]
  rw[mY (by simp)]
  simp only[List.set]
  rw[mY (by simp)]
  simp only[List.set]
  rw[mY (by simp)]
  simp only[List.set]
  rw[mY (by simp)]
  simp only[List.set]
  rw[mY (by simp)]
  simp only[List.set]
  rw[mY (by simp)]
  simp only[List.set]
  rw[mY (by simp)]
  simp only[List.set]
  rw[mY (by simp)]
  simp only[List.set]
  rfl
 apply propext; unfold bW
 constructor
 ·rintro⟨l,h,hk⟩; rw[this] at h; cases h; exact hk
 ·intro hk; exact⟨_,this,hk⟩
def KY (TU:Nat) (c:au) : Prop:=∀ {M:RM} {hv kv bv:AV} {h k:List Int} {b:Str} {Q:ah},Sl bu M hv h→h.length=8→Sl bu M kv k→k.length=64→Bs M bv b→b.length=64 →
 (∀ v' M',aa [] M M'→VS M' M.next TU v' (kL h k b)→Q v' M')→c [hv,kv,bv] M Q
theorem MV {TK TU:Nat} {ct:au} (ht:Cx .u64 ct) : KY TU fun args M Q=>∃ a0 a1 a2,args=[a0,a1,a2]∧tO TK ct TU a0 a1 a2 M Q:=by
 intro M hv kv bv h k b Q hs hhl hk hkl hb hbl hQ
 refine⟨_,_,_,rfl, ?_⟩
 unfold tO
 refine eU (bu.row (List.replicate 64 0)) fun M0 k0 n0' e0=>?_
 have n0:M0.heap M.next=some (.row (bu.row (sched b 0++List.replicate (64 - 0) 0)) false TK 0):=n0'
 refine aT (fun m ys M4=>∃ i:Nat,m=64 - i∧ys=[N .i64 (i:Int)]∧i≤64∧aa [] M M4∧M.next<M4.next∧M4.heap M.next=some (.row (bu.row (sched b i++List.replicate (64 - i) 0)) false TK 0)) _
  ⟨0,rfl,rfl,by omega,k0,by omega,n0⟩ ?_
 rintro next m ys M4 hnext ⟨i,rfl,rfl,hi,k4,l4,n4⟩
 simp only[aK]
 rw[lh 64 (by rfl)]
 have hb4:=hb.keep k4 (by simp)
 refine aZ (fun hc=>?_) fun hc=>?_
 ·have jZ:i<64:=of_decide_eq_true hc
  have hlen:(sched b i++List.replicate (64 - i) 0).length=64:=by rw[List.length_append,jb,List.length_replicate]; omega
  have e:=Bv b (i:=i) (by omega)
  rw[fF]
  refine fK (fun xs M5=>xs=[]∧aa [] M M5∧M.next<M5.next∧M5.heap M.next=some (.row (bu.row (sched b (i + 1)++List.replicate (64 - (i + 1)) 0)) false TK 0)) ?_ ?_
  ·rintro xs M5 ⟨rfl,k5,l5,n5⟩
   rw[eY 1 (by omega) (by omega) (by rfl)]
   exact hnext _ _ _ (by omega) ⟨i + 1,rfl,rfl,by omega,k5,l5,n5⟩
  intro J hJ
  rw[lh 16 (by rfl)]
  refine aZ (fun hc=>?_) fun hc=>?_
  ·have Ea:i<16:=of_decide_eq_true hc
   rw[BQ (by omega),hb4.uq (by omega),By,dz,jB]
   refine⟨by decide, ?_⟩
   rw[BQ (by omega),eY 1 (by omega) (by omega) (by rfl),hb4.uq (by omega),By,dz,jB]
   refine⟨by decide, ?_⟩
   rw[cK,BQ (by omega),eY 2 (by omega) (by omega) (by rfl),hb4.uq (by omega),By,dz,jB]
   refine⟨by decide, ?_⟩
   rw[cK,BQ (by omega),eY 3 (by omega) (by omega) (by rfl),hb4.uq (by omega),By,dz,cK,bH rfl (by omega)]
   rw[if_pos Ea] at e
   rw[qf n4 (by omega)]
   refine hJ _ _ ⟨rfl,k4.new _ (Nat.le_refl _),l4, ?_⟩
   rw[aF,← e]
   rfl
  ·have Ea:¬ i<16:=of_decide_eq_false hc
   rw[if_neg Ea] at e
   have ld:∀ (j:Nat),j<i→∀ {K:AV→Prop},ag M4 (.ptr M.next j) K=K (N .u32 ((sched b i).getD j 0)):=fun j hj K=>by
    rw[mP n4 (by omega),Il (by rw[jb]; exact hj)]
   have L15:∀ {K:AV→Prop},ag M4 (.ptr M.next (i - 15)) K=K (N .u32 ((sched b i).getD (i - 15) 0)):=ld _ (by omega)
   have L2:∀ {K:AV→Prop},ag M4 (.ptr M.next (i - 2)) K=K (N .u32 ((sched b i).getD (i - 2) 0)):=ld _ (by omega)
   have L16:∀ {K:AV→Prop},ag M4 (.ptr M.next (i - 16)) K=K (N .u32 ((sched b i).getD (i - 16) 0)):=ld _ (by omega)
   have L7:∀ {K:AV→Prop},ag M4 (.ptr M.next (i - 7)) K=K (N .u32 ((sched b i).getD (i - 7) 0)):=ld _ (by omega)
   rw[yS 15 (by omega) (by omega) (by rfl),bH rfl (by omega),L15,yS 2 (by omega) (by omega) (by rfl),bH rfl (by omega),L2,yS 16 (by omega) (by omega) (by rfl),bH rfl (by omega),L16,yS 7 (by omega) (by omega) (by rfl),bH rfl (by omega),L7,bq,gq]
   refine⟨by decide, ?_⟩
   rw[gq]
   refine⟨by decide, ?_⟩
   refine ht (by decide) ?_
   rw[L16]; refine⟨rfl, ?_⟩
   rw[L7]; refine⟨rfl, ?_⟩
   refine ht (by decide) ?_
   rw[L16]; refine⟨rfl, ?_⟩
   rw[L7]; refine⟨rfl, ?_⟩
   rw[cz,cz,bq]
   refine ht (by decide) ?_
   rw[L16]; refine⟨rfl, ?_⟩
   rw[L7]; refine⟨rfl, ?_⟩
   refine ht (by decide) ?_
   rw[L16]; refine⟨rfl, ?_⟩
   rw[L7]; refine⟨rfl, ?_⟩
   rw[cz,cz,bq,bH rfl (by omega),qf n4 (by omega)]
   refine hJ _ _ ⟨rfl,k4.new _ (Nat.le_refl _),l4, ?_⟩
   rw[aF,← e]
   have ew:FU (sched b i) i=df (df (df ((sched b i).getD (i - 16) 0) ((sched b i).getD (i - 7) 0)) (Wn ((sched b i).getD (i - 15) 0))) (V3 ((sched b i).getD (i - 2) 0)):=by
    unfold FU
    rw[Qr ((sched b i).getD (i - 16) 0)]
   rw[ew]
   rfl
 have jZ:i=64:=by have:=of_decide_eq_false hc; omega
 subst jZ
 clear hnext
 rw[Nat.sub_self,List.replicate_zero,List.append_nil] at n4
 have hwl:=jb b 64
 generalize hwe:sched b 64=w at *
 have hs4:Sl bu M4 hv h:=aO.keep hs k4 (by simp)
 have hk4:Sl bu M4 kv k:=aO.keep hk k4 (by simp)
 rw[OH,aV]
 have k5' : aa [] M4 (M4.push (.row [] false TU 0)):=(aa.refl _ _).push _
 refine pE (E:=bu) (Ow.lit bu M4) (by simp[RM.push]) (by decide) (aO.keep hs4 k5' (by simp)) (by simp; omega) (by simp; omega) fun v5 M5 o5 k5 _ _=>?_
 have k45:aa [] M4 M5:=aa.own k5' k5 (fun x hx=>by simp[ak] at hx; omega)
 rw[List.nil_append] at o5
 have YV:h≠[]:=fun e=>by rw[e] at hhl; cases hhl
 refine aT (fun m ys M6=>∃ (i:Nat) (v:AV),m=64 - i∧ys=[v,N .i64 (i:Int)]∧i≤64∧aa [] M4 M6∧VS M6 M4.next TU v (oz k w h i)) _
  ⟨0,v5,rfl,rfl,by omega,k45,GL o5 YV⟩ ?_
 rintro next m ys M6 hnext ⟨i,v,rfl,rfl,hi,k6,hV⟩
 simp only[aK,eP]
 rw[lh 64 (by rfl)]
 have hk6:Sl bu M6 kv k:=aO.keep hk4 k6 (by simp)
 have n46:=k6.ay n4 l4 (by simp)
 have hrl:=xW k w hhl i
 obtain⟨vb,pp,cap,rfl,nv,hvb,lvb⟩:=hV.ex
 rw[hrl]
 refine aZ (fun hc=>?_) fun hc=>?_
 ·have jZ:i<64:=of_decide_eq_true hc
  have hstep:oz k w h (i + 1)=Ml (oz k w h i) (k.getD i 0) (w.getD i 0):=rfl
  obtain⟨va,vb',vc,vd,ve,vf,vg,vh,hv'⟩:=eight hrl
  rw[hv'] at nv hstep
  have hrow:bu.row [va,vb',vc,vd,ve,vf,vg,vh]=[N .u32 va,N .u32 vb',N .u32 vc,N .u32 vd,N .u32 ve,N .u32 vf,N .u32 vg,N .u32 vh]:=rfl
  rw[hrow] at nv
  have I0:∀ {K:AV→Prop},bf (.slc vb 0 8 cap) (N .i64 0) 1 K=K (.ptr vb 0):=vG rfl (by omega)
  have I1:∀ {K:AV→Prop},bf (.slc vb 0 8 cap) (N .i64 1) 1 K=K (.ptr vb 1):=vG rfl (by omega)
  have I2:∀ {K:AV→Prop},bf (.slc vb 0 8 cap) (N .i64 2) 1 K=K (.ptr vb 2):=vG rfl (by omega)
  have I3:∀ {K:AV→Prop},bf (.slc vb 0 8 cap) (N .i64 3) 1 K=K (.ptr vb 3):=vG rfl (by omega)
  have I4:∀ {K:AV→Prop},bf (.slc vb 0 8 cap) (N .i64 4) 1 K=K (.ptr vb 4):=vG rfl (by omega)
  have I5:∀ {K:AV→Prop},bf (.slc vb 0 8 cap) (N .i64 5) 1 K=K (.ptr vb 5):=vG rfl (by omega)
  have I6:∀ {K:AV→Prop},bf (.slc vb 0 8 cap) (N .i64 6) 1 K=K (.ptr vb 6):=vG rfl (by omega)
  have I7:∀ {K:AV→Prop},bf (.slc vb 0 8 cap) (N .i64 7) 1 K=K (.ptr vb 7):=vG rfl (by omega)
  have L0:∀ {K:AV→Prop},ag M6 (.ptr vb 0) K=K (N .u32 va):=aG nv rfl
  have L1:∀ {K:AV→Prop},ag M6 (.ptr vb 1) K=K (N .u32 vb'):=aG nv rfl
  have L2:∀ {K:AV→Prop},ag M6 (.ptr vb 2) K=K (N .u32 vc):=aG nv rfl
  have L3:∀ {K:AV→Prop},ag M6 (.ptr vb 3) K=K (N .u32 vd):=aG nv rfl
  have L4:∀ {K:AV→Prop},ag M6 (.ptr vb 4) K=K (N .u32 ve):=aG nv rfl
  have L5:∀ {K:AV→Prop},ag M6 (.ptr vb 5) K=K (N .u32 vf):=aG nv rfl
  have L6:∀ {K:AV→Prop},ag M6 (.ptr vb 6) K=K (N .u32 vg):=aG nv rfl
  have L7:∀ {K:AV→Prop},ag M6 (.ptr vb 7) K=K (N .u32 vh):=aG nv rfl
  obtain⟨kc,ko,_,Ik,hkc⟩:=PI hk6 (i:=i) (by omega)
  have Iw:∀ {K:AV→Prop},bB (.ptr M.next 0) (N .i64 (i:Int)) 64 1 K=K (.ptr M.next i):=bH rfl jZ
  have Lk:∀ {K:AV→Prop},ag M6 (.ptr kc ko) K=K (N .u32 (k.getD i 0)):=oG hkc
  have Lw:∀ {K:AV→Prop},ag M6 (.ptr M.next i) K=K (N .u32 (w.getD i 0)):=mP n46 (by omega)
  simp only[I0,I1,I2,I3,I4,I5,I6,I7,L0,L1,L2,L3,L4,L5,L6,L7,Ik,Iw,Lk,Lw,di,cK,cz,bq,fJ,true_and]
  refine ht (by decide) ?_
  simp only[I0,I1,I2,I3,I4,I5,I6,I7,L0,L1,L2,L3,L4,L5,L6,L7,Ik,Iw,Lk,Lw,di,cK,cz,bq,fJ,true_and]
  refine ht (by decide) ?_
  simp only[I0,I1,I2,I3,I4,I5,I6,I7,L0,L1,L2,L3,L4,L5,L6,L7,Ik,Iw,Lk,Lw,di,cK,cz,bq,fJ,true_and]
  refine ht (by decide) ?_
  simp only[I0,I1,I2,I3,I4,I5,I6,I7,L0,L1,L2,L3,L4,L5,L6,L7,Ik,Iw,Lk,Lw,di,cK,cz,bq,fJ,true_and]
  refine ht (by decide) ?_
  simp only[I0,I1,I2,I3,I4,I5,I6,I7,L0,L1,L2,L3,L4,L5,L6,L7,Ik,Iw,Lk,Lw,di,cK,cz,bq,fJ,true_and]
  refine ht (by decide) ?_
  simp only[I0,I1,I2,I3,I4,I5,I6,I7,L0,L1,L2,L3,L4,L5,L6,L7,Ik,Iw,Lk,Lw,di,cK,cz,bq,fJ,true_and]
  refine ht (by decide) ?_
  simp only[I0,I1,I2,I3,I4,I5,I6,I7,L0,L1,L2,L3,L4,L5,L6,L7,Ik,Iw,Lk,Lw,di,cK,cz,bq,fJ,true_and]
  rw[WG,vW,show(IntKind.i64.wrap ((i:Int) + 1))=((i + 1:Nat) : Int) from oP (by omega)]
  have k7:aa [] M6 (M6.push (.row (bu.row (Ml [va,vb',vc,vd,ve,vf,vg,vh] (k.getD i 0) (w.getD i 0))) false TU 0)):=(aa.refl _ _).push _
  refine hnext _ _ (M6.push (.row (bu.row (Ml [va,vb',vc,vd,ve,vf,vg,vh] (k.getD i 0) (w.getD i 0))) false TU 0)) (by omega) ⟨i + 1,.slc M6.next 0 8 (.ex 8),rfl,rfl,by omega,k6.trans k7, ?_⟩
  rw[hstep]
  refine⟨M6.next,false,.ex 8,by rw[Mk rfl],by simp[RM.push],k6.next,by simp[RM.push]⟩
 have jZ:i=64:=by have:=of_decide_eq_false hc; omega
 subst jZ
 clear hnext
 have hbf:kL h k b=List.zipWith df h (oz k w h 64):=by
  unfold kL
  rw[hwe]
 rw[hbf] at hQ
 generalize oz k w h 64=v at *
 have k46:=k4.trans k6
 have n4x:=k4.next
 have hs6:Sl bu M6 hv h:=aO.keep hs k46 (by simp)
 have hnv:∀ x∈ak hv,x ∉ [vb]:=fun x hx hm=>by
  have:=aO.lt hs x hx
  simp at hm; omega
 refine aT (fun m ys M7=>∃ j:Nat,m=8 - j∧ys=[N .i64 (j:Int)]∧j≤8∧aa [vb] M6 M7∧M7.heap vb=some (.row (bu.row ((List.zipWith df h v).take j++v.drop j)) pp TU 0)) _
  ⟨0,rfl,rfl,by omega,aa.refl _ _,by rw[List.take_zero,List.drop_zero]; exact nv⟩ ?_
 rintro next m ys M7 hnext ⟨j,rfl,rfl,hj,k7,s7⟩
 simp only[aK]
 rw[lh 8 (by rfl)]
 have hs7:Sl bu M7 hv h:=aO.keep hs6 k7 hnv
 have zc:List.zipWith df h v=List.zipWith df v h:=List.zipWith_comm_of_comm Pq
 rw[zc] at s7
 refine aZ (fun hc=>?_) fun hc=>?_
 ·have hj8:j<8:=of_decide_eq_true hc
  have hl7:=MN (v:=h) (h:=v) (Nat.le_of_lt hj8) hrl hhl
  rw[vG rfl (by omega),Uw s7 (by omega),ER hs7 (by omega),bq,vG rfl (by omega),QX s7 (by omega),eY 1 (by omega) (by omega) (by rfl)]
  refine hnext _ _ _ (by omega) ⟨j + 1,rfl,rfl,by omega,k7.put _ (.inr (by simp)), ?_⟩
  rw[aF,MC hj8 hrl hhl,zc,← Kl hj8 hrl hhl]
  rfl
 ·have hj8:j=8:=by have:=of_decide_eq_false hc; omega
  subst hj8
  have hzl:(List.zipWith df v h).length=8:=by rw[List.length_zipWith,hrl,hhl]; rfl
  rw[List.drop_of_length_le (by omega),List.append_nil,List.take_of_length_le (by omega),← zc] at s7
  have Yt:(List.zipWith df h v).length=8:=by rw[zc]; exact hzl
  exact hQ _ M7 (yP k46 k7 (by omega)) ⟨vb,pp,cap,by rw[Yt],s7,by omega,Nat.lt_of_lt_of_le lvb k7.next⟩
def Gt (TU:Nat) (c:au) : Prop:=∀ {M:RM} {Q:ah},(∀ hv kv M',aa [] M M'→VS M' M.next TU hv hW→VS M' M.next TU kv kW→Q (.tup [hv,kv]) M')→c [] M Q
theorem LK {T32 TU T8:Nat} {cc cb:au} (hc:Gt TU cc) (hB:KY TU cb) : DT fun args M Q=>∃ a0,args=[a0]∧yF T32 cc T8 cb a0 M Q:=by
 intro M v b Q hv hl hQ
 refine⟨_,rfl, ?_⟩
 unfold yF
 refine eU (BY.row (List.replicate 32 0)) fun M1 k1 n1 e1=>?_
 refine hc fun hv2 kv M2 k2 hH hK=>?_
 simp only[dm,dQ]
 have k02:=k1.trans k2
 rw[OH,aV]
 have k3' : aa [] M2 (M2.push (.row [] false T8 0)):=(aa.refl _ _).push _
 have V5:=hv.keep k02 (by simp)
 refine pE (E:=BY) (Ow.lit BY M2) (by simp[RM.push]) (by decide) (V5.keep k3' (by simp)).sl (by simp; omega) (by simp; omega) fun v3 M3 o3 k3 _ _=>?_
 have k23:aa [] M2 M3:=aa.own k3' k3 (fun x hx=>by simp[ak] at hx; omega)
 rw[List.nil_append] at o3
 rw[kF (by rfl) (by rfl) (by rfl),aV]
 refine iN (E:=BY) (a:=(128:UInt8)) o3 k23.next (by decide) (by omega) (by omega) fun v4 M4 o4 k4 _ _=>?_
 have k24:aa [] M2 M4:=aa.own k23 k4 (fun x hx=>(Own.blk o3 x hx).1)
 have hzp:zp b.length<64:=Nat.mod_lt _ (by decide)
 have hz:(b.length + 1 + zp b.length) % 64=56:=by unfold zp; omega
 refine aT (fun m ys M10=>∃ (i:Nat) (rv:AV),m=zp b.length - i∧ys=[rv]∧i≤zp b.length∧aa [] M2 M10∧Ow BY M10 M2.next T8 rv (b++128 :: List.replicate i 0)) _
  ⟨0,v4,rfl,rfl,by omega,k24,o4⟩ ?_
 rintro next m ys M10 hnext ⟨i,rv,rfl,rfl,hi,k10,o10⟩
 simp only[aK]
 have hrl:(b++128 :: List.replicate i 0).length=b.length + 1 + i:=by simp; omega
 rw[aO.len (Own.lN o10),hrl,tF]
 refine⟨by decide, ?_⟩
 rw[show(((b.length + 1 + i:Nat) : Int)).tmod 64=(((b.length + 1 + i) % 64:Nat) : Int) by rw[Int.natCast_emod]; exact Int.tmod_eq_emod_of_nonneg (by omega),dH]
 refine aZ (fun hc=>?_) fun hc=>?_
 ·have hne:(b.length + 1 + i) % 64≠56:=fun e=>by rw[e] at hc; cases hc
  have hlt:i<zp b.length:=by
   rcases Nat.lt_or_ge i (zp b.length) with h | h
   ·exact h
   ·have:i=zp b.length:=by omega
    subst this; exact absurd hz hne
  rw[kF (by rfl) (by rfl) (by rfl),aV]
  refine iN (E:=BY) (a:=(0:UInt8)) o10 k10.next (by decide) (by omega) (by omega) fun v11 M11 o11 k11 _ _=>?_
  refine hnext _ _ _ (by omega) ⟨i + 1,v11,rfl,rfl,by omega,aa.own k10 k11 (fun x hx=>(Own.blk o10 x hx).1), ?_⟩
  have e:b++128 :: List.replicate (i + 1) 0=b++128 :: List.replicate i 0++[0]:=by rw[List.replicate_succ']; simp
  rw[e]; exact o11
 have Yu:(b.length + 1 + i) % 64=56:=by
  have:((((b.length + 1 + i) % 64:Nat) : Int) != 56)=false:=hc
  have:=bne_eq_false_iff_eq.1 this
  omega
 have hiz:i=zp b.length:=by omega
 subst hiz
 clear hnext
 have ZI:=V5.keep k10 (by simp)
 rw[ZI.len,dz,bS (by omega) (by omega),fE,bS (by omega) (by omega),show((b.length:Int) * 8)=((8 * b.length:Nat) : Int) by omega]
 generalize hpre:b++128 :: List.replicate (zp b.length) 0=P at *
 refine aT (fun m ys M11=>∃ (i:Nat) (rv:AV),m=8 - i∧ys=[rv,N .i64 (7 - (i:Int))]∧i≤8∧aa [] M2 M11∧Ow BY M11 M2.next T8 rv (P++(kg b.length).take i)) _
  ⟨0,rv,rfl,rfl,by omega,k10,by rw[List.take_zero,List.append_nil]; exact o10⟩ ?_
 rintro next m ys M11 hnext ⟨i,rv2,rfl,rfl,hi,k11,o11⟩
 simp only[aK,eP]
 have hll:((kg b.length).take i).length=i:=by rw[List.length_take]; simp[kg]; omega
 have hpl:(P++(kg b.length).take i).length=b.length + 1 + zp b.length + i:=by rw[List.length_append,hrl,hll]
 rw[jQ]
 refine aZ (fun hc=>?_) fun hc=>?_
 ·have hi8:i<8:=by have:=of_decide_eq_true hc; omega
  rw[fE,aM (by omega) (by omega),dz,bS (by omega) (by omega),gq]
  refine⟨by omega, ?_⟩
  rw[dz,show(8 * (7 - (i:Int)))=((56 - 8 * i:Nat) : Int) by omega,Cr,kF (by rfl) (by rfl) (by rfl),aV]
  refine iN (E:=BY) (a:=CV (iL .u64 ((8 * b.length:Nat) : Int) ((56 - 8 * i:Nat) : Int))) o11 k11.next (by decide) (by omega) (by omega) fun v12 M12 o12 k12 _ _=>?_
  rw[fM,aM (by omega) (by omega)]
  refine hnext _ _ _ (by omega) ⟨i + 1,v12,rfl,by congr 2; congr 1; omega,by omega,aa.own k11 k12 (fun x hx=>(Own.blk o11 x hx).1), ?_⟩
  rw[KZ hi8,← List.append_assoc]
  exact o12
 have hi8:i=8:=by have:=of_decide_eq_false hc; omega
 subst hi8
 clear hnext
 rw[List.take_of_length_le (by simp[kg])] at o11 hpl
 have hfull:P++kg b.length=b++qA b.length:=by rw[← hpre]; simp[qA]
 rw[hfull] at o11 hpl
 have hrest:(b++qA b.length).length=b.length + 9 + zp b.length:=by rw[hpl]; omega
 have Og:rR b=jm (bR kW ((b.length + 9 + zp b.length) / 64) hW (b++qA b.length)):=rfl
 generalize hRe:b++qA b.length=R at *
 obtain⟨n,hn⟩ : ∃ n,b.length + 9 + zp b.length=64 * n:=⟨(b.length + 9 + zp b.length) / 64,by omega⟩
 rw[hn] at hrest
 rw[hn,Nat.mul_div_cancel_left _ (by decide)] at Og
 have Sq:=Bs.own o11
 refine aT (fun m ys M12=>∃ (i:Nat) (w:AV),m=n - i∧ys=[w,N .i64 ((i * 64:Nat) : Int)]∧i≤n∧aa [] M11 M12∧VS M12 M1.next TU w (bR kW i hW R)) _
  ⟨0,hv2,rfl,rfl,by omega,aa.refl _ _,hH.keep k11⟩ ?_
 rintro next m ys M12 hnext ⟨i,w,rfl,rfl,hi,k12,hw⟩
 simp only[aK,eP]
 have Jp:=Sq.keep k12 (by simp)
 have Yi:=(hK.keep k11).keep k12
 have hFl:(bR kW i hW R).length=8:=mg Fj
 rw[Jp.len,lU]
 refine aZ (fun hc=>?_) fun hc=>?_
 ·have hin:i<n:=by have:=of_decide_eq_true hc; omega
  rw[eY 64 (by omega) (by omega) (by rfl)]
  refine Jp.sub (BF _ _ _) (BF _ _ _) (by omega) (by omega) fun v13 h13 Yz=>?_
  rw[show i * 64 + 64 - i * 64=64 by omega] at h13
  refine hB hw.sl hFl Yi.sl AR h13 (by rw[List.length_take,List.length_drop]; omega) fun v14 M13 k13 h14=>?_
  rw[eY 64 (by omega) (by omega) (by rfl),show i * 64 + 64=(i + 1) * 64 by omega]
  refine hnext _ _ _ (by omega) ⟨i + 1,v14,rfl,rfl,by omega,k12.trans k13, ?_⟩
  rw[uf,Nat.mul_comm 64]
  exact h14.mono (Nat.le_trans k2.next (Nat.le_trans k11.next k12.next))
 have hin:i=n:=by have:=of_decide_eq_false hc; omega
 subst hin
 clear hnext
 generalize bR kW i hW R=F at *
 have hdF:=EB F
 have QP:=k11.trans k12
 have n112:=(k2.trans QP).ay n1 (by omega) (by simp)
 have QS:M.next<M12.next:=Nat.lt_of_lt_of_le (by omega:M.next<M1.next) (k2.trans QP).next
 refine eU (BY.row (List.replicate 32 0)) fun M14 k14 n14' e14=>?_
 have n14:M14.heap M12.next=some (.row (BY.row ((jm F).take 0++List.replicate (32 - 0) 0)) false T32 0):=n14'
 refine aT (fun m ys M15=>∃ i:Nat,m=32 - i∧ys=[N .i64 (i:Int)]∧i≤32∧aa [] M12 M15∧M12.next<M15.next∧M15.heap M12.next=some (.row (BY.row ((jm F).take i++List.replicate (32 - i) 0)) false T32 0)) _
  ⟨0,rfl,rfl,by omega,k14,by omega,n14⟩ ?_
 rintro next m ys M15 hnext ⟨i',rfl,rfl,hi',k15,SH,n15'⟩
 simp only[aK]
 have X4:=hw.keep k15
 rw[lh 32 (by rfl)]
 refine aZ (fun hc=>?_) fun hc=>?_
 ·have jC:i'<32:=of_decide_eq_true hc
  rw[yN]
  refine⟨by decide, ?_⟩
  rw[show IntKind.i64.wrap (((i' : Nat) : Int).tdiv 4)=((i' / 4:Nat) : Int) by
   rw[show((i' : Nat) : Int).tdiv 4=((i' / 4:Nat) : Int) by rw[Int.natCast_ediv]; exact Int.tdiv_eq_ediv_of_nonneg (by omega)]
   exact aM (by omega) (by omega)]
  rw[ER X4.sl (by omega),tF]
  refine⟨by decide, ?_⟩
  rw[show(((i' : Nat) : Int)).tmod 4=((i' % 4:Nat) : Int) by rw[Int.natCast_emod]; exact Int.tmod_eq_emod_of_nonneg (by omega),fE,aM (by omega) (by omega),fM,aM (by omega) (by omega),dz,bS (by omega) (by omega),gq]
  refine⟨by omega, ?_⟩
  rw[dz,Cr,bH rfl jC,show(24 - 8 * ((i' % 4:Nat) : Int))=((24 - 8 * (i' % 4) : Nat) : Int) by omega]
  have hget:(jm F)[i']?=some (CV (iL .u32 (F.getD (i' / 4) 0) ((24 - 8 * (i' % 4) : Nat) : Int))):=by
   simp[jm,jC]
  have hset:=K7 jC hdF hget
  have U4:((jm F).take i'++List.replicate (32 - i') 0).length=32:=by rw[List.length_append,List.length_take,List.length_replicate]; omega
  rw[fP (BY.row ((jm F).take (i' + 1)++List.replicate (32 - (i' + 1)) 0)) n15' (by rw[fu]; omega) rfl rfl (by rw[← hset,mr,mr,List.map_set]),eY 1 (by omega) (by omega) (by rfl)]
  exact hnext _ _ _ (by omega) ⟨i' + 1,rfl,rfl,by omega,k15.new _ (Nat.le_refl _),SH,aF _⟩
 ·have jC:i'=32:=by have:=of_decide_eq_false hc; omega
  subst jC
  have e:(jm F).take 32++List.replicate (32 - 32) 0=jm F:=by rw[List.take_of_length_le (by omega)]; simp
  rw[e] at n15'
  have n115:=k15.ay n112 QS (by simp)
  rw[dM n15' (by rw[fu,hdF]),jT n115 (by rw[fu,hdF]) (by rw[fu,List.length_replicate]) (BY.bX _),dM (aF _) (by rw[fu,hdF]),← Og]
  exact hQ _ ((k02.trans (QP.trans k15)).new _ (Nat.le_refl _))
def H6 (n:Nat) : Bool:=(List.range n).all fun d=>!(decide (2≤d) && decide (d * d≤n) && decide (n % d=0))
def KI (c:au) : Prop:=∀ {M:RM} {n:Nat} {Q:ah},2≤n→n<100000→Q (Bo (H6 n)) M→c [N .i64 (n:Int)] M Q
theorem O0:KI fun args M Q=>∃ a0,args=[a0]∧sj a0 M Q:=by
 intro M n Q h2 hn hQ
 refine⟨_,rfl, ?_⟩
 unfold sj
 refine aT (fun m ys M3=>∃ d:Nat,m=1000 - d∧ys=[N .i64 (d:Int)]∧2≤d∧d<1000∧(∀ e,2≤e→e<d→n % e≠0)∧M3=M) _ ⟨2,rfl,rfl,by omega,by omega,fun e h1 h2=>by omega,rfl⟩ ?_
 rintro next m ys M3 hnext ⟨d,rfl,rfl,hd2,hdl,hne,rfl⟩
 simp only[aK]
 have hdd:d * d≤999 * 999:=Nat.mul_le_mul (by omega) (by omega)
 rw[fE,show((d:Int) * (d:Int))=((d * d:Nat) : Int) by rw[Int.natCast_mul],aM (by omega) (by omega),Y0]
 refine aZ (fun hc=>?_) fun hc=>?_
 ·have hc:=of_decide_eq_true hc
  rw[tF]
  refine⟨by omega, ?_⟩
  rw[show((n:Int)).tmod (d:Int)=((n % d:Nat) : Int) by rw[Int.natCast_emod]; exact Int.tmod_eq_emod_of_nonneg (by omega),show(N .i64 0)=N .i64 ((0:Nat) : Int) from rfl,Ye]
  have hdn:d<n:=by
   have:d * 2≤d * d:=Nat.mul_le_mul_left d hd2
   omega
  refine aZ (fun h=>?_) fun h=>?_
  ·have h:=of_decide_eq_true h
   have:H6 n=false:=by
    unfold H6
    rw[List.all_eq_false]
    refine⟨d,List.mem_range.2 hdn, ?_⟩
    simp[hd2,hc,h]
   rw[← this]; exact hQ
  ·have h:=of_decide_eq_false h
   have hd316:d<400:=by
    rcases Nat.lt_or_ge d 400 with h | h
    ·exact h
    ·have:=Nat.mul_le_mul h h; omega
   rw[add1 (by omega)]
   refine hnext _ _ _ (by omega) ⟨d + 1,rfl,rfl,by omega,by omega,fun e h1 h3=>?_,rfl⟩
   rcases Nat.lt_or_ge e d with h4 | h4
   ·exact hne e h1 h4
   ·have:e=d:=by omega
    rw[this]; exact h
 ·have hc:=of_decide_eq_false hc
  rw[lg,show decide ((n:Int) > 1)=true from decide_eq_true (by omega)]
  have:H6 n=true:=by
   unfold H6
   rw[List.all_eq_true]
   intro e he
   by_cases h1:2≤e
   ·by_cases h3:e * e≤n
    ·have hed:e<d:=by
      rcases Nat.lt_or_ge e d with h | h
      ·exact h
      ·have:=Nat.mul_le_mul h h; omega
     have:=hne e h1 hed
     simp[this]
    ·simp[h3]
   ·simp[h1]
  rw[← this]; exact hQ
def pl (i:Nat) : List Nat:=(List.range i).filter fun n=>decide (2≤n) && H6 n
def jH:List Nat:=[2,3,5,7,11,13,17,19,23,29,31,37,41,43,47,53,59,61,67,71,73,79,83,89,97,101,103,107,109,113,127,131,137,139,149,151,157,163,167,173,179,181,191,193,197,199,211,223,227,229,233,239,241,251,257,263,269,271,277,281,283,293,307,311]
theorem Ql:pl 312=jH:=by decide +kernel
theorem wU:jH.length=64:=by decide
theorem MP {i:Nat} (h:2≤i) : pl (i + 1)=pl i++(if H6 i=true then[i] else[]):=by
 unfold pl
 rw[List.range_succ,List.filter_append]
 congr 1
 cases hp:H6 i <;> simp[hp,h]
theorem Vu {i:Nat} (h:i≤312) : pl i <+: jH:=by
 rw[← Ql]
 unfold pl
 have:List.range i <+: List.range 312:=by
  rw[show 312=i + (312 - i) by omega,List.range_add]
  exact List.prefix_append _ _
 exact this.filter _
def Hu:Enc Nat:=⟨1,fun n=>[N .i64 (n:Int)],fun _=>rfl,fun _=>rfl⟩
def Gs (TI:Nat) (c:au) : Prop:=∀ {M:RM} {Q:ah},(∀ v' M',aa [] M M'→Sl Hu M' v' jH→Q v' M')→c [N .i64 64] M Q
theorem LC {TI:Nat} {cp:au} (hp:KI cp) : Gs TI fun args M Q=>∃ a0,args=[a0]∧qx TI cp a0 M Q:=by
 intro M Q hQ
 refine⟨_,rfl, ?_⟩
 unfold qx
 refine Jg ?_
 show aW _ _ _ _
 rw[aV]
 have k0:aa [] M (M.push (.row [] false TI 0)):=(aa.refl _ _).push _
 refine aT (fun m ys M3=>∃ (i:Nat) (v:AV),m=312 - i∧ys=[v,N .i64 (i:Int)]∧2≤i∧i≤312∧aa [] M M3∧Ow Hu M3 M.next TI v (pl i)) _ ⟨2,_,rfl,rfl,by omega,by omega,k0,Ow.lit Hu M⟩ ?_
 rintro next m ys M3 hnext ⟨i,v,rfl,rfl,hi2,hi,k3,o3⟩
 simp only[aK,eP]
 have hpre:=Vu hi
 have hle:=hpre.length_le
 rw[wU] at hle
 rw[aO.len (Own.lN o3),show(N .i64 64)=N .i64 ((64:Nat) : Int) from rfl,lU]
 refine aZ (fun hc=>?_) fun hc=>?_
 ·have hc:=of_decide_eq_true hc
  have hi312:i<312:=by
   rcases Nat.lt_or_ge i 312 with h | h
   ·exact h
   ·have:i=312:=by omega
    subst this
    rw[Ql,wU] at hc
    omega
  rw[fF]
  refine fK (fun xs M4=>∃ v',xs=[v']∧aa [] M M4∧Ow Hu M4 M.next TI v' (pl (i + 1))) ?_ ?_
  ·rintro xs M4 ⟨v',rfl,k4,o4⟩
   simp only[aK]
   rw[add1 (by omega)]
   exact hnext _ _ _ (by omega) ⟨i + 1,v',rfl,rfl,by omega,by omega,k4,o4⟩
  ·intro J hJ
   refine hp hi2 (by omega) ?_
   refine aZ (fun h=>?_) fun h=>?_
   ·rw[kF (by rfl) (by rfl) (by rfl),aV]
    refine iN (E:=Hu) (a:=i) o3 k3.next (by decide) (by omega) (by omega) fun v4 M4 o4 k4 _ _=>?_
    refine hJ _ _ ⟨v4,rfl,aa.own k3 k4 (fun x hx=>(Own.blk o3 x hx).1), ?_⟩
    rw[MP hi2,if_pos h]; exact o4
   ·refine hJ _ _ ⟨v,rfl,k3, ?_⟩
    rw[MP hi2,if_neg (by rw[h]; decide),List.append_nil]; exact o3
 ·have hc:=of_decide_eq_false hc
  have:pl i=jH:=hpre.eq_of_length (by rw[wU]; omega)
  rw[this] at o3
  exact hQ v M3 k3 (Own.lN o3)
def val:List Nat→Nat
 | []=>0
 | x :: xs=>x + 65536 * val xs
theorem G8:∀ (l r:List Nat),val (l++r)=val l + 65536 ^ l.length * val r
 | [],r=>by simp[val]
 | x :: l,r=>by
   rw[List.cons_append,val,G8 l r,val,List.length_cons,Nat.pow_succ,Nat.mul_add,Nat.mul_comm (65536 ^ l.length) 65536,Nat.mul_assoc]
   omega
theorem xL {l:List Nat} {i:Nat} (h:i<l.length) : val (l.take (i + 1))=val (l.take i) + 65536 ^ i * l.getD i 0:=by
 have hl:(l.take i).length=i:=by rw[List.length_take]; omega
 rw[List.take_succ_eq_append_getElem h,G8,hl]
 simp[val,List.getD,h]
theorem Bg {l:List Nat} (i:Nat) (h:i≤l.length) : val l=val (l.take i) + 65536 ^ i * val (l.drop i):=by
 have hl:(l.take i).length=i:=by rw[List.length_take]; omega
 conv=>lhs; rw[← List.take_append_drop i l,G8,hl]
theorem Gl:∀ {l:List Nat} {i:Nat} (x:Nat),i<l.length→val (l.set i x) + 65536 ^ i * l.getD i 0=val l + 65536 ^ i * x
 | [],i,x,h=>by simp at h
 | y :: l,0,x,h=>by simp[val]; omega
 | y :: l,i + 1,x,h=>by
   have ih:=Gl (l:=l) (i:=i) x (by simpa using h)
   rw[List.set_cons_succ,val,val,Nat.pow_succ,show(y :: l).getD (i + 1) 0=l.getD i 0 from rfl]
   have e1:65536 ^ i * 65536 * l.getD i 0=65536 * (65536 ^ i * l.getD i 0):=by rw[Nat.mul_comm (65536 ^ i) 65536,Nat.mul_assoc]
   have e2:65536 ^ i * 65536 * x=65536 * (65536 ^ i * x):=by rw[Nat.mul_comm (65536 ^ i) 65536,Nat.mul_assoc]
   rw[e1,e2]
   generalize 65536 ^ i * l.getD i 0=p at *
   generalize 65536 ^ i * x=q at *
   omega
def qH (l:List Nat) : Prop:=l.length=8∧∀ x∈l,x<65536
theorem Jo:∀ {l:List Nat},(∀ x∈l,x<65536)→val l<65536 ^ l.length
 | [],_=>by simp[val]
 | x :: l,h=>by
   have h1:=Jo (l:=l) fun y hy=>h y (List.mem_cons_of_mem _ hy)
   have h2:=h x List.mem_cons_self
   rw[val,List.length_cons,Nat.pow_succ,Nat.mul_comm (65536 ^ l.length) 65536]
   have:65536 * (val l + 1)≤65536 * 65536 ^ l.length:=Nat.mul_le_mul_left _ h1
   rw[Nat.mul_add] at this
   omega
theorem getD_lt {l:List Nat} (h:∀ x∈l,x<65536) (i:Nat) : l.getD i 0<65536:=by
 rw[List.getD_eq_getElem?_getD]
 rcases hi:l[i]? with _ | x
 ·show 0<65536; decide
 ·exact h x (List.mem_of_getElem? hi)
def dR:Enc Nat:=⟨1,fun n=>[N .u64 (n:Int)],fun _=>rfl,fun _=>rfl⟩
theorem mW (xs:List Nat) : dR.row xs=xs.map (fun n:Nat=>N .u64 (n:Int)):=by
 induction xs with
 | nil=>rfl
 | cons x xs ih=>rw[Enc.gu,ih]; rfl
theorem dE (xs:List Nat) : (dR.row xs).length=xs.length:=by rw[mW,List.length_map]
section
variable {M:RM} {b T:Nat} {ws:List Nat}
theorem sK (h:M.heap b=some (.row (dR.row ws) false T 0)) {i:Nat} (hi:i<ws.length) {K:AV→Prop} : ag M (.ptr b i) K=K (N .u64 (ws.getD i 0:Nat)):=by
 refine aG h ?_
 rw[mW,List.getElem?_map,List.getElem?_eq_getElem hi]
 simp[List.getD,hi]
theorem BK (h:M.heap b=some (.row (dR.row ws) false T 0)) {i:Nat} (hi:i<ws.length) (x:Nat) {K:RM→Prop} : aR M (.ptr b i) (N .u64 (x:Int)) 1 K=K (M.put b (.row (dR.row (ws.set i x)) false T 0)):=by
 refine fP _ h (by rw[dE]; exact hi) rfl rfl ?_
 rw[mW,mW,List.map_set]
end
theorem Ol {n:Nat} (h:n<18446744073709551616) : oD .u64 (n:Int) 65535=((n % 65536:Nat) : Int):=by
 unfold oD
 have e:(BitVec.ofInt IntKind.u64.bits (n:Int) &&& BitVec.ofInt IntKind.u64.bits 65535).toNat=n % 65536:=by
  show(BitVec.ofInt 64 (n:Int) &&& BitVec.ofInt 64 65535).toNat=_
  rw[BitVec.toNat_and,BitVec.ofInt_natCast,BitVec.toNat_ofNat,Nat.mod_eq_of_lt (show n<2 ^ 64 by omega)]
  have:(BitVec.ofInt 64 65535).toNat=2 ^ 16 - 1:=by decide
  rw[this,Nat.and_two_pow_sub_one_eq_mod]
 rw[e,bS (by omega) (by omega)]
theorem Nf {n k:Nat} (hk:k<64) : iL .u64 (n:Int) (k:Int)=((n / 2 ^ k:Nat) : Int):=by
 unfold iL
 have:min (Int.toNat (k:Int)) IntKind.u64.bits=k:=by
  rw[Int.toNat_natCast]; exact Nat.min_eq_left (Nat.le_of_lt hk)
 rw[this]
 rw[show((2:Int) ^ k)=((2 ^ k:Nat) : Int) by rw[Int.natCast_pow]; rfl,Int.fdiv_eq_ediv_of_nonneg _ (Int.natCast_nonneg _)]
 rfl
def JX (c:au) : Prop:=∀ {M:RM} {a b:List Nat} {Q:ah},qH a→qH b→(∀ M',aa [] M M'→Q (Bo (decide (val a > val b))) M')→c [.agg (dR.row a),.agg (dR.row b)] M Q
theorem Qq {a b:List Nat} (ha:qH a) (hb:qH b) {i:Nat} (hi:i<8) (he:a.drop (i + 1)=b.drop (i + 1)) (hne:a.getD i 0≠b.getD i 0) : decide (val a > val b)=decide (a.getD i 0 > b.getD i 0):=by
 have ea:=Bg (l:=a) (i + 1) (by rw[ha.1]; omega)
 have eb:=Bg (l:=b) (i + 1) (by rw[hb.1]; omega)
 rw[xL (by rw[ha.1]; exact hi)] at ea
 rw[xL (by rw[hb.1]; exact hi),← he] at eb
 have la:=Jo (l:=a.take i) fun x hx=>ha.2 x (List.mem_of_mem_take hx)
 have lb:=Jo (l:=b.take i) fun x hx=>hb.2 x (List.mem_of_mem_take hx)
 rw[List.length_take,ha.1,Nat.min_eq_left (by omega)] at la
 rw[List.length_take,hb.1,Nat.min_eq_left (by omega)] at lb
 generalize 65536 ^ (i + 1) * val (a.drop (i + 1))=R at *
 generalize a.getD i 0=x at *
 generalize b.getD i 0=y at *
 rw[decide_eq_decide]
 have m1:x<y→65536 ^ i * (x + 1)≤65536 ^ i * y:=fun h=>Nat.mul_le_mul_left _ h
 have m2:y<x→65536 ^ i * (y + 1)≤65536 ^ i * x:=fun h=>Nat.mul_le_mul_left _ h
 rw[Nat.mul_add,Nat.mul_one] at m1 m2
 generalize 65536 ^ i * x=X at *
 generalize 65536 ^ i * y=Y at *
 omega
theorem Oc {T:Nat} : JX fun args M Q=>∃ a0 a1,args=[a0,a1]∧rZ T a0 a1 M Q:=by
 intro M a b Q ha hb hQ
 refine⟨_,_,rfl, ?_⟩
 unfold rZ
 rw[kK (dR.bX a) (by rw[dE,ha.1]; omega)]
 refine eU _ fun M1 k1 n1 e1=>?_
 rw[kK (dR.bX b) (by rw[dE,hb.1]; omega)]
 refine eU _ fun M2 k2 n2 e2=>?_
 have n12:=k2.ay n1 (by omega) (by simp)
 have k02:=k1.trans k2
 refine aT (fun m ys M3=>∃ c:Nat,m=9 - c∧ys=[N .i64 (7 - (c:Int))]∧c≤8∧a.drop (8 - c)=b.drop (8 - c)∧M3=M2) _ ⟨0,rfl,rfl,by omega,by rw[List.drop_of_length_le (by rw[ha.1]; omega),List.drop_of_length_le (by rw[hb.1]; omega)],rfl⟩ ?_
 rintro next m ys M3 hnext ⟨c,rfl,rfl,hc,he,rfl⟩
 simp only[aK]
 rw[jQ]
 refine aZ (fun h=>?_) fun h=>?_
 ·have hc8:c<8:=by have:=of_decide_eq_true h; omega
  have hi:(7 - (c:Int))=((7 - c:Nat) : Int):=by omega
  rw[hi]
  have Ia:∀ {K:AV→Prop},bB (.ptr M.next 0) (N .i64 ((7 - c:Nat) : Int)) 8 1 K=K (.ptr M.next (7 - c)):=bH rfl (by omega)
  have Ib:∀ {K:AV→Prop},bB (.ptr M1.next 0) (N .i64 ((7 - c:Nat) : Int)) 8 1 K=K (.ptr M1.next (7 - c)):=bH rfl (by omega)
  have La:∀ {K:AV→Prop},ag M3 (.ptr M.next (7 - c)) K=K (N .u64 (a.getD (7 - c) 0:Nat)):=sK n12 (by rw[ha.1]; omega)
  have Lb:∀ {K:AV→Prop},ag M3 (.ptr M1.next (7 - c)) K=K (N .u64 (b.getD (7 - c) 0:Nat)):=sK n2 (by rw[hb.1]; omega)
  rw[Ia,La,Ib,Lb,dH]
  refine aZ (fun hn=>?_) fun hn=>?_
  ·rw[Ia,La,Ib,Lb,lg]
   have hne:a.getD (7 - c) 0≠b.getD (7 - c) 0:=fun e=>by rw[e] at hn; simp at hn
   have hd:=Qq ha hb (i:=7 - c) (by omega) (by rw[show 7 - c + 1=8 - c by omega]; exact he) hne
   have e2:decide ((a.getD (7 - c) 0:Int) > (b.getD (7 - c) 0:Int))=decide (val a > val b):=by rw[hd,decide_eq_decide]; omega
   rw[e2]
   exact hQ M3 k02
  ·have heq:a.getD (7 - c) 0=b.getD (7 - c) 0:=by
    have:=bne_eq_false_iff_eq.1 hn
    omega
   rw[fM,aM (by omega) (by omega)]
   refine hnext _ _ _ (by omega) ⟨c + 1,rfl,by congr 2; omega,by omega, ?_,rfl⟩
   have da:a.drop (8 - (c + 1))=a.getD (7 - c) 0 :: a.drop (8 - c):=by
    rw[show 8 - (c + 1)=7 - c by omega,List.drop_eq_getElem_cons (by rw[ha.1]; omega),show 7 - c + 1=8 - c by omega]
    simp[List.getD,show 7 - c<a.length by rw[ha.1]; omega]
   have db:b.drop (8 - (c + 1))=b.getD (7 - c) 0 :: b.drop (8 - c):=by
    rw[show 8 - (c + 1)=7 - c by omega,List.drop_eq_getElem_cons (by rw[hb.1]; omega),show 7 - c + 1=8 - c by omega]
    simp[List.getD,show 7 - c<b.length by rw[hb.1]; omega]
   rw[da,db,heq,he]
 ·have hc8:c=8:=by have:=of_decide_eq_false h; omega
  subst hc8
  rw[Nat.sub_self,List.drop_zero,List.drop_zero] at he
  have:decide (val a > val b)=false:=by rw[he]; simp
  rw[← this]
  exact hQ M3 k02
def Qw (c:au) : Prop:=∀ {M:RM} {v:Nat} {Q:ah},v<2 ^ 40→(∀ M' l,aa [] M M'→qH l→val l=v→Q (.agg (dR.row l)) M')→c [N .u64 (v:Int)] M Q
theorem Mi {T:Nat} : Qw fun args M Q=>∃ a0,args=[a0]∧BH T a0 M Q:=by
 intro M v Q hv hQ
 refine⟨_,rfl, ?_⟩
 unfold BH
 refine eU (dR.row (List.replicate 8 0)) fun M1 k1 n1 e1=>?_
 rw[di,Ol (by omega),gq]
 refine⟨by decide, ?_⟩
 rw[show iL .u64 (v:Int) 16=((v / 2 ^ 16:Nat) : Int) from Nf (k:=16) (by decide),di,Ol (by omega),gq]
 refine⟨by decide, ?_⟩
 rw[show iL .u64 (v:Int) 32=((v / 2 ^ 32:Nat) : Int) from Nf (k:=32) (by decide),iR]
 have fl:kH [N .u64 0,N .u64 0,N .u64 0,N .u64 0,N .u64 0,N .u64 0,N .u64 0,N .u64 0] [(0,1,N .u64 ((v % 65536:Nat) : Int)),(1,1,N .u64 ((v / 2 ^ 16 % 65536:Nat) : Int)),(2,1,N .u64 ((v / 2 ^ 32:Nat) : Int))]=some (dR.row [v % 65536,v / 2 ^ 16 % 65536,v / 2 ^ 32,0,0,0,0,0]):=by
  rw[iO (by simp)]
  simp only[List.set]
  rw[iO (by simp)]
  simp only[List.set]
  rw[iO (by simp)]
  simp only[List.set]
  rfl
 refine⟨_,fl, ?_⟩
 rw[jT n1 (by rw[dE]; rfl) (by rw[dE]; rfl) (dR.bX _),dM (aF _) (by rw[dE]; rfl)]
 refine hQ _ _ (k1.new _ (Nat.le_refl _)) ⟨rfl,fun x hx=>?_⟩ ?_
 ·simp only[List.mem_cons,List.not_mem_nil,or_false] at hx
  show x<65536
  omega
 ·simp only[val]
  omega
def Ld (c:au) : Prop:=∀ {M:RM} {a b:List Nat} {Q:ah},qH a→qH b→val a * val b<65536 ^ 8→(∀ M' l,aa [] M M'→qH l→val l=val a * val b→Q (.agg (dR.row l)) M')→c [.agg (dR.row a),.agg (dR.row b)] M Q
theorem Oe {va k q A B ai bj C C' cij t P:Nat} (h:C + k * P + q * 65536 ^ 8=A + ai * B) (hs:C' + P * cij=C + P * (t % 65536)) (ht:t=k + cij + ai * bj) :
  C' + (t / 65536) * (P * 65536) + q * 65536 ^ 8=A + ai * B + P * (ai * bj):=by
 have e:P * (t % 65536) + (t / 65536) * (P * 65536)=P * t:=by
  have:t=t % 65536 + 65536 * (t / 65536):=(Nat.mod_add_div t 65536).symm
  conv=>rhs; rw[this,Nat.mul_add]
  rw[Nat.mul_comm (t / 65536) (P * 65536),Nat.mul_assoc]
 have e2:P * t=k * P + P * cij + P * (ai * bj):=by rw[ht,Nat.mul_add,Nat.mul_add,Nat.mul_comm P k]
 generalize (t / 65536) * (P * 65536)=X at *
 generalize P * (t % 65536)=Y at *
 generalize P * cij=Z at *
 generalize P * (ai * bj)=W at *
 generalize k * P=U at *
 generalize q * 65536 ^ 8=V at *
 generalize ai * B=S at *
 omega
theorem O3 {c k q X Y Z P:Nat} (h:c + k * P + q * P=Z + Y) : c + (q * P + k * P + X)=Z + Y + X:=by
 generalize k * P=U at *
 generalize q * P=V at *
 omega
theorem MM {l:List Nat} {i x:Nat} (h:qH l) (hx:x<65536) : qH (l.set i x):=by
 refine⟨by rw[List.length_set]; exact h.1,fun y hy=>?_⟩
 rcases List.mem_or_eq_of_mem_set hy with hy | rfl
 ·exact h.2 y hy
 ·exact hx
theorem N7 {T:Nat} : Ld fun args M Q=>∃ a0 a1,args=[a0,a1]∧su T a0 a1 M Q:=by
 intro M a b Q ha hb hlt hQ
 refine⟨_,_,rfl, ?_⟩
 unfold su
 rw[kK (dR.bX a) (by rw[dE,ha.1]; omega)]
 refine eU _ fun M1 k1 n1 e1=>?_
 rw[kK (dR.bX b) (by rw[dE,hb.1]; omega)]
 refine eU _ fun M2 k2 n2 e2=>?_
 refine eU (dR.row (List.replicate 8 0)) fun M3 k3 n3 e3=>?_
 refine eU (dR.row (List.replicate 8 0)) fun M4 k4 n4 e4=>?_
 have k04:=k1.trans (k2.trans (k3.trans k4))
 have n14:=(k2.trans (k3.trans k4)).ay n1 (by omega) (by simp)
 have n24:=(k3.trans k4).ay n2 (by omega) (by simp)
 have n34:=k4.ay n3 (by omega) (by simp)
 have d0:qH (List.replicate 8 0):=⟨rfl,fun x hx=>by rw[List.eq_of_mem_replicate hx]; decide⟩
 refine aT (fun m ys M5=>∃ (i:Nat) (c:List Nat) (q:Nat),m=8 - i∧ys=[N .i64 (i:Int)]∧i≤8∧aa [M3.next] M4 M5∧M5.heap M3.next=some (.row (dR.row c) false T 0)∧qH c∧val c + q * 65536 ^ 8=val (a.take i) * val b) _
  ⟨0,_,0,rfl,rfl,by omega,aa.refl _ _,n4,d0,by simp[val]⟩ ?_
 rintro next m ys M5 hnext ⟨i,c,q,rfl,rfl,hi,k5,n5,dc,hval⟩
 simp only[aK]
 rw[lh 8 (by rfl)]
 refine aZ (fun hc=>?_) fun hc=>?_
 ·have hi8:i<8:=of_decide_eq_true hc
  have hai:=getD_lt ha.2 i
  generalize hae:a.getD i 0=ai at *
  refine aT (fun m ys M6=>∃ (j k:Nat) (c:List Nat),m=8 - j∧ys=[N .u64 (k:Int),N .i64 (j:Int)]∧i + j≤8∧k<65536∧aa [M3.next] M4 M6∧M6.heap M3.next=some (.row (dR.row c) false T 0)∧qH c∧val c + k * 65536 ^ (i + j) + q * 65536 ^ 8=val (a.take i) * val b + ai * (65536 ^ i * val (b.take j))) _
   ⟨0,0,c,rfl,rfl,by omega,by omega,k5,n5,dc,by simp[val]; exact hval⟩ ?_
  rintro next2 m ys M6 Ws ⟨j,k,c,rfl,rfl,hj,hk,k6,n6,dc6,hv6⟩
  simp only[aK,eP]
  have n16:=k6.ay n14 (by omega) (by simp; omega)
  have n26:=k6.ay n24 (by omega) (by simp; omega)
  rw[addN (by omega),lh 8 (by rfl)]
  refine aZ (fun hc=>?_) fun hc=>?_
  ·have hij:i + j<8:=of_decide_eq_true hc
   have hbj:=getD_lt hb.2 j
   have hcij:=getD_lt dc6.2 (i + j)
   rw[addN (by omega),bH rfl hij,sK n6 (by rw[dc6.1]; exact hij),bq,bH rfl hi8,sK n16 (by rw[ha.1]; exact hi8),bH rfl (by omega),sK n26 (by rw[hb.1]; omega),hae]
   have hset:=Gl (l:=c) (i:=i + j) ((k + c.getD (i + j) 0 + ai * b.getD j 0) % 65536) (by rw[dc6.1]; exact hij)
   have hbt:=xL (l:=b) (i:=j) (by rw[hb.1]; omega)
   generalize b.getD j 0=bj at *
   generalize hce:c.getD (i + j) 0=cij at *
   have hprod:ai * bj≤65535 * 65535:=Nat.mul_le_mul (by omega) (by omega)
   rw[show((k:Int) + (cij:Int))=((k + cij:Nat) : Int) by omega,bS (by omega) (by omega),fE,show((ai:Int) * (bj:Int))=((ai * bj:Nat) : Int) by rw[Int.natCast_mul],bS (by omega) (by omega),bq,show(((k + cij:Nat) : Int) + ((ai * bj:Nat) : Int))=((k + cij + ai * bj:Nat) : Int) by omega,bS (by omega) (by omega)]
   generalize hte:k + cij + ai * bj=t at *
   rw[addN (by omega),di,Ol (by omega),bH rfl hij,BK n6 (by rw[dc6.1]; exact hij),gq]
   refine⟨by decide, ?_⟩
   rw[show iL .u64 (t:Int) 16=((t / 2 ^ 16:Nat) : Int) from Nf (k:=16) (by decide),add1 (by omega)]
   refine Ws _ _ _ (by omega) ⟨j + 1,t / 2 ^ 16,_,rfl,rfl,by omega,by omega,k6.put _ (.inr (by simp)),aF _,MM dc6 (by omega), ?_⟩
   have hstep:=Oe (va:=0) (A:=val (a.take i) * val b) (B:=65536 ^ i * val (b.take j)) (ai:=ai) (bj:=bj) hv6 hset hte.symm
   have e1:65536 ^ (i + (j + 1))=65536 ^ (i + j) * 65536:=by rw[← Nat.add_assoc,Nat.pow_succ]
   have e2:ai * (65536 ^ i * val (b.take (j + 1)))=ai * (65536 ^ i * val (b.take j)) + 65536 ^ (i + j) * (ai * bj):=by
    rw[hbt,Nat.mul_add,Nat.mul_add,Nat.pow_add]
    congr 1
    rw[Nat.mul_left_comm (65536 ^ i * 65536 ^ j),Nat.mul_assoc]
   rw[e1,e2,← Nat.add_assoc]
   exact hstep
  ·have hij:i + j=8:=by have:=of_decide_eq_false hc; omega
   rw[add1 (by omega)]
   refine hnext _ _ _ (by omega) ⟨i + 1,c,q + k + ai * val (b.drop j),rfl,rfl,by omega,k6,n6,dc6, ?_⟩
   have hat:=xL (l:=a) (i:=i) (by rw[ha.1]; exact hi8)
   have hbs:=Bg (l:=b) j (by rw[hb.1]; omega)
   rw[hae] at hat
   rw[hij] at hv6
   have e3:65536 ^ 8=65536 ^ i * 65536 ^ j:=by rw[← Nat.pow_add,hij]
   have e4:ai * val (b.drop j) * 65536 ^ 8=ai * (65536 ^ i * (65536 ^ j * val (b.drop j))):=by
    rw[e3,Nat.mul_assoc,Nat.mul_comm (val (b.drop j)),Nat.mul_assoc]
   have e5:val (a.take (i + 1)) * val b=val (a.take i) * val b + ai * (65536 ^ i * val (b.take j)) + ai * (65536 ^ i * (65536 ^ j * val (b.drop j))):=by
    rw[hat,Nat.add_mul,Nat.add_assoc,← Nat.mul_add,← Nat.mul_add,← hbs]
    congr 1
    rw[Nat.mul_comm (65536 ^ i) ai,Nat.mul_assoc]
   rw[e5,Nat.add_mul,Nat.add_mul,e4]
   exact O3 hv6
 ·have hi8:i=8:=by have:=of_decide_eq_false hc; omega
  subst hi8
  rw[List.take_of_length_le (by rw[ha.1]; omega)] at hval
  have hq:q=0:=by
   rcases Nat.eq_zero_or_pos q with h | h
   ·exact h
   ·have:1 * 65536 ^ 8≤q * 65536 ^ 8:=Nat.mul_le_mul_right _ h
    omega
  rw[hq,Nat.zero_mul,Nat.add_zero] at hval
  have n35:=k5.ay n34 (by omega) (by simp; omega)
  rw[dM n5 (by rw[dE,dc.1]),jT n35 (by rw[dE,dc.1]) (by rw[dE,List.length_replicate]) (dR.bX _),dM (aF _) (by rw[dE,dc.1])]
  exact hQ _ c ((yP k04 k5 (by omega)).new _ (by omega)) dc hval
def big (p:Nat) (gK:Bool) (t:Nat) : Bool:=match gK with
 | true=>decide (t * t * t > p * 65536 ^ 6)
 | false=>decide (t * t > p * 65536 ^ 4)
def ig (p:Nat) (gK:Bool) : Nat→Nat
 | 0=>0
 | c + 1=>match big p gK (ig p gK c ||| 2 ^ (36 - c)) with
   | true=>ig p gK c
   | false=>ig p gK c ||| 2 ^ (36 - c)
theorem JI (p:Nat) (gK:Bool) : ∀ c,c≤37→ig p gK c<2 ^ 37
 | 0,_=>by simp[ig]
 | c + 1,h=>by
   have:=JI p gK c (by omega)
   rw[ig]
   split
   ·exact this
   ·exact Nat.or_lt_two_pow this (Nat.pow_lt_pow_right (by decide) (by omega))
def NZ (c:au) : Prop:=∀ {M:RM} {p:Nat} {gK:Bool} {Q:ah},p<1000→(∀ M',aa [] M M'→Q (N .u32 ((ig p gK 37 % 4294967296:Nat) : Int)) M')→c [N .i64 (p:Int),Bo gK] M Q
theorem Z5 {a b:Nat} (ha:a<18446744073709551616) (hb:b<18446744073709551616) (hab:a ||| b<18446744073709551616) : wT .u64 (a:Int) (b:Int)=((a ||| b:Nat) : Int):=by
 unfold wT
 have:=QE IntKind.u64.bits a b
 rw[this]
 have e:(a ||| b) % 2 ^ IntKind.u64.bits=a ||| b:=Nat.mod_eq_of_lt (show a ||| b<2 ^ 64 by omega)
 rw[e,bS (by omega) (by omega)]
theorem MH {p i:Nat} (hp:p<1000) (hi:i<8) : qH ((List.replicate 8 0).set i p)∧val ((List.replicate 8 0).set i p)=65536 ^ i * p:=by
 refine⟨MM ⟨rfl,fun x hx=>by rw[List.eq_of_mem_replicate hx]; decide⟩ (by omega), ?_⟩
 have h:=Gl (l:=List.replicate 8 0) (i:=i) p (by simpa using hi)
 have h0:(List.replicate 8 0).getD i 0=0:=by
  have:i=0∨i=1∨i=2∨i=3∨i=4∨i=5∨i=6∨i=7:=by omega
  rcases this with rfl | rfl | rfl | rfl | rfl | rfl | rfl | rfl <;> rfl
 have h1:val (List.replicate 8 0)=0:=by decide
 rw[h0,h1] at h
 omega
theorem Qj {T:Nat} {co ct ca:au} (ho:Qw co) (ht:Ld ct) (hab:JX ca) : NZ fun args M Q=>∃ a0 a1,args=[a0,a1]∧vT co ct T ca a0 a1 M Q:=by
 intro M p gK Q hp hQ
 refine⟨_,_,rfl, ?_⟩
 unfold vT
 refine aT (fun m ys M3=>∃ c:Nat,m=38 - c∧ys=[N .u64 (ig p gK c:Nat),N .i64 (36 - (c:Int))]∧c≤37∧aa [] M M3) _ ⟨0,rfl,rfl,by omega,aa.refl _ _⟩ ?_
 rintro next m ys M3 hnext ⟨c,rfl,rfl,hc,k3⟩
 simp only[aK,eP]
 have hr:=JI p gK c hc
 rw[jQ]
 refine aZ (fun h=>?_) fun h=>?_
 ·have Vg:c<37:=by have:=of_decide_eq_true h; omega
  rw[fF]
  refine fK (fun xs M4=>xs=[N .u64 (ig p gK (c + 1) : Nat)]∧aa [] M M4) ?_ ?_
  ·rintro xs M4 ⟨rfl,k4⟩
   simp only[aK]
   rw[fM,aM (by omega) (by omega)]
   exact hnext _ _ _ (by omega) ⟨c + 1,rfl,by congr 2; congr 1; omega,by omega,k4⟩
  intro J hJ
  rw[show(36 - (c:Int))=((36 - c:Nat) : Int) by omega,dz,bS (by omega) (by omega),jB]
  refine⟨by omega, ?_⟩
  have VF:2 ^ (36 - c)<2 ^ 37:=Nat.pow_lt_pow_right (by decide) (by omega)
  have hsh:yQ .u64 1 ((36 - c:Nat) : Int)=((2 ^ (36 - c) : Nat) : Int):=by
   unfold yQ
   rw[Int.toNat_natCast,Nat.min_eq_left (show 36 - c≤IntKind.u64.bits from by show 36 - c≤64; omega),Int.one_mul,show((2:Int) ^ (36 - c))=((2 ^ (36 - c) : Nat) : Int) by rw[Int.natCast_pow]; rfl]
   have hwr:∀ q:Nat,q<2 ^ 37→IntKind.u64.wrap (q:Int)=(q:Int):=fun q h=>bS (by omega) (by omega)
   exact hwr _ VF
  have htl:ig p gK c ||| 2 ^ (36 - c)<2 ^ 37:=Nat.or_lt_two_pow hr VF
  rw[hsh,cK,Z5 (by omega) (by omega) (by omega)]
  have hstep:ig p gK (c + 1)=match big p gK (ig p gK c ||| 2 ^ (36 - c)) with
   | true=>ig p gK c
   | false=>ig p gK c ||| 2 ^ (36 - c):=rfl
  generalize ig p gK c ||| 2 ^ (36 - c)=t at *
  have ht2:t * t<2 ^ 74:=by
   have:t * t≤(2 ^ 37 - 1) * (2 ^ 37 - 1):=Nat.mul_le_mul (by omega) (by omega)
   omega
  have ht3:t * t * t<2 ^ 111:=by
   have:t * t * t≤(2 ^ 74 - 1) * (2 ^ 37 - 1):=Nat.mul_le_mul (by omega) (by omega)
   omega
  refine ho (by omega) fun M4 l4 k4 d4 v4=>?_
  refine ho (by omega) fun M5 l5 k5 d5 v5=>?_
  refine ht d4 d5 (by rw[v4,v5]; omega) fun M6 l6 k6 d6 v6=>?_
  rw[v4,v5] at v6
  have zl:(dR.row (List.replicate 8 0)).length=8:=by rw[dE,List.length_replicate]
  refine Fv (K:=fun t Nq=>_) (z:=dR.row (List.replicate 8 0)) 8 zl (by rw[dE,d6.1]) (dR.bX _) fun M7 k7 n7 l7=>?_
  refine eU (dR.row (List.replicate 8 0)) fun M8 k8 n8 e8=>?_
  have n78:=k8.ay n7 l7 (by simp)
  rw[dz,bS (by omega) (by omega),bH (i:=4) (by rfl) (by decide),BK n8 (by decide)]
  have k07:aa [] M M7:=k3.trans (k4.trans (k5.trans (k6.trans k7)))
  have k37:aa [] M3 M7:=k4.trans (k5.trans (k6.trans k7))
  have n9:(M8.put M7.next (.row (dR.row ((List.replicate 8 0).set 4 p)) false T 0)).heap M7.next=some (.row (dR.row ((List.replicate 8 0).set 4 p)) false T 0):=aF _
  have k9:aa [] M7 (M8.put M7.next (.row (dR.row ((List.replicate 8 0).set 4 p)) false T 0)):=k8.new _ (Nat.le_refl _)
  have n79:=k9.ay n7 l7 (by simp)
  have e9:(M8.put M7.next (.row (dR.row ((List.replicate 8 0).set 4 p)) false T 0)).next=M7.next + 1:=e8
  generalize M8.put M7.next (.row (dR.row ((List.replicate 8 0).set 4 p)) false T 0)=M9 at *
  rw[fF]
  refine fK (fun xs M10=>xs=[]∧aa [] M M10∧∃ la lb:List Nat,M10.heap M6.next=some (.row (dR.row la) false T 0)∧M10.heap M7.next=some (.row (dR.row lb) false T 0)∧qH la∧qH lb∧decide (val la > val lb)=big p gK t) ?_ ?_
  ·rintro xs M10 ⟨rfl,k10,la,lb,na,nb,da,db,hbig⟩
   rw[dM na (by rw[dE,da.1]),dM nb (by rw[dE,db.1])]
   refine hab da db fun M11 k11=>?_
   rw[iy,hbig]
   refine aZ (fun h=>?_) fun h=>?_
   ·have:big p gK t=false:=by simpa using h
    rw[this] at hstep
    exact hJ _ _ ⟨by rw[hstep],k10.trans k11⟩
   ·have:big p gK t=true:=by simpa using h
    rw[this] at hstep
    exact hJ _ _ ⟨by rw[hstep],k10.trans k11⟩
  ·intro J2 hJ2
   refine aZ (fun hcu=>?_) fun hcu=>?_
   ·subst hcu
    rw[dM n79 (by rw[dE,d6.1])]
    refine ho (by omega) fun M10 l10 k10 d10 v10=>?_
    have U9:=k10.ay n79 (by omega) (by simp)
    have YO:=k10.ay n9 (by omega) (by simp)
    rw[dM U9 (by rw[dE,d6.1])]
    refine⟨rfl, ?_⟩
    refine ht d6 d10 (by rw[v6,v10]; omega) fun M11 l11 k11 d11 v11=>?_
    rw[v6,v10] at v11
    have Y6:=k11.ay U9 (Nat.lt_of_lt_of_le (by omega:M6.next<M9.next) k10.next) (by simp)
    have Yl:=k11.ay YO (Nat.lt_of_lt_of_le (by omega:M7.next<M9.next) k10.next) (by simp)
    rw[jT Y6 (by rw[dE,d11.1]) (by rw[dE,d6.1]) (dR.bX _),iR]
    refine⟨dR.row (List.replicate 8 0),rfl, ?_⟩
    rw[jT (uN Yl (by omega)) (by rw[dE,List.length_replicate]) (by rw[dE,List.length_set,List.length_replicate]) (dR.bX _),dz,bS (by omega) (by omega),bH (i:=6) (by rfl) (by decide),BK (aF _) (by decide)]
    obtain⟨dw,vw⟩:=MH (p:=p) (i:=6) hp (by decide)
    refine hJ2 _ _ ⟨rfl, ?_,l11,(List.replicate 8 0).set 6 p, ?_,aF _,d11,dw, ?_⟩
    ·have n3x:=k37.next
     have n6x:M.next≤M6.next:=Nat.le_trans k3.next (Nat.le_trans k4.next (Nat.le_trans k5.next k6.next))
     have n7x:=k7.next
     exact(((k07.trans (k9.trans (k10.trans k11))).new _ n6x).new _ (by omega)).new _ (by omega)
    ·exact uN (uN (aF _) (by omega)) (by omega)
    ·unfold big
     rw[v11,vw,Nat.mul_comm (65536 ^ 6)]
   ·subst hcu
    obtain⟨dw,vw⟩:=MH (p:=p) (i:=4) hp (by decide)
    refine hJ2 _ _ ⟨rfl,k07.trans k9,l6,_,n79,n9,d6,dw, ?_⟩
    unfold big
    rw[v6,vw,Nat.mul_comm (65536 ^ 4)]
 ·have Vg:c=37:=by have:=of_decide_eq_false h; omega
  subst Vg
  rw[dz,wrap_u32]
  exact hQ M3 k3
theorem QM:(jH.take 8).map (fun p=>((ig p false 37 % 4294967296:Nat) : Int))=hW:=by decide +kernel
theorem SG:jH.map (fun p=>((ig p true 37 % 4294967296:Nat) : Int))=kW:=by decide +kernel
theorem VK:∀ p∈jH,p<1000:=by decide
theorem ET {M:RM} {v:AV} {l:List Nat} (h:Sl Hu M v l) {i:Nat} (hi:i<l.length) {K:AV→Prop} : (bf v (N .i64 (i:Int)) 1 fun t=>ag M t K)=K (N .i64 (l[i] : Nat)):=by
 obtain⟨c,o,_,_,hix,hld⟩:=h.PG (i:Int) hi
 rw[hix,iX,hld _ rfl]
 exact propext ⟨fun⟨v,e,k⟩=>by cases e; exact k,fun k=>⟨_,rfl,k⟩⟩
theorem Lm {TI TU:Nat} {cp cr:au} (hp:Gs TI cp) (hr:NZ cr) : Gt TU fun args M Q=>args=[]∧qz cp TU cr M Q:=by
 intro M Q hQ
 refine⟨rfl, ?_⟩
 unfold qz
 refine hp fun pv M1 k1 hpv=>?_
 refine Jg ?_
 show aW _ _ _ _
 rw[aV]
 have k2' : aa [] M1 (M1.push (.row [] false TU 0)):=(aa.refl _ _).push _
 have o2:Ow bu (M1.push (.row [] false TU 0)) M1.next TU (.slc M1.next 0 0 (.ex 0)) []:=Ow.lit bu M1
 generalize M1.push (.row [] false TU 0)=M2 at *
 refine Jg ?_
 show aW _ _ _ _
 rw[aV]
 have k3' : aa [] M2 (M2.push (.row [] false TU 0)):=(aa.refl _ _).push _
 have o3:Ow bu (M2.push (.row [] false TU 0)) M2.next TU (.slc M2.next 0 0 (.ex 0)) []:=Ow.lit bu M2
 have o23:Ow bu (M2.push (.row [] false TU 0)) M1.next TU (.slc M1.next 0 0 (.ex 0)) []:=Own.keep o2 k3' (by simp)
 generalize M2.push (.row [] false TU 0)=M3 at *
 have k13:=k2'.trans k3'
 let F:Nat→Int:=fun p=>((ig p false 37 % 4294967296:Nat) : Int)
 let G:Nat→Int:=fun p=>((ig p true 37 % 4294967296:Nat) : Int)
 refine aT (fun m ys M4=>∃ (i:Nat) (av bv:AV),m=64 - i∧ys=[av,bv,N .i64 (i:Int)]∧i≤64∧aa [] M1 M4∧Ow bu M4 M1.next TU av ((jH.take (min i 8)).map F)∧Ow bu M4 M1.next TU bv ((jH.take i).map G)∧(∀ x∈ak av,x ∉ ak bv)) _
  ⟨0,_,_,rfl,rfl,by omega,k13,o23,Own.mono o3 k2'.next,fun x hx hm=>by
   simp[ak] at hx hm
   have:=(Own.blk o2 x (by simp[ak]; exact hx)).2
   omega⟩ ?_
 rintro next m ys M4 hnext ⟨i,av,bv,rfl,rfl,hi,k4,oa,ob,hd⟩
 simp only[aK,eP]
 have XV:Sl Hu M4 pv jH:=aO.keep hpv k4 (by simp)
 rw[lh 64 (by rfl)]
 refine aZ (fun hc=>?_) fun hc=>?_
 ·have jZ:i<64:=of_decide_eq_true hc
  have hil:i<jH.length:=by rw[wU]; exact jZ
  have hpl:=VK jH[i] (List.getElem_mem hil)
  rw[fF]
  refine fK (fun xs M7=>∃ av' bv',xs=[av',bv']∧aa [] M1 M7∧Ow bu M7 M1.next TU av' ((jH.take (min (i + 1) 8)).map F)∧Ow bu M7 M1.next TU bv' ((jH.take (i + 1)).map G)∧(∀ x∈ak av',x ∉ ak bv')) ?_ ?_
  ·rintro xs M7 ⟨av',bv',rfl,k7,h1,h2,h3⟩
   simp only[aK,eP]
   rw[eY 1 (by omega) (by omega) (by rfl)]
   exact hnext _ _ _ (by omega) ⟨i + 1,av',bv',rfl,rfl,by omega,k7,h1,h2,h3⟩
  intro J hJ
  rw[fF]
  refine fK (fun xs M7=>∃ av',xs=[av']∧aa [] M1 M7∧Ow bu M7 M1.next TU av' ((jH.take (min (i + 1) 8)).map F)∧Ow bu M7 M1.next TU bv ((jH.take i).map G)∧(∀ x∈ak av',x ∉ ak bv)) ?_ ?_
  ·rintro xs M7 ⟨av',rfl,k7,h1,h2,h3⟩
   simp only[aK]
   have Y5:Sl Hu M7 pv jH:=aO.keep hpv k7 (by simp)
   rw[ET Y5 hil]
   refine hr hpl fun M8 k8=>?_
   rw[kF (by rfl) (by rfl) (by rfl),aV]
   have h28:Ow bu M8 M1.next TU bv ((jH.take i).map G):=Own.keep h2 k8 (by simp)
   have h18:Ow bu M8 M1.next TU av' ((jH.take (min (i + 1) 8)).map F):=Own.keep h1 k8 (by simp)
   have k78:=k7.trans k8
   refine iN (E:=bu) (a:=G jH[i]) h28 k78.next (by decide) (by simp; omega) (by simp; omega) fun v9 M9 o9 k9 nx9 hv9=>?_
   refine hJ _ _ ⟨av',v9,rfl,aa.own k78 k9 (fun x hx=>(Own.blk h28 x hx).1),Own.keep h18 k9 h3, ?_,fun x hx hm=>?_⟩
   ·rw[List.take_succ_eq_append_getElem hil,List.map_append]
    exact o9
   ·rcases hv9 with rfl | h9
    ·exact h3 x hx hm
    ·have:=h9 x hm
     have:=(Own.blk h18 x hx).2
     omega
  ·intro J2 hJ2
   rw[lh 8 (by rfl)]
   refine aZ (fun hc8=>?_) fun hc8=>?_
   ·have hi8:i<8:=of_decide_eq_true hc8
    rw[ET XV hil]
    refine hr hpl fun M5 k5=>?_
    rw[kF (by rfl) (by rfl) (by rfl),aV]
    have oa5:Ow bu M5 M1.next TU av ((jH.take (min i 8)).map F):=Own.keep oa k5 (by simp)
    have ob5:Ow bu M5 M1.next TU bv ((jH.take i).map G):=Own.keep ob k5 (by simp)
    have k45:=k4.trans k5
    refine iN (E:=bu) (a:=F jH[i]) oa5 k45.next (by decide) (by simp; omega) (by simp; omega) fun v6 M6 o6 k6 nx6 hv6=>?_
    refine hJ2 _ _ ⟨v6,rfl,aa.own k45 k6 (fun x hx=>(Own.blk oa5 x hx).1), ?_,Own.keep ob5 k6 (fun x hx hm=>hd x hm hx),fun x hx hm=>?_⟩
    ·rw[Nat.min_eq_left (by omega:i + 1≤8),List.take_succ_eq_append_getElem hil,List.map_append]
     rw[Nat.min_eq_left (by omega:i≤8)] at o6
     exact o6
    ·rcases hv6 with rfl | h6
     ·exact hd x hx hm
     ·have:=h6 x hx
      have:=(Own.blk ob5 x hm).2
      omega
   ·have hi8:¬ i<8:=of_decide_eq_false hc8
    refine hJ2 _ _ ⟨av,rfl,k4, ?_,ob,hd⟩
    rw[Nat.min_eq_right (by omega:8≤i + 1)]
    rw[Nat.min_eq_right (by omega:8≤i)] at oa
    exact oa
 ·have jZ:i=64:=by have:=of_decide_eq_false hc; omega
  subst jZ
  rw[Nat.min_eq_right (by omega:8≤64)] at oa
  have e1:(jH.take 8).map F=hW:=QM
  have e2:(jH.take 64).map G=kW:=by
   rw[List.take_of_length_le (by rw[wU]; omega)]; exact SG
  rw[e1] at oa
  rw[e2] at ob
  exact hQ av bv M4 (k1.trans k4) ((GL oa (by decide)).mono k1.next) ((GL ob (by decide)).mono k1.next)
end Go.Ab.Sha
