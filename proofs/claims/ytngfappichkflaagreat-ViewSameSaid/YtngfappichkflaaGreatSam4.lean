/- Part 4 of the ground of the proofs of this seat (texts WCrw to D2). By an AI agent. -/
import Derived.Test.YtngfappichkflaaGreatSam3
import Derived.ChangeShapes
import Derived.OpenShut
import Derived.WideKeyArgs
import GoSem.ClaimJoined
set_option maxRecDepth 100000
set_option linter.unusedVariables false
set_option linter.unusedSimpArgs false
namespace Go.Ab.Crw
open Go Go.Ab
def WS (p1:ai) (p2:Nat) (M0:RM) (Q:ak) : Prop :=
 p1 [] M0 fun h c =>
 jo [(.sc (.pointer none)),(.sc (.slice none 0 0))] [(0,1,h)] fun i =>
 gz p2 i fun g e =>
 bP g e c fun j d =>
 Q j d
def uW (p1 p2:Nat) (p3 p4:ai) (a0 a1 a2 a3 a4:AV) (M0:RM) (Q:ak) : Prop :=
 gz p1 a1 fun s r =>
 bP s r M0 fun D o =>
 bP (.row [(N .i64 0),(N .u64 0),(N .i64 0),(St []),(St []),(St []),(.sc (.slice none 0 0))] false p2 0) (fun e=>.ptr e 0) o fun c h =>
 av h D 2 fun v =>
 jo [(N .i64 0),(N .u64 0),(N .i64 0),(St []),(St []),(St []),(.sc (.slice none 0 0))] [(0,2,v),(2,1,(N .i64 1)),(3,1,a2),(4,1,a3),(5,1,a4)] fun w =>
 bP (.row [(N .i64 0),(N .u64 0),(N .i64 0),(St []),(St []),(St []),(.sc (.slice none 0 0))] false p2 0) (fun e=>.ptr e 0) h fun g p =>
 aC p g w 7 fun d =>
 gV .eql a3 (St []) fun x =>
 au x (
 jo [(N .i64 0),(N .u64 0),(N .i64 0),(St []),(St []),(St []),(.sc (.slice none 0 0))] [] fun y =>
 aC d c y 7 fun i =>
 av i c 7 fun t =>
 Q (.tup [t,(N .i64 1)]) i) (
 av d g 7 fun m =>
 p3 [a0,a2,a3] d fun A j =>
 av j g 7 fun z =>
 (z=m∧p4 [m,A] j fun n q =>
 dm n 0 fun B =>
 dm n 1 fun C =>
 aC q c B 7 fun l =>
 av l c 7 fun u =>
 Q (.tup [u,C]) l))
def xW (p1:Nat) (p2 p3:ai) (p4:Nat) (p5 p6:ai) (p7:Nat) (p8 p9:ai) (p10 p11:Nat) (p12 p13 p14:ai) (a0 a1:AV) (M0:RM) (Q:ak) : Prop :=
 gz p1 a1 fun wc vt =>
 bP wc vt M0 fun d s =>
 av s d 7 fun wg =>
 p2 [wg] s fun wh l =>
 cK wh fun wi =>
 au wi (
 Q (.tup [(Bo false),(N .i64 1)]) l) (
 dB a0 fun wj =>
 aJ wj 0 fun wk =>
 az l wk fun wl =>
 p3 [wl] l fun p t =>
 aJ d 0 fun wm =>
 av t wm 2 fun wn =>
 dW p4 1 [(N .i64 0),(N .u64 0)] [(0,2,wn)] fun wd vu =>
 bP wd vu t fun wo z =>
 aJ d 6 fun wp =>
 az z wp fun wq =>
 appW p4 2 16 [(N .i64 0),(N .u64 0)] false wo wq z fun O vk =>
 bQ O fun wr =>
 aM (fun wb q j =>
 af .lss (aa q 0) wr fun ws =>
 au ws (
 ah O (aa q 0) 2 fun wt =>
 av j wt 2 fun wu =>
 bP (.row [(N .i64 0),(N .u64 0)] false p4 0) (fun L=>.ptr L 0) j fun vf vn =>
 aC vn vf wu 2 fun H =>
 av H vf 2 fun wv =>
 p5 [p,wv] H fun P I =>
 af .neq P (N .i64 0) fun ww =>
 au ww (
 Q (.tup [(Bo false),P]) I) (
 af .add (aa q 0) (N .i64 1) fun wx =>
 wb [wx] I)) (
 dB a0 fun wy =>
 aJ wy 1 fun wz =>
 az j wz fun R =>
 bR (fun r =>
 aJ d 2 fun w0 =>
 az j w0 fun w1 =>
 af .eql w1 (N .i64 1) fun e =>
 ae e true (fun c=>c a0 j none) (fun c=>c .undef j none) fun w2 u L =>
 ae e true (fun vx=>dB w2 fun w3 =>
 vx w3 u none) (fun c=>c .undef u none) fun w4 v ya =>
 ae e true (fun vy=>aJ w4 0 fun w5 =>
 vy w5 v none) (fun c=>c .undef v none) fun w6 m yb =>
 ae e true (fun vz=>az m w6 fun w7 =>
 vz w7 m none) (fun c=>c .undef m none) fun w8 w yc =>
 ae e true (fun v0=>aJ d 0 fun w9 =>
 v0 w9 w none) (fun c=>c .undef w none) fun xa n yd =>
 ae e true (fun v1=>av n xa 2 fun xb =>
 v1 xb n none) (fun c=>c .undef n none) fun xc x ye =>
 aj e true (fun v2=>p6 [w8,xc] x fun xd vg =>
 v2 xd vg) (fun c=>c .undef x) fun xe y =>
 ae e true (fun v3=>cK xe fun xf =>
 v3 xf y none) (fun c=>c .undef y none) fun xg h yf =>
 aL e xg (Bo false) fun xh =>
 au xh (
 aJ d 0 fun S =>
 av h S 2 fun U =>
 aJ d 3 fun V =>
 az h V fun W =>
 aJ d 4 fun X =>
 az h X fun Y =>
 aJ d 5 fun Z =>
 az h Z fun va =>
 jo [(N .i64 0),(N .u64 0),(St []),(St []),(St [])] [(0,2,U),(2,1,W),(3,1,Y),(4,1,va)] fun vb =>
 dW p7 1 [(N .i64 0),(N .u64 0),(St []),(St []),(St [])] [(0,5,vb)] fun we vv =>
 sP we vv h fun vc vh vs =>
 p8 [R] vh fun xi i =>
 av i S 2 fun xj =>
 (xj=U∧az i V fun xk =>
 (xk=W∧az i X fun xl =>
 (xl=Y∧az i Z fun xm =>
 (xm=va∧dW p7 1 [(N .i64 0),(N .u64 0),(St []),(St []),(St [])] [(0,5,vb)] fun wf vw =>
 (A7 vs i wf vw vc∧appW p7 5 64 [(N .i64 0),(N .u64 0),(St []),(St []),(St [])] false xi vc i fun vd vi =>
 p9 [vd,(.fn (.func p10) [] [])] vi fun yg vj =>
 r [vd] vj)))))) (
 r [R] h)) (fun x9 vl =>
 p8 [(aa x9 0)] vl fun xn vm =>
 p12 [xn,(.fn (.func p11) [] [d])] vm fun ve A =>
 dB a0 fun xo =>
 aJ xo 0 fun xp =>
 az A xp fun xq =>
 p13 [p,xq] A fun xr B =>
 cK xr fun g =>
 aj g false (fun v4=>v4 ve B) (fun c=>c .undef B) fun xs C =>
 aj g false (fun v5=>v5 a0 C) (fun c=>c .undef C) fun xt D =>
 aj g false (fun v6=>dB xt fun xu =>
 v6 xu D) (fun c=>c .undef D) fun xv E =>
 aj g false (fun v7=>aJ xv 1 fun xw =>
 v7 xw E) (fun c=>c .undef E) fun xx o =>
 aj g false (fun v8=>az o xx fun xy =>
 v8 xy o) (fun c=>c .undef o) fun xz F =>
 aj g false (fun v9=>p14 [xs,xz] F fun x0 vo =>
 v9 x0 vo) (fun c=>c .undef F) fun x1 G =>
 aj g false (fun wa=>cK x1 fun x2 =>
 wa x2 G) (fun c=>c .undef G) fun x3 vp =>
 aL g (Bo true) x3 fun x4 =>
 dB a0 fun x5 =>
 aJ x5 0 fun x6 =>
 aC vp x6 p 1 fun vq =>
 dB a0 fun x7 =>
 aJ x7 1 fun x8 =>
 aC vq x8 ve 1 fun vr =>
 Q (.tup [x4,(N .i64 0)]) vr))) [(N .i64 0)] vk)
def SF (p1:Nat) (p2 p3:ai) (p4:Nat) (p5:ai) (a0:AV) (M0:RM) (Q:ak) : Prop :=
 gz p1 a0 fun wz vu =>
 bP wz vu M0 fun d E =>
 aJ d 0 fun ye =>
 av E ye 2 fun yv =>
 p2 [yv] E fun y8 F =>
 cK y8 fun g =>
 aj g false (fun c=>aJ d 3 fun w0 =>
 c w0 F) (fun c=>c .undef F) fun w1 v =>
 aj g false (fun wd=>az v w1 fun w2 =>
 wd w2 v) (fun c=>c .undef v) fun w3 vc =>
 aj g false (fun wm=>aJ d 4 fun w4 =>
 wm w4 vc) (fun c=>c .undef vc) fun w5 B =>
 aj g false (fun wv=>az B w5 fun w6 =>
 wv w6 B) (fun c=>c .undef B) fun w7 H =>
 aj g false (fun v1=>aJ d 5 fun w8 =>
 v1 w8 H) (fun c=>c .undef H) fun w9 u =>
 aj g false (fun v8=>az u w9 fun xa =>
 v8 xa u) (fun c=>c .undef u) fun xb V =>
 aj g false (fun v9=>p3 [w3,w7,xb] V fun xc vr =>
 v9 xc vr) (fun c=>c .undef V) fun xd W =>
 aj g false (fun wa=>cK xd fun xe =>
 wa xe W) (fun c=>c .undef W) fun xf X =>
 aL g (Bo true) xf fun j =>
 aj j false (fun wb=>aJ d 6 fun xg =>
 wb xg X) (fun c=>c .undef X) fun xh w =>
 aj j false (fun wc=>az w xh fun xi =>
 wc xi w) (fun c=>c .undef w) fun xj Y =>
 aj j false (fun we=>bQ xj fun xk =>
 we xk Y) (fun c=>c .undef Y) fun xl Z =>
 aj j false (fun wf=>af .gtr xl (N .i64 64) fun xm =>
 wf xm Z) (fun c=>c .undef Z) fun xn x =>
 aL j (Bo true) xn fun xo =>
 au xo (
 Q (Bo false) x) (
 aJ d 6 fun xp =>
 az x xp fun vp =>
 bQ vp fun xq =>
 aM (fun wy n i =>
 af .lss (aa n 0) xq fun xr =>
 au xr (
 ah vp (aa n 0) 2 fun xs =>
 av i xs 2 fun xt =>
 bP (.row [(N .i64 0),(N .u64 0)] false p4 0) (fun vo=>.ptr vo 0) i fun o vs =>
 aC vs o xt 2 fun va =>
 av va o 2 fun xu =>
 p2 [xu] va fun xv y =>
 cK xv fun l =>
 ae l false (fun wg=>av y o 2 fun xw =>
 wg xw y none) (fun c=>c .undef y none) fun xx vb vo =>
 ae l false (fun wh=>aJ d 0 fun xy =>
 wh xy vb none) (fun c=>c .undef vb none) fun xz z zk =>
 ae l false (fun wi=>av z xz 2 fun x0 =>
 wi x0 z none) (fun c=>c .undef z none) fun x1 vd zl =>
 ae l false (fun wj=>jw false [1,1] xx x1 fun x2 =>
 wj x2 vd none) (fun c=>c .undef vd none) fun x3 ve zm =>
 aL l (Bo true) x3 fun m =>
 ae m false (fun wk=>wk (aa n 0) ve none) (fun c=>c .undef ve none) fun x4 vf zn =>
 ae m false (fun wl=>af .gtr x4 (N .i64 0) fun x5 =>
 wl x5 vf none) (fun c=>c .undef vf none) fun x6 vg zo =>
 ae m false (fun wn=>wn x6 vg none) (fun c=>c .undef vg none) fun e vh zp =>
 ae e true (fun wo=>aJ d 6 fun x7 =>
 wo x7 vh none) (fun c=>c .undef vh none) fun x8 A zq =>
 ae e true (fun wp=>az A x8 fun x9 =>
 wp x9 A none) (fun c=>c .undef A none) fun ya vi zr =>
 ae e true (fun wq=>wq (aa n 0) vi none) (fun c=>c .undef vi none) fun yb vj zs =>
 ae e true (fun wr=>af .sub yb (N .i64 1) fun yc =>
 wr yc vj none) (fun c=>c .undef vj none) fun yd vk zt =>
 ae e true (fun ws=>ah ya yd 2 fun yf =>
 ws yf vk none) (fun c=>c .undef vk none) fun yg C zu =>
 ae e true (fun wt=>av C yg 2 fun yh =>
 wt yh C none) (fun c=>c .undef C none) fun yi D zv =>
 ae e true (fun wu=>av D o 2 fun yj =>
 wu yj D none) (fun c=>c .undef D none) fun yk vl zw =>
 aj e true (fun ww=>p5 [yi,yk] vl fun yl vt =>
 ww yl vt) (fun c=>c .undef vl) fun ym vm =>
 ae e true (fun wx=>cK ym fun yn =>
 wx yn vm none) (fun c=>c .undef vm none) fun yo vn zi =>
 ae m false (fun vv=>aL e yo (Bo false) fun yp =>
 vv yp vn none) (fun c=>c .undef vn none) fun yq G zj =>
 aL m (Bo true) yq fun yr =>
 au yr (
 Q (Bo false) G) (
 af .add (aa n 0) (N .i64 1) fun ys =>
 wy [ys] G)) (
 aJ d 2 fun yt =>
 az i yt fun yu =>
 af .eql yu (N .i64 1) fun p =>
 aj p true (fun vw=>aJ d 4 fun yw =>
 vw yw i) (fun c=>c .undef i) fun yx r =>
 aj p true (fun vx=>az r yx fun yy =>
 vx yy r) (fun c=>c .undef r) fun yz I =>
 aj p true (fun vy=>gV .neq yz (St []) fun y0 =>
 vy y0 I) (fun c=>c .undef I) fun y1 L =>
 aL p y1 (Bo false) fun h =>
 aj h false (fun vz=>aJ d 2 fun y2 =>
 vz y2 L) (fun c=>c .undef L) fun y3 s =>
 aj h false (fun v0=>az s y3 fun y4 =>
 v0 y4 s) (fun c=>c .undef s) fun y5 O =>
 aj h false (fun v2=>af .eql y5 (N .i64 2) fun y6 =>
 v2 y6 O) (fun c=>c .undef O) fun y7 P =>
 aj h false (fun v3=>v3 y7 P) (fun c=>c .undef P) fun q R =>
 aj q true (fun v4=>aJ d 5 fun y9 =>
 v4 y9 R) (fun c=>c .undef R) fun za t =>
 aj q true (fun v5=>az t za fun zb =>
 v5 zb t) (fun c=>c .undef t) fun zc S =>
 aj q true (fun v6=>gV .eql zc (St []) fun zd =>
 v6 zd S) (fun c=>c .undef S) fun ze U =>
 aj h false (fun v7=>aL q ze (Bo false) fun zf =>
 v7 zf U) (fun c=>c .undef U) fun zg vq =>
 aL h (Bo true) zg fun zh =>
 Q zh vq)) [(N .i64 0)] x)
def abQ (p1:Nat) (p2:ai) (a0:AV) (M0:RM) (Q:ak) : Prop :=
 LV p1 96 [(N .i64 0),(N .u64 0),(N .i64 0),(St []),(St []),(St []),(.sc (.slice none 0 0))] (N .i64 0) (N .i64 0) fun U A =>
 bP U A M0 fun v4 u =>
 aM (fun R e h =>
 bQ a0 fun W =>
 af .lss (aa e 1) W fun X =>
 au X (
 bR (fun l =>
 ah a0 (aa e 1) 7 fun Z =>
 av h Z 7 fun va =>
 p2 [va] h fun vb v =>
 cK vb fun vc =>
 aM (fun S d g =>
 bQ (aa e 0) fun vd =>
 af .lss (aa d 1) vd fun ve =>
 au ve (
 ae (aa d 0) false (fun c=>c (aa e 0) g none) (fun c=>c .undef g none) fun vg s v6 =>
 ae (aa d 0) false (fun O=>O (aa d 1) s none) (fun c=>c .undef s none) fun vh t wg =>
 ae (aa d 0) false (fun P=>ah vg vh 7 fun vi =>
 P vi t none) (fun c=>c .undef t none) fun vj m v7 =>
 ae (aa d 0) false (fun C=>aJ vj 0 fun vk =>
 C vk m none) (fun c=>c .undef m none) fun vl i v8 =>
 ae (aa d 0) false (fun D=>av i vl 2 fun vm =>
 D vm i none) (fun c=>c .undef i none) fun vn n v9 =>
 ae (aa d 0) false (fun E=>E a0 n none) (fun c=>c .undef n none) fun vo o wa =>
 ae (aa d 0) false (fun F=>F (aa e 1) o none) (fun c=>c .undef o none) fun vp p wb =>
 ae (aa d 0) false (fun G=>ah vo vp 7 fun vq =>
 G vq p none) (fun c=>c .undef p none) fun vr q wc =>
 ae (aa d 0) false (fun H=>aJ vr 0 fun vs =>
 H vs q none) (fun c=>c .undef q none) fun vt j wd =>
 ae (aa d 0) false (fun I=>av j vt 2 fun vu =>
 I vu j none) (fun c=>c .undef j none) fun vv r we =>
 ae (aa d 0) false (fun L=>jw false [1,1] vn vv fun vw =>
 L vw r none) (fun c=>c .undef r none) fun vx w wf =>
 aL (aa d 0) (Bo true) vx fun vy =>
 af .add (aa d 1) (N .i64 1) fun vf =>
 S [vy,vf] w) (
 cK (aa d 0) fun vz =>
 au vz (
 ah a0 (aa e 1) 7 fun v0 =>
 av g v0 7 fun v1 =>
 dW p1 1 [(N .i64 0),(N .u64 0),(N .i64 0),(St []),(St []),(St []),(.sc (.slice none 0 0))] [(0,7,v1)] fun V B =>
 bP V B g fun v2 x =>
 appW p1 7 96 [(N .i64 0),(N .u64 0),(N .i64 0),(St []),(St []),(St []),(.sc (.slice none 0 0))] false (aa e 0) v2 x fun v3 y =>
 l [v3] y) (
 l [(aa e 0)] g))) [vc,(N .i64 0)] v) (fun v5 z =>
 af .add (aa e 1) (N .i64 1) fun Y =>
 R [(aa v5 0),Y] z)) (
 Q (aa e 0) h)) [v4,(N .i64 0)] u
def BU (p1:Nat) (p2 p3:ai) (a0:AV) (M0:RM) (Q:ak) : Prop :=
 gz p1 a0 fun ya wh =>
 bP ya wh M0 fun d S =>
 aJ d 0 fun zx =>
 av S zx 2 fun c1 =>
 p2 [c1] S fun d4 U =>
 cK d4 fun j =>
 aj j false (fun c=>aJ d 2 fun h9 =>
 c h9 U) (fun c=>c .undef U) fun j4 F =>
 aj j false (fun xj=>az F j4 fun yb =>
 xj yb F) (fun c=>c .undef F) fun ys v3 =>
 aj j false (fun xu=>af .neq ys (N .i64 1) fun yt =>
 xu yt v3) (fun c=>c .undef v3) fun yu wc =>
 aj j false (fun x5=>x5 yu wc) (fun c=>c .undef wc) fun t V =>
 aj t true (fun wm=>aJ d 2 fun yv =>
 wm yv V) (fun c=>c .undef V) fun yw z =>
 aj t true (fun wv=>az z yw fun yx =>
 wv yx z) (fun c=>c .undef z) fun yy vk =>
 aj t true (fun w4=>af .neq yy (N .i64 2) fun yz =>
 w4 yz vk) (fun c=>c .undef vk) fun y0 vr =>
 aj j false (fun xd=>aL t y0 (Bo false) fun y1 =>
 xd y1 vr) (fun c=>c .undef vr) fun y2 vw =>
 aL j (Bo true) y2 fun m =>
 aj m false (fun xg=>aJ d 3 fun y3 =>
 xg y3 vw) (fun c=>c .undef vw) fun y4 G =>
 aj m false (fun xh=>az G y4 fun y5 =>
 xh y5 G) (fun c=>c .undef G) fun y6 vx =>
 aj m false (fun xi=>pR y6 fun y7 =>
 xi y7 vx) (fun c=>c .undef vx) fun y8 vy =>
 aj m false (fun xk=>af .lss y8 (N .i64 1) fun y9 =>
 xk y9 vy) (fun c=>c .undef vy) fun za vz =>
 aL m (Bo true) za fun n =>
 aj n false (fun xl=>aJ d 3 fun zb =>
 xl zb vz) (fun c=>c .undef vz) fun zc H =>
 aj n false (fun xm=>az H zc fun zd =>
 xm zd H) (fun c=>c .undef H) fun ze v0 =>
 aj n false (fun xn=>pR ze fun zf =>
 xn zf v0) (fun c=>c .undef v0) fun zg v1 =>
 aj n false (fun xo=>af .gtr zg (N .i64 64) fun zh =>
 xo zh v1) (fun c=>c .undef v1) fun zi v2 =>
 aL n (Bo true) zi fun o =>
 aj o false (fun xp=>aJ d 4 fun zj =>
 xp zj v2) (fun c=>c .undef v2) fun zk I =>
 aj o false (fun xq=>az I zk fun zl =>
 xq zl I) (fun c=>c .undef I) fun zm v4 =>
 aj o false (fun xr=>pR zm fun zn =>
 xr zn v4) (fun c=>c .undef v4) fun zo v5 =>
 aj o false (fun xs=>af .gtr zo (N .i64 64) fun zp =>
 xs zp v5) (fun c=>c .undef v5) fun zq v6 =>
 aL o (Bo true) zq fun p =>
 aj p false (fun xt=>aJ d 5 fun zr =>
 xt zr v6) (fun c=>c .undef v6) fun zs L =>
 aj p false (fun xv=>az L zs fun zt =>
 xv zt L) (fun c=>c .undef L) fun zu v7 =>
 aj p false (fun xw=>pR zu fun zv =>
 xw zv v7) (fun c=>c .undef v7) fun zw v8 =>
 aj p false (fun xx=>af .gtr zw (N .i64 512) fun zy =>
 xx zy v8) (fun c=>c .undef v8) fun zz v9 =>
 aL p (Bo true) zz fun q =>
 aj q false (fun xy=>aJ d 6 fun z0 =>
 xy z0 v9) (fun c=>c .undef v9) fun z1 O =>
 aj q false (fun xz=>az O z1 fun z2 =>
 xz z2 O) (fun c=>c .undef O) fun z3 wa =>
 aj q false (fun x0=>bQ z3 fun z4 =>
 x0 z4 wa) (fun c=>c .undef wa) fun z5 wb =>
 aj q false (fun x1=>af .gtr z5 (N .i64 64) fun z6 =>
 x1 z6 wb) (fun c=>c .undef wb) fun z7 s =>
 aL q (Bo true) z7 fun z8 =>
 au z8 (
 Q (Bo false) s) (
 aJ d 2 fun z9 =>
 az s z9 fun c0 =>
 af .eql c0 (N .i64 1) fun u =>
 aj u true (fun x2=>aJ d 4 fun c2 =>
 x2 c2 s) (fun c=>c .undef s) fun c3 P =>
 aj u true (fun x3=>az P c3 fun c4 =>
 x3 c4 P) (fun c=>c .undef P) fun c5 wd =>
 aj u true (fun x4=>gV .eql c5 (St []) fun c6 =>
 x4 c6 wd) (fun c=>c .undef wd) fun c7 we =>
 aL u c7 (Bo false) fun i =>
 aj i false (fun x6=>aJ d 2 fun c8 =>
 x6 c8 we) (fun c=>c .undef we) fun c9 R =>
 aj i false (fun x7=>az R c9 fun d0 =>
 x7 d0 R) (fun c=>c .undef R) fun d1 wf =>
 aj i false (fun x8=>af .eql d1 (N .i64 2) fun d2 =>
 x8 d2 wf) (fun c=>c .undef wf) fun d3 W =>
 aj i false (fun wi=>wi d3 W) (fun c=>c .undef W) fun v X =>
 aj v true (fun wj=>aJ d 5 fun d5 =>
 wj d5 X) (fun c=>c .undef X) fun d6 w =>
 aj v true (fun wk=>az w d6 fun d7 =>
 wk d7 w) (fun c=>c .undef w) fun d8 Y =>
 aj v true (fun wl=>gV .neq d8 (St []) fun d9 =>
 wl d9 Y) (fun c=>c .undef Y) fun e0 Z =>
 aj i false (fun wn=>aL v e0 (Bo false) fun e1 =>
 wn e1 Z) (fun c=>c .undef Z) fun e2 va =>
 aL i (Bo true) e2 fun e3 =>
 au e3 (
 Q (Bo false) va) (
 aM (fun x9 h l =>
 aJ d 6 fun e4 =>
 az l e4 fun e5 =>
 bQ e5 fun e6 =>
 af .lss (aa h 0) e6 fun e7 =>
 au e7 (
 aJ d 6 fun e9 =>
 az l e9 fun g0 =>
 ah g0 (aa h 0) 2 fun g1 =>
 av l g1 2 fun g2 =>
 p2 [g2] l fun g3 vb =>
 cK g3 fun g =>
 ae g false (fun wo=>aJ d 6 fun g4 =>
 wo g4 vb none) (fun c=>c .undef vb none) fun g5 x j5 =>
 ae g false (fun wp=>az x g5 fun g6 =>
 wp g6 x none) (fun c=>c .undef x none) fun g7 vc j6 =>
 ae g false (fun wq=>wq (aa h 0) vc none) (fun c=>c .undef vc none) fun g8 vd j7 =>
 ae g false (fun wr=>ah g7 g8 2 fun g9 =>
 wr g9 vd none) (fun c=>c .undef vd none) fun h0 y j8 =>
 ae g false (fun ws=>av y h0 2 fun h1 =>
 ws h1 y none) (fun c=>c .undef y none) fun h2 ve j9 =>
 ae g false (fun wt=>aJ d 0 fun h3 =>
 wt h3 ve none) (fun c=>c .undef ve none) fun h4 A l0 =>
 ae g false (fun wu=>av A h4 2 fun h5 =>
 wu h5 A none) (fun c=>c .undef A none) fun h6 vf l1 =>
 ae g false (fun ww=>jw false [1,1] h2 h6 fun h7 =>
 ww h7 vf none) (fun c=>c .undef vf none) fun h8 vg l2 =>
 aL g (Bo true) h8 fun r =>
 ae r false (fun wx=>wx (aa h 0) vg none) (fun c=>c .undef vg none) fun i0 vh l3 =>
 ae r false (fun wy=>af .gtr i0 (N .i64 0) fun i1 =>
 wy i1 vh none) (fun c=>c .undef vh none) fun i2 vi l4 =>
 ae r false (fun wz=>wz i2 vi none) (fun c=>c .undef vi none) fun e vj l5 =>
 ae e true (fun w0=>aJ d 6 fun i3 =>
 w0 i3 vj none) (fun c=>c .undef vj none) fun i4 B l6 =>
 ae e true (fun w1=>az B i4 fun i5 =>
 w1 i5 B none) (fun c=>c .undef B none) fun i6 vl l7 =>
 ae e true (fun w2=>w2 (aa h 0) vl none) (fun c=>c .undef vl none) fun i7 vm l8 =>
 ae e true (fun w3=>af .sub i7 (N .i64 1) fun i8 =>
 w3 i8 vm none) (fun c=>c .undef vm none) fun i9 vn l9 =>
 ae e true (fun w5=>ah i6 i9 2 fun j0 =>
 w5 j0 vn none) (fun c=>c .undef vn none) fun j1 C m0 =>
 ae e true (fun w6=>av C j1 2 fun j2 =>
 w6 j2 C none) (fun c=>c .undef C none) fun j3 vo m1 =>
 ae e true (fun w7=>aJ d 6 fun yc =>
 w7 yc vo none) (fun c=>c .undef vo none) fun yd D m2 =>
 ae e true (fun w8=>az D yd fun ye =>
 w8 ye D none) (fun c=>c .undef D none) fun yf vp m3 =>
 ae e true (fun w9=>w9 (aa h 0) vp none) (fun c=>c .undef vp none) fun yg vq m4 =>
 ae e true (fun xa=>ah yf yg 2 fun yh =>
 xa yh vq none) (fun c=>c .undef vq none) fun yi E m5 =>
 ae e true (fun xb=>av E yi 2 fun yj =>
 xb yj E none) (fun c=>c .undef E none) fun yk vs m6 =>
 aj e true (fun xc=>p3 [j3,yk] vs fun yl wg =>
 xc yl wg) (fun c=>c .undef vs) fun ym vt =>
 ae e true (fun xe=>cK ym fun yn =>
 xe yn vt none) (fun c=>c .undef vt none) fun yo vu m7 =>
 ae r false (fun xf=>aL e yo (Bo false) fun yp =>
 xf yp vu none) (fun c=>c .undef vu none) fun yq vv m8 =>
 aL r (Bo true) yq fun yr =>
 au yr (
 Q (Bo false) vv) (
 af .add (aa h 0) (N .i64 1) fun e8 =>
 x9 [e8] vv)) (
 Q (Bo true) l)) [(N .i64 0)] va))
def sS (p1 p2:Nat) (a0:AV) (M0:RM) (Q:ak) : Prop :=
 dB a0 fun vs =>
 aJ vs 1 fun vt =>
 az M0 vt fun v =>
 bQ v fun P =>
 aM (fun L e g =>
 af .lss (aa e 1) P fun R =>
 au R (
 bR (fun m =>
 ah v (aa e 1) 5 fun S =>
 av g S 5 fun U =>
 bP (.row [(N .i64 0),(N .u64 0),(St []),(St []),(St [])] false p1 0) (fun u=>.ptr u 0) g fun l w =>
 aC w l U 5 fun n =>
 bQ (aa e 0) fun V =>
 af .eql V (N .i64 0) fun d =>
 ae d false (fun c=>c (aa e 0) n none) (fun c=>c .undef n none) fun W p u =>
 ae d false (fun G=>G (aa e 0) p none) (fun c=>c .undef p none) fun X s v1 =>
 ae d false (fun I=>bQ X fun Y =>
 I Y s none) (fun c=>c .undef s none) fun Z t v2 =>
 ae d false (fun B=>af .sub Z (N .i64 1) fun va =>
 B va t none) (fun c=>c .undef t none) fun vb o vv =>
 ae d false (fun C=>ah W vb 1 fun vc =>
 C vc o none) (fun c=>c .undef o none) fun vd h vw =>
 ae d false (fun D=>az h vd fun ve =>
 D ve h none) (fun c=>c .undef h none) fun vf q vx =>
 ae d false (fun E=>aJ l 2 fun vg =>
 E vg q none) (fun c=>c .undef q none) fun vh i vy =>
 ae d false (fun F=>az i vh fun vi =>
 F vi i none) (fun c=>c .undef i none) fun vj r vz =>
 ae d false (fun H=>gV .neq vf vj fun vk =>
 H vk r none) (fun c=>c .undef r none) fun vl j v0 =>
 aL d (Bo true) vl fun vm =>
 au vm (
 aJ l 2 fun vn =>
 az j vn fun vo =>
 dW p2 1 [(St [])] [(0,1,vo)] fun O A =>
 bP O A j fun vp x =>
 appW p2 1 16 [(St [])] false (aa e 0) vp x fun vq y =>
 m [vq] y) (
 m [(aa e 0)] j)) (fun vu z =>
 af .add (aa e 1) (N .i64 1) fun vr =>
 L [(aa vu 0),vr] z)) (
 Q (aa e 0) g)) [(.sc (.slice none 0 0)),(N .i64 0)] M0
def uq (p1:Nat) (a0 a1:AV) (M0:RM) (Q:ak) : Prop :=
 dB a0 fun E =>
 aJ E 1 fun s =>
 az M0 s fun i =>
 bQ i fun t =>
 aM (fun q c e =>
 af .lss (aa c 1) t fun u =>
 au u (
 bR (fun h =>
 ah i (aa c 1) 5 fun v =>
 av e v 5 fun w =>
 bP (.row [(N .i64 0),(N .u64 0),(St []),(St []),(St [])] false p1 0) (fun o=>.ptr o 0) e fun g j =>
 aC j g w 5 fun d =>
 aJ g 2 fun x =>
 az d x fun y =>
 gV .eql y a1 fun z =>
 au z (
 av d g 5 fun A =>
 dW p1 1 [(N .i64 0),(N .u64 0),(St []),(St []),(St [])] [(0,5,A)] fun r p =>
 bP r p d fun B l =>
 appW p1 5 64 [(N .i64 0),(N .u64 0),(St []),(St []),(St [])] false (aa c 0) B l fun C m =>
 h [C] m) (
 h [(aa c 0)] d)) (fun F n =>
 af .add (aa c 1) (N .i64 1) fun D =>
 q [(aa F 0),D] n)) (
 Q (aa c 0) e)) [(.sc (.slice none 0 0)),(N .i64 0)] M0
def EB (p1:Nat) (p2:ai) (p3:Nat) (p4:ai) (a0 a1 a2:AV) (M0:RM) (Q:ak) : Prop :=
 gz p1 a2 fun h g =>
 bP h g M0 fun j c =>
 p2 [a0,a1] c fun l d =>
 p4 [l,(.fn (.func p3) [] [j])] d fun i e =>
 Q i e
def Tw (p1 p2 p3:Nat) (p4:ai) (p5:Nat) (p6 p7:ai) (a0 a1:AV) (M0:RM) (Q:ak) : Prop :=
 gz p1 a0 fun va R =>
 bP va R M0 fun d C =>
 bP (.row [(N .i64 0),(N .u64 0),(N .i64 0),(St []),(St []),(St []),(.sc (.slice none 0 0))] false p1 0) (fun i=>.ptr i 0) C fun h D =>
 bQ a1 fun vf =>
 aM (fun Z p j =>
 af .lss (aa p 0) vf fun vg =>
 au vg (
 ah a1 (aa p 0) 5 fun vh =>
 av j vh 5 fun vi =>
 bP (.row [(N .i64 0),(N .u64 0),(St []),(St []),(St [])] false p2 0) (fun i=>.ptr i 0) j fun B G =>
 aC G B vi 5 fun n =>
 aJ d 6 fun vj =>
 az n vj fun vk =>
 aJ B 0 fun vl =>
 av n vl 2 fun vm =>
 dW p3 1 [(N .i64 0),(N .u64 0)] [(0,2,vm)] fun vb S =>
 bP vb S n fun vn L =>
 appW p3 2 16 [(N .i64 0),(N .u64 0)] false vk vn L fun vo O =>
 aJ d 6 fun vp =>
 aC O vp vo 1 fun P =>
 af .add (aa p 0) (N .i64 1) fun vq =>
 Z [vq] P) (
 aJ d 6 fun vr =>
 az j vr fun vs =>
 p4 [vs,(.fn (.func p5) [] [])] j fun wi A =>
 av A d 7 fun vt =>
 p6 [vt] A fun vu g =>
 au vu (
 av g d 7 fun vv =>
 aC g h vv 7 fun r =>
 av r h 7 fun vc =>
 Q (.tup [vc,(N .i64 0)]) r) (
 bR (fun q =>
 aJ d 6 fun vw =>
 az g vw fun vx =>
 bQ vx fun vy =>
 af .gtr vy (N .i64 64) fun vz =>
 au vz (
 av g d 7 fun v0 =>
 bP (.row [(N .i64 0),(N .u64 0),(N .i64 0),(St []),(St []),(St []),(.sc (.slice none 0 0))] false p1 0) (fun i=>.ptr i 0) g fun o E =>
 aC E o v0 7 fun F =>
 aJ o 6 fun v1 =>
 aC F v1 (.sc (.slice none 0 0)) 1 fun s =>
 av s o 7 fun v2 =>
 p6 [v2] s fun e t =>
 aj e true (fun c=>aJ d 6 fun v3 =>
 c v3 t) (fun c=>c .undef t) fun v4 l =>
 aj e true (fun U=>az l v4 fun v5 =>
 U v5 l) (fun c=>c .undef l) fun v6 u =>
 aj e true (fun V=>aJ d 0 fun v7 =>
 V v7 u) (fun c=>c .undef u) fun v8 m =>
 aj e true (fun W=>av m v8 2 fun v9 =>
 W v9 m) (fun c=>c .undef m) fun wa v =>
 aj e true (fun X=>p7 [v6,wa] v fun wb H =>
 X wb H) (fun c=>c .undef v) fun wc w =>
 aj e true (fun Y=>cK wc fun wd =>
 Y wd w) (fun c=>c .undef w) fun we x =>
 aL e we (Bo false) fun wf =>
 au wf (
 jo [(N .i64 0),(N .u64 0),(N .i64 0),(St []),(St []),(St []),(.sc (.slice none 0 0))] [] fun wg =>
 aC x h wg 7 fun y =>
 av y h 7 fun vd =>
 Q (.tup [vd,(N .i64 2)]) y) (
 q [] x)) (
 q [] g)) (fun wj I =>
 jo [(N .i64 0),(N .u64 0),(N .i64 0),(St []),(St []),(St []),(.sc (.slice none 0 0))] [] fun wh =>
 aC I h wh 7 fun z =>
 av z h 7 fun ve =>
 Q (.tup [ve,(N .i64 1)]) z)))) [(N .i64 0)] D
def xL (p1:Nat) (a0:AV) (M0:RM) (Q:ak) : Prop :=
 jP false 2 a0 (.sc (.slice none 0 0)) fun h =>
 au h (
 Q (.sc (.slice none 0 0)) M0) (
 dW p1 0 [(N .i64 0),(N .u64 0),(St []),(St []),(St [])] [] fun g e =>
 bP g e M0 fun i c =>
 appW p1 5 64 [(N .i64 0),(N .u64 0),(St []),(St []),(St [])] false i a0 c fun j d =>
 Q j d)
def sM (p1 p2:ai) (a0 a1:AV) (M0:RM) (Q:ak) : Prop :=
 bQ a0 fun c =>
 lG .u64 c fun g =>
 p1 [g] M0 fun h d =>
 p2 [a0,(N .i64 0),c,h,a1] d fun i e =>
 Q (.tup []) e
def Gv (p1:Nat) (p2 p3:ai) (p4:Nat) (p5:ai) (a0 a1:AV) (M0:RM) (Q:ak) : Prop :=
 gz p1 a0 fun y v =>
 bP y v M0 fun l r =>
 gz p1 a1 fun z w =>
 bP z w r fun m c =>
 aJ l 2 fun P =>
 az c P fun R =>
 aJ m 2 fun S =>
 az c S fun U =>
 aJ l 3 fun n =>
 az c n fun o =>
 aJ m 3 fun p =>
 az c p fun q =>
 aJ l 0 fun g =>
 av c g 2 fun h =>
 aJ m 0 fun i =>
 av c i 2 fun j =>
 p2 [R,U] c fun V d =>
 az d n fun B =>
 (B=o∧az d p fun C =>
 (C=q∧av d g 2 fun F =>
 (F=h∧av d i 2 fun H =>
 (H=j∧p2 [o,q] d fun D e =>
 av e g 2 fun E =>
 (E=h∧av e i 2 fun G =>
 (G=j∧p3 [h,j] e fun I s =>
 dW p4 3 [(N .i64 0)] [(0,1,V),(1,1,D),(2,1,I)] fun A x =>
 sP A x s fun L t W =>
 p5 [L] t fun O u =>
 Q O u))))))
def pV (p1:ai) (p2:Nat) (cv:(FuncId→ai)) (a0 a1:AV) (M0:RM) (Q:ak) : Prop :=
 p1 [a0,a1] M0 fun g j =>
 af .eql g (N .i64 (-1)) fun s =>
 au s (
 Q a0 j) (
 af .add g (N .i64 1) fun t =>
 aM (fun r c d =>
 bQ a0 fun u =>
 af .lss (aa c 1) u fun v =>
 au v (
 bR (fun i =>
 ah a0 (aa c 1) 5 fun x =>
 av d x 5 fun y =>
 bP (.row [(N .i64 0),(N .u64 0),(St []),(St []),(St [])] false p2 0) (fun q=>.ptr q 0) d fun h m =>
 aC m h y 5 fun l =>
 av l h 5 fun z =>
 bD cv a1 [z] l fun A e =>
 cK A fun B =>
 au B (
 av e h 5 fun C =>
 ah a0 (aa c 0) 5 fun D =>
 aC e D C 5 fun n =>
 af .add (aa c 0) (N .i64 1) fun E =>
 i [E] n) (
 i [(aa c 0)] e)) (fun H o =>
 af .add (aa c 1) (N .i64 1) fun w =>
 r [(aa H 0),w] o)) (
 gq (bZ 5 a0 (some (aa c 0)) none none) fun F =>
 Lt [(N .i64 0),(N .u64 0),(St []),(St []),(St [])] F d fun I p =>
 gq (bZ 5 a0 none (some (aa c 0)) none) fun G =>
 Q G p)) [g,t] j)
def uC (p1:Nat) (p2:ai) (a0 a1:AV) (M0:RM) (Q:ak) : Prop :=
 gz p1 a0 fun g e =>
 bP g e M0 fun h c =>
 aJ a1 6 fun i =>
 az c i fun j =>
 aJ h 0 fun l =>
 av c l 2 fun m =>
 p2 [j,m] c fun n d =>
 Q n d
def vQ (p1:Nat) (p2:ai) (a0 a1:AV) (M0:RM) (Q:ak) : Prop :=
 gz p1 a1 fun g e =>
 bP g e M0 fun h c =>
 av c h 2 fun i =>
 p2 [a0,i] c fun j d =>
 af .geq j (N .i64 0) fun l =>
 Q l d
def xS (a0 a1:AV) (M0:RM) (Q:ak) : Prop :=
 bQ a0 fun q =>
 bQ a1 fun r =>
 af .neq q r fun g =>
 au g (
 Q (Bo false) M0) (
 bQ a0 fun h =>
 aM (fun e d c =>
 af .lss (aa d 0) h fun i =>
 au i (
 ah a0 (aa d 0) 5 fun j =>
 av c j 5 fun l =>
 ah a1 (aa d 0) 5 fun m =>
 av c m 5 fun n =>
 jw true [1,1,2,2,2] l n fun o =>
 au o (
 Q (Bo false) c) (
 af .add (aa d 0) (N .i64 1) fun p =>
 e [p] c)) (
 Q (Bo true) c)) [(N .i64 0)] M0)
def BS (a0 a1 a2:AV) (M0:RM) (Q:ak) : Prop :=
 pR a0 fun V =>
 af .geq V (N .i64 1) fun g =>
 aj g true (fun c=>c a0 M0) (fun c=>c .undef M0) fun z h =>
 aj g true (fun r=>pR z fun A =>
 r A h) (fun c=>c .undef h) fun B n =>
 aj g true (fun w=>af .leq B (N .i64 64) fun C =>
 w C n) (fun c=>c .undef n) fun D o =>
 aL g D (Bo false) fun d =>
 aj d true (fun x=>x a1 o) (fun c=>c .undef o) fun E p =>
 aj d true (fun y=>pR E fun F =>
 y F p) (fun c=>c .undef p) fun G i =>
 aj d true (fun s=>af .leq G (N .i64 64) fun H =>
 s H i) (fun c=>c .undef i) fun I j =>
 aL d I (Bo false) fun e =>
 aj e true (fun t=>t a2 j) (fun c=>c .undef j) fun L l =>
 aj e true (fun u=>pR L fun O =>
 u O l) (fun c=>c .undef l) fun P m =>
 aj e true (fun v=>af .leq P (N .i64 512) fun R =>
 v R m) (fun c=>c .undef m) fun S q =>
 aL e S (Bo false) fun U =>
 Q U q
def Gt (p1:Nat) (p2 p3:ai) (a0:AV) (M0:RM) (Q:ak) : Prop :=
 LV p1 64 [(N .i64 0),(N .u64 0),(St []),(St []),(St [])] (N .i64 0) (N .i64 0) fun v4 Z =>
 bP v4 Z M0 fun xu U =>
 aM (fun v2 e j =>
 bQ a0 fun v5 =>
 af .lss (aa e 1) v5 fun v6 =>
 au v6 (
 bR (fun p =>
 ah a0 (aa e 1) 7 fun v8 =>
 aJ v8 2 fun v9 =>
 az j v9 fun wa =>
 af .eql wa (N .i64 1) fun wb =>
 aM (fun v3 d h =>
 bQ a0 fun wc =>
 af .lss (aa d 1) wc fun wd =>
 au wd (
 ae (aa d 0) true (fun c=>c a0 h none) (fun c=>c .undef h none) fun wf x x6 =>
 ae (aa d 0) true (fun vm=>vm (aa d 1) x none) (fun c=>c .undef x none) fun wg E yp =>
 ae (aa d 0) true (fun vv=>ah wf wg 7 fun wh =>
 vv wh E none) (fun c=>c .undef E none) fun wi q x9 =>
 ae (aa d 0) true (fun vb=>aJ wi 6 fun wj =>
 vb wj q none) (fun c=>c .undef q none) fun wk l ya =>
 ae (aa d 0) true (fun vc=>az l wk fun wl =>
 vc wl l none) (fun c=>c .undef l none) fun wm s yb =>
 ae (aa d 0) true (fun vd=>vd a0 s none) (fun c=>c .undef s none) fun wn t yc =>
 ae (aa d 0) true (fun ve=>ve (aa e 1) t none) (fun c=>c .undef t none) fun wo u yd =>
 ae (aa d 0) true (fun vf=>ah wn wo 7 fun wp =>
 vf wp u none) (fun c=>c .undef u none) fun wq v ye =>
 ae (aa d 0) true (fun vg=>aJ wq 0 fun wr =>
 vg wr v none) (fun c=>c .undef v none) fun ws m yf =>
 ae (aa d 0) true (fun vh=>av m ws 2 fun wt =>
 vh wt m none) (fun c=>c .undef m none) fun wu w yg =>
 aj (aa d 0) true (fun vi=>p2 [wm,wu] w fun wv Y =>
 vi wv Y) (fun c=>c .undef w) fun ww y =>
 ae (aa d 0) true (fun vj=>cK ww fun wx =>
 vj wx y none) (fun c=>c .undef y none) fun wy z yh =>
 aL (aa d 0) wy (Bo false) fun i =>
 ae i true (fun vk=>vk (aa d 1) z none) (fun c=>c .undef z none) fun wz A yi =>
 ae i true (fun vl=>vl (aa e 1) A none) (fun c=>c .undef A none) fun w0 B yj =>
 ae i true (fun vn=>af .lss wz w0 fun w1 =>
 vn w1 B none) (fun c=>c .undef B none) fun w2 C yk =>
 ae i true (fun vo=>vo w2 C none) (fun c=>c .undef C none) fun g D yl =>
 ae g true (fun vp=>vp a0 D none) (fun c=>c .undef D none) fun w3 F ym =>
 ae g true (fun vq=>vq (aa d 1) F none) (fun c=>c .undef F none) fun w4 G yn =>
 ae g true (fun vr=>ah w3 w4 7 fun w5 =>
 vr w5 G none) (fun c=>c .undef G none) fun w6 H yo =>
 ae g true (fun vs=>aJ w6 0 fun w7 =>
 vs w7 H none) (fun c=>c .undef H none) fun w8 n yq =>
 ae g true (fun vt=>av n w8 2 fun w9 =>
 vt w9 n none) (fun c=>c .undef n none) fun xa I yr =>
 ae g true (fun vu=>vu a0 I none) (fun c=>c .undef I none) fun xb L ys =>
 ae g true (fun vw=>vw (aa e 1) L none) (fun c=>c .undef L none) fun xc O yt =>
 ae g true (fun vx=>ah xb xc 7 fun xd =>
 vx xd O none) (fun c=>c .undef O none) fun xe P yu =>
 ae g true (fun vy=>aJ xe 0 fun xf =>
 vy xf P none) (fun c=>c .undef P none) fun xg o yv =>
 ae g true (fun vz=>av o xg 2 fun xh =>
 vz xh o none) (fun c=>c .undef o none) fun xi R yw =>
 ae g true (fun v0=>jw false [1,1] xa xi fun xj =>
 v0 xj R none) (fun c=>c .undef R none) fun xk S yx =>
 ae i true (fun v1=>aL g xk (Bo false) fun xl =>
 v1 xl S none) (fun c=>c .undef S none) fun xm r x7 =>
 ae i true (fun va=>cK xm fun xn =>
 va xn r none) (fun c=>c .undef r none) fun xo V x8 =>
 aL i xo (Bo false) fun xp =>
 af .add (aa d 1) (N .i64 1) fun we =>
 v3 [xp,we] V) (
 au (aa d 0) (
 ah a0 (aa e 1) 7 fun xq =>
 aJ xq 0 fun xr =>
 av h xr 2 fun xs =>
 ah a0 (aa e 1) 7 fun xt =>
 aJ xt 3 fun xv =>
 az h xv fun xw =>
 ah a0 (aa e 1) 7 fun xx =>
 aJ xx 4 fun xy =>
 az h xy fun xz =>
 ah a0 (aa e 1) 7 fun x0 =>
 aJ x0 5 fun x1 =>
 az h x1 fun x2 =>
 jo [(N .i64 0),(N .u64 0),(St []),(St []),(St [])] [(0,2,xs),(2,1,xw),(3,1,xz),(4,1,x2)] fun x3 =>
 p3 [(aa e 0),x3] h fun x4 W =>
 p [x4] W) (
 p [(aa e 0)] h))) [wb,(N .i64 0)] j) (fun x5 X =>
 af .add (aa e 1) (N .i64 1) fun v7 =>
 v2 [(aa x5 0),v7] X)) (
 Q (aa e 0) j)) [xu,(N .i64 0)] U
def DY (p1:Nat) (a0:AV) (M0:RM) (Q:ak) : Prop :=
 LV p1 16 [(St [])] (N .i64 0) (N .i64 0) fun S z =>
 bP S z M0 fun vw v =>
 aM (fun R e g =>
 bQ a0 fun vx =>
 af .lss (aa e 1) vx fun vy =>
 au vy (
 bR (fun l =>
 af .eql (aa e 1) (N .i64 0) fun d =>
 ae d false (fun c=>c a0 g none) (fun c=>c .undef g none) fun W m v0 =>
 ae d false (fun D=>D (aa e 1) m none) (fun c=>c .undef m none) fun X s v9 =>
 ae d false (fun O=>ah W X 5 fun Y =>
 O Y s none) (fun c=>c .undef s none) fun Z u wb =>
 ae d false (fun P=>aJ Z 2 fun va =>
 P va u none) (fun c=>c .undef u none) fun vb h v1 =>
 ae d false (fun B=>az h vb fun vc =>
 B vc h none) (fun c=>c .undef h none) fun vd n v2 =>
 ae d false (fun C=>C a0 n none) (fun c=>c .undef n none) fun ve o v3 =>
 ae d false (fun E=>E (aa e 1) o none) (fun c=>c .undef o none) fun vf p v4 =>
 ae d false (fun F=>af .sub vf (N .i64 1) fun vg =>
 F vg p none) (fun c=>c .undef p none) fun vh q v5 =>
 ae d false (fun G=>ah ve vh 5 fun vi =>
 G vi q none) (fun c=>c .undef q none) fun vj r v6 =>
 ae d false (fun H=>aJ vj 2 fun vk =>
 H vk r none) (fun c=>c .undef r none) fun vl i v7 =>
 ae d false (fun I=>az i vl fun vm =>
 I vm i none) (fun c=>c .undef i none) fun vn t v8 =>
 ae d false (fun L=>gV .neq vd vn fun vo =>
 L vo t none) (fun c=>c .undef t none) fun vp j wa =>
 aL d (Bo true) vp fun vq =>
 au vq (
 ah a0 (aa e 1) 5 fun vr =>
 aJ vr 2 fun vs =>
 az j vs fun vt =>
 dW p1 1 [(St [])] [(0,1,vt)] fun U A =>
 bP U A j fun vu w =>
 appW p1 1 16 [(St [])] false (aa e 0) vu w fun vv x =>
 l [vv] x) (
 l [(aa e 0)] j)) (fun vz y =>
 af .add (aa e 1) (N .i64 1) fun V =>
 R [(aa vz 0),V] y)) (
 Q (aa e 0) g)) [vw,(N .i64 0)] v
def zZ (p1:Nat) (a0 a1:AV) (M0:RM) (Q:ak) : Prop :=
 gz p1 a0 fun p l =>
 bP p l M0 fun t e =>
 az e a1 fun u =>
 gV .neq u (St []) fun d =>
 aj d true (fun c=>aJ t 3 fun v =>
 c v e) (fun c=>c .undef e) fun w g =>
 aj d true (fun m=>az g w fun x =>
 m x g) (fun c=>c .undef g) fun y h =>
 aj d true (fun n=>az h a1 fun z =>
 n z h) (fun c=>c .undef h) fun A i =>
 aj d true (fun o=>gV .neq y A fun q =>
 o q i) (fun c=>c .undef i) fun r j =>
 aL d r (Bo false) fun s =>
 Q s j
def vF (p1 p2:ai) (a0 a1:AV) (M0:RM) (Q:ak) : Prop :=
 bQ a0 fun c =>
 lG .u64 c fun g =>
 p1 [g] M0 fun h d =>
 p2 [a0,(N .i64 0),c,h,a1] d fun i e =>
 Q (.tup []) e
def NG (p1:Nat) (p2 p3:ai) (p4:Nat) (p5:ai) (a0 a1:AV) (M0:RM) (Q:ak) : Prop :=
 gz p1 a0 fun t q =>
 bP t q M0 fun j m =>
 gz p1 a1 fun u r =>
 bP u r m fun l c =>
 aJ j 1 fun B =>
 az c B fun C =>
 aJ l 1 fun D =>
 az c D fun E =>
 aJ j 0 fun e =>
 az c e fun g =>
 aJ l 0 fun h =>
 az c h fun i =>
 p2 [C,E] c fun F d =>
 az d e fun w =>
 (w=g∧az d h fun x =>
 (x=i∧p3 [g,i] d fun y n =>
 dW p4 2 [(N .i64 0)] [(0,1,F),(1,1,y)] fun v s =>
 sP v s n fun z o G =>
 p5 [z] o fun A p =>
 Q A p))
def gW (p1 p2 p3 p4 p5 p6:ai) (cv:(FuncId→ai)) (p7 p8 p9:ai) (a0 a1 a2 a3 a4:AV) (M0:RM) (Q:ak) : Prop :=
 aM (fun n c i =>
 af .sub (aa c 1) (aa c 0) fun W =>
 af .leq W (N .i64 12) fun v4 =>
 au v4 (
 p1 [a0,(aa c 0),(aa c 1),a4] i fun xi va =>
 Q (.tup []) va) (
 af .eql (aa c 2) (N .i64 0) fun v5 =>
 au v5 (
 p2 [a0,(aa c 0),(aa c 1),a4] i fun xj vb =>
 Q (.tup []) vb) (
 bR (fun p =>
 cK (aa c 3) fun v6 =>
 au v6 (
 p3 [a0,(aa c 0),(aa c 1),a4] i fun xk vc =>
 af .sub (aa c 2) (N .i64 1) fun v7 =>
 p [v7] vc) (
 p [(aa c 2)] i)) (fun h vd =>
 p4 [a0,(aa c 0),(aa c 1),a4] vd fun X E =>
 dm X 0 fun Y =>
 dm X 1 fun Z =>
 bR (fun r =>
 af .eql Z (N .i64 2) fun v8 =>
 au v8 (
 p5 [a0,(aa c 0),(aa c 1),a4] E fun xl vi =>
 af .sub (aa c 1) (N .i64 1) fun v9 =>
 af .sub Y (aa c 0) fun wa =>
 af .sub v9 wa fun wb =>
 r [wb,(N .i64 1)] vi) (
 r [Y,Z] E)) (fun j O =>
 bR (fun q =>
 aj (aa c 3) true (fun d=>d (aa c 4) O) (fun d=>d .undef O) fun wc s =>
 aL (aa c 3) wc (Bo false) fun o =>
 aj o true (fun vj=>vj (aa j 1) s) (fun d=>d .undef s) fun wd t =>
 aj o true (fun vk=>af .eql wd (N .i64 1) fun we =>
 vk we t) (fun d=>d .undef t) fun wf u =>
 aL o wf (Bo false) fun wg =>
 au wg (
 p6 [a0,(aa c 0),(aa c 1),a4] u fun wh v =>
 au wh (
 Q (.tup []) v) (
 q [] v)) (
 q [] u)) (fun xm w =>
 af .gtr (aa c 0) (N .i64 0) fun e =>
 ae e true (fun vl=>vl a4 w none) (fun d=>d .undef w none) fun wi x w4 =>
 ae e true (fun vm=>vm a0 x none) (fun d=>d .undef x none) fun wj y w5 =>
 ae e true (fun vn=>vn (aa c 0) y none) (fun d=>d .undef y none) fun wk z w6 =>
 ae e true (fun vo=>af .sub wk (N .i64 1) fun wl =>
 vo wl z none) (fun d=>d .undef z none) fun wm A w7 =>
 ae e true (fun vp=>ah wj wm 5 fun wn =>
 vp wn A none) (fun d=>d .undef A none) fun wo l w8 =>
 ae e true (fun vq=>av l wo 5 fun wp =>
 vq wp l none) (fun d=>d .undef l none) fun wq B w9 =>
 ae e true (fun vr=>vr a0 B none) (fun d=>d .undef B none) fun wr C xa =>
 ae e true (fun vs=>vs (aa j 0) C none) (fun d=>d .undef C none) fun ws D xb =>
 ae e true (fun vt=>ah wr ws 5 fun wt =>
 vt wt D none) (fun d=>d .undef D none) fun wu m xc =>
 ae e true (fun vu=>av m wu 5 fun wv =>
 vu wv m none) (fun d=>d .undef m none) fun ww F xd =>
 aj e true (fun vv=>bD cv wi [wq,ww] F fun wx ve =>
 vv wx ve) (fun d=>d .undef F) fun wy G =>
 ae e true (fun vw=>af .lss wy (N .i64 0) fun wz =>
 vw wz G none) (fun d=>d .undef G none) fun w0 H xe =>
 ae e true (fun vx=>cK w0 fun w1 =>
 vx w1 H none) (fun d=>d .undef H none) fun w2 I xf =>
 aL e w2 (Bo false) fun w3 =>
 au w3 (
 p7 [a0,(aa c 0),(aa c 1),(aa j 0),a4] I fun vy vf =>
 n [vy,(aa c 1),(aa h 0),(aa c 3),(aa c 4)] vf) (
 p8 [a0,(aa c 0),(aa c 1),(aa j 0),a4] I fun P L =>
 dm P 0 fun g =>
 dm P 1 fun R =>
 af .sub g (aa c 0) fun S =>
 af .sub (aa c 1) g fun U =>
 af .quo W (N .i64 8) fun V =>
 af .lss S U fun vz =>
 au vz (
 af .geq S V fun v0 =>
 p9 [a0,(aa c 0),g,(aa h 0),a4] L fun xg vg =>
 af .add g (N .i64 1) fun v1 =>
 n [v1,(aa c 1),(aa h 0),v0,R] vg) (
 af .geq U V fun v2 =>
 af .add g (N .i64 1) fun v3 =>
 p9 [a0,v3,(aa c 1),(aa h 0),a4] L fun xh vh =>
 n [(aa c 0),g,(aa h 0),v2,R] vh)))))))) [a1,a2,a3,(Bo true),(Bo true)] M0
def JU (a0:AV) (M0:RM) (Q:ak) : Prop :=
 bQ a0 fun l =>
 aM (fun g d c =>
 af .lss (aa d 0) l fun m =>
 au m (
 ah a0 (aa d 0) 1 fun h =>
 az c h fun e =>
 af .neq e (N .i64 0) fun i =>
 au i (
 Q e c) (
 af .add (aa d 0) (N .i64 1) fun j =>
 g [j] c)) (
 Q (N .i64 0) c)) [(N .i64 0)] M0
def sI (p1:ai) (a0 a1:AV) (M0:RM) (Q:ak) : Prop :=
 p1 [a0] M0 fun i e =>
 p1 [a1] e fun d c =>
 au i (
 au d (
 Q (N .i64 0) c) (
 Q (N .i64 (-1)) c)) (
 au d (
 Q (N .i64 1) c) (
 gV .lss a0 a1 fun g =>
 au g (
 Q (N .i64 (-1)) c) (
 gV .gtr a0 a1 fun h =>
 au h (
 Q (N .i64 1) c) (
 Q (N .i64 0) c))))
def q9 (cv:(FuncId→ai)) (a0 a1:AV) (M0:RM) (Q:ak) : Prop :=
 bQ a0 fun m =>
 aM (fun g c d =>
 af .lss (aa c 0) m fun n =>
 au n (
 ah a0 (aa c 0) 5 fun h =>
 av d h 5 fun i =>
 bD cv a1 [i] d fun j e =>
 au j (
 Q (aa c 0) e) (
 af .add (aa c 0) (N .i64 1) fun l =>
 g [l] e)) (
 Q (N .i64 (-1)) d)) [(N .i64 0)] M0
def Cg (p1:Nat) (a0 a1:AV) (M0:RM) (Q:ak) : Prop :=
 gz p1 a1 fun i g =>
 bP i g M0 fun p e =>
 bQ a0 fun q =>
 aM (fun h d c =>
 af .lss (aa d 0) q fun r =>
 au r (
 av c p 2 fun j =>
 ah a0 (aa d 0) 2 fun l =>
 av c l 2 fun m =>
 jw false [1,1] j m fun n =>
 au n (
 Q (aa d 0) c) (
 af .add (aa d 0) (N .i64 1) fun o =>
 h [o] c)) (
 Q (N .i64 (-1)) c)) [(N .i64 0)] e
def DD (p1:Nat) (p2:ai) (a0 a1:AV) (M0:RM) (Q:ak) : Prop :=
 gz p1 a1 fun O A =>
 bP O A M0 fun l u =>
 aM (fun L e n =>
 bQ a0 fun vo =>
 af .lss (aa e 0) vo fun d =>
 ae d true (fun c=>c a0 n none) (fun c=>c .undef n none) fun U o vp =>
 ae d true (fun G=>G (aa e 0) o none) (fun c=>c .undef o none) fun V s vt =>
 ae d true (fun H=>ah U V 5 fun W =>
 H W s none) (fun c=>c .undef s none) fun X i vu =>
 ae d true (fun I=>av i X 5 fun Y =>
 I Y i none) (fun c=>c .undef i none) fun Z g vq =>
 ae d true (fun E=>av g l 5 fun va =>
 E va g none) (fun c=>c .undef g none) fun vb p vr =>
 aj d true (fun F=>p2 [Z,vb] p fun vc v =>
 F vc v) (fun c=>c .undef p) fun vd q =>
 aL d vd (Bo false) fun ve =>
 au ve (
 af .add (aa e 0) (N .i64 1) fun vf =>
 L [vf] q) (
 dW p1 0 [(N .i64 0),(N .u64 0),(St []),(St []),(St [])] [] fun P B =>
 sP P B q fun vg r vs =>
 gq (bZ 5 a0 none (some (aa e 0)) none) fun vh =>
 av r l 5 fun j =>
 dW p1 1 [(N .i64 0),(N .u64 0),(St []),(St []),(St [])] [(0,5,j)] fun R C =>
 sP R C r fun t w z =>
 gq (bZ 5 a0 (some (aa e 0)) none none) fun m =>
 appW p1 5 64 [(N .i64 0),(N .u64 0),(St []),(St []),(St [])] false vg vh w fun vi h =>
 av h l 5 fun vj =>
 (vj=j∧dW p1 1 [(N .i64 0),(N .u64 0),(St []),(St []),(St [])] [(0,5,j)] fun S D =>
 (A7 z h S D t∧gq (bZ 5 a0 (some (aa e 0)) none none) fun vm =>
 (vm=m∧appW p1 5 64 [(N .i64 0),(N .u64 0),(St []),(St []),(St [])] false vi t h fun vk x =>
 gq (bZ 5 a0 (some (aa e 0)) none none) fun vl =>
 (vl=m∧appW p1 5 64 [(N .i64 0),(N .u64 0),(St []),(St []),(St [])] false vk m x fun vn y =>
 Q vn y)))))) [(N .i64 0)] u
def iW (p1 p2 p3 p4 p5 p6:ai) (cv:(FuncId→ai)) (p7 p8 p9:ai) (a0 a1 a2 a3 a4:AV) (M0:RM) (Q:ak) : Prop :=
 aM (fun n c i =>
 af .sub (aa c 1) (aa c 0) fun W =>
 af .leq W (N .i64 12) fun v4 =>
 au v4 (
 p1 [a0,(aa c 0),(aa c 1),a4] i fun xi va =>
 Q (.tup []) va) (
 af .eql (aa c 2) (N .i64 0) fun v5 =>
 au v5 (
 p2 [a0,(aa c 0),(aa c 1),a4] i fun xj vb =>
 Q (.tup []) vb) (
 bR (fun p =>
 cK (aa c 3) fun v6 =>
 au v6 (
 p3 [a0,(aa c 0),(aa c 1),a4] i fun xk vc =>
 af .sub (aa c 2) (N .i64 1) fun v7 =>
 p [v7] vc) (
 p [(aa c 2)] i)) (fun h vd =>
 p4 [a0,(aa c 0),(aa c 1),a4] vd fun X E =>
 dm X 0 fun Y =>
 dm X 1 fun Z =>
 bR (fun r =>
 af .eql Z (N .i64 2) fun v8 =>
 au v8 (
 p5 [a0,(aa c 0),(aa c 1),a4] E fun xl vi =>
 af .sub (aa c 1) (N .i64 1) fun v9 =>
 af .sub Y (aa c 0) fun wa =>
 af .sub v9 wa fun wb =>
 r [wb,(N .i64 1)] vi) (
 r [Y,Z] E)) (fun j O =>
 bR (fun q =>
 aj (aa c 3) true (fun d=>d (aa c 4) O) (fun d=>d .undef O) fun wc s =>
 aL (aa c 3) wc (Bo false) fun o =>
 aj o true (fun vj=>vj (aa j 1) s) (fun d=>d .undef s) fun wd t =>
 aj o true (fun vk=>af .eql wd (N .i64 1) fun we =>
 vk we t) (fun d=>d .undef t) fun wf u =>
 aL o wf (Bo false) fun wg =>
 au wg (
 p6 [a0,(aa c 0),(aa c 1),a4] u fun wh v =>
 au wh (
 Q (.tup []) v) (
 q [] v)) (
 q [] u)) (fun xm w =>
 af .gtr (aa c 0) (N .i64 0) fun e =>
 ae e true (fun vl=>vl a4 w none) (fun d=>d .undef w none) fun wi x w4 =>
 ae e true (fun vm=>vm a0 x none) (fun d=>d .undef x none) fun wj y w5 =>
 ae e true (fun vn=>vn (aa c 0) y none) (fun d=>d .undef y none) fun wk z w6 =>
 ae e true (fun vo=>af .sub wk (N .i64 1) fun wl =>
 vo wl z none) (fun d=>d .undef z none) fun wm A w7 =>
 ae e true (fun vp=>ah wj wm 2 fun wn =>
 vp wn A none) (fun d=>d .undef A none) fun wo l w8 =>
 ae e true (fun vq=>av l wo 2 fun wp =>
 vq wp l none) (fun d=>d .undef l none) fun wq B w9 =>
 ae e true (fun vr=>vr a0 B none) (fun d=>d .undef B none) fun wr C xa =>
 ae e true (fun vs=>vs (aa j 0) C none) (fun d=>d .undef C none) fun ws D xb =>
 ae e true (fun vt=>ah wr ws 2 fun wt =>
 vt wt D none) (fun d=>d .undef D none) fun wu m xc =>
 ae e true (fun vu=>av m wu 2 fun wv =>
 vu wv m none) (fun d=>d .undef m none) fun ww F xd =>
 aj e true (fun vv=>bD cv wi [wq,ww] F fun wx ve =>
 vv wx ve) (fun d=>d .undef F) fun wy G =>
 ae e true (fun vw=>af .lss wy (N .i64 0) fun wz =>
 vw wz G none) (fun d=>d .undef G none) fun w0 H xe =>
 ae e true (fun vx=>cK w0 fun w1 =>
 vx w1 H none) (fun d=>d .undef H none) fun w2 I xf =>
 aL e w2 (Bo false) fun w3 =>
 au w3 (
 p7 [a0,(aa c 0),(aa c 1),(aa j 0),a4] I fun vy vf =>
 n [vy,(aa c 1),(aa h 0),(aa c 3),(aa c 4)] vf) (
 p8 [a0,(aa c 0),(aa c 1),(aa j 0),a4] I fun P L =>
 dm P 0 fun g =>
 dm P 1 fun R =>
 af .sub g (aa c 0) fun S =>
 af .sub (aa c 1) g fun U =>
 af .quo W (N .i64 8) fun V =>
 af .lss S U fun vz =>
 au vz (
 af .geq S V fun v0 =>
 p9 [a0,(aa c 0),g,(aa h 0),a4] L fun xg vg =>
 af .add g (N .i64 1) fun v1 =>
 n [v1,(aa c 1),(aa h 0),v0,R] vg) (
 af .geq U V fun v2 =>
 af .add g (N .i64 1) fun v3 =>
 p9 [a0,v3,(aa c 1),(aa h 0),a4] L fun xh vh =>
 n [(aa c 0),g,(aa h 0),v2,R] vh)))))))) [a1,a2,a3,(Bo true),(Bo true)] M0
def sN (p1:ai) (a0 a1:AV) (M0:RM) (Q:ak) : Prop :=
 p1 [a0] M0 fun i e =>
 p1 [a1] e fun d c =>
 au i (
 au d (
 Q (N .i64 0) c) (
 Q (N .i64 (-1)) c)) (
 au d (
 Q (N .i64 1) c) (
 af .lss a0 a1 fun g =>
 au g (
 Q (N .i64 (-1)) c) (
 af .gtr a0 a1 fun h =>
 au h (
 Q (N .i64 1) c) (
 Q (N .i64 0) c))))
def xM (p1:ai) (a0 a1:AV) (M0:RM) (Q:ak) : Prop :=
 p1 [a0] M0 fun i e =>
 p1 [a1] e fun d c =>
 au i (
 au d (
 Q (N .i64 0) c) (
 Q (N .i64 (-1)) c)) (
 au d (
 Q (N .i64 1) c) (
 af .lss a0 a1 fun g =>
 au g (
 Q (N .i64 (-1)) c) (
 af .gtr a0 a1 fun h =>
 au h (
 Q (N .i64 1) c) (
 Q (N .i64 0) c))))
def eO (cv:(FuncId→ai)) (a0 a1 a2 a3:AV) (M0:RM) (Q:ak) : Prop :=
 af .add a1 (N .i64 1) fun R =>
 aM (fun O j l =>
 af .lss (aa j 0) a2 fun S =>
 au S (
 aM (fun P e o =>
 af .gtr (aa e 0) a1 fun d =>
 ae d true (fun c=>c a3 o none) (fun c=>c .undef o none) fun V r vy =>
 ae d true (fun H=>H a0 r none) (fun c=>c .undef r none) fun W u v7 =>
 ae d true (fun L=>L (aa e 0) u none) (fun c=>c .undef u none) fun X v v8 =>
 ae d true (fun z=>ah W X 5 fun Y =>
 z Y v none) (fun c=>c .undef v none) fun Z h vz =>
 ae d true (fun A=>av h Z 5 fun va =>
 A va h none) (fun c=>c .undef h none) fun vb m v0 =>
 ae d true (fun B=>B a0 m none) (fun c=>c .undef m none) fun vc n v1 =>
 ae d true (fun C=>C (aa e 0) n none) (fun c=>c .undef n none) fun vd p v2 =>
 ae d true (fun D=>af .sub vd (N .i64 1) fun ve =>
 D ve p none) (fun c=>c .undef p none) fun vf q v3 =>
 ae d true (fun E=>ah vc vf 5 fun vg =>
 E vg q none) (fun c=>c .undef q none) fun vh i v4 =>
 ae d true (fun F=>av i vh 5 fun vi =>
 F vi i none) (fun c=>c .undef i none) fun vj s v5 =>
 aj d true (fun G=>bD cv V [vb,vj] s fun vk w =>
 G vk w) (fun c=>c .undef s) fun vl t =>
 ae d true (fun I=>af .lss vl (N .i64 0) fun vm =>
 I vm t none) (fun c=>c .undef t none) fun vn g v6 =>
 aL d vn (Bo false) fun vo =>
 au vo (
 af .sub (aa e 0) (N .i64 1) fun vq =>
 af .sub (aa e 0) (N .i64 1) fun vr =>
 ah a0 vr 5 fun vs =>
 av g vs 5 fun vt =>
 ah a0 (aa e 0) 5 fun vu =>
 av g vu 5 fun vv =>
 ah a0 (aa e 0) 5 fun vw =>
 aC g vw vt 5 fun x =>
 ah a0 vq 5 fun vx =>
 aC x vx vv 5 fun y =>
 af .sub (aa e 0) (N .i64 1) fun vp =>
 P [vp] y) (
 af .add (aa j 0) (N .i64 1) fun U =>
 O [U] g)) [(aa j 0)] l) (
 Q (.tup []) l)) [R] M0
def ma (p1:ai) (a0 a1 a2 a3:AV) (M0:RM) (Q:ak) : Prop :=
 af .sub a2 a1 fun e =>
 af .sub e (N .i64 1) fun p =>
 af .quo p (N .i64 2) fun q =>
 aM (fun n g h =>
 af .geq (aa g 0) (N .i64 0) fun r =>
 au r (
 p1 [a0,(aa g 0),e,a1,a3] h fun E i =>
 af .sub (aa g 0) (N .i64 1) fun s =>
 n [s] i) (
 af .sub e (N .i64 1) fun t =>
 aM (fun o c d =>
 af .geq (aa c 0) (N .i64 0) fun u =>
 au u (
 af .add a1 (aa c 0) fun w =>
 af .add a1 (aa c 0) fun x =>
 ah a0 x 5 fun y =>
 av d y 5 fun z =>
 ah a0 a1 5 fun A =>
 av d A 5 fun B =>
 ah a0 a1 5 fun C =>
 aC d C z 5 fun j =>
 ah a0 w 5 fun D =>
 aC j D B 5 fun l =>
 p1 [a0,(N .i64 0),(aa c 0),a1,a3] l fun F m =>
 af .sub (aa c 0) (N .i64 1) fun v =>
 o [v] m) (
 Q (.tup []) d)) [t] h)) [q] M0
def jC (p1:Nat) (p2 p3:ai) (a0 a1 a2 a3:AV) (M0:RM) (Q:ak) : Prop :=
 af .sub a2 a1 fun c =>
 af .geq c (N .i64 8) fun w =>
 au w (
 lG .u64 c fun x =>
 bP (.row [(N .u64 0)] false p1 0) (fun u=>.ptr u 0) M0 fun l o =>
 aC o l x 1 fun p =>
 p2 [c] p fun y q =>
 af .quo c (N .i64 4) fun z =>
 af .mul z (N .i64 2) fun A =>
 af .add a1 A fun B =>
 af .sub B (N .i64 1) fun C =>
 aM (fun v d i =>
 af .quo c (N .i64 4) fun D =>
 af .mul D (N .i64 2) fun E =>
 af .add a1 E fun F =>
 af .add F (N .i64 1) fun G =>
 af .leq (aa d 0) G fun H =>
 au H (
 bR (fun n =>
 p3 [l] i fun L j =>
 af .sub y (N .u64 1) fun O =>
 af .and L O fun P =>
 lG .i64 P fun g =>
 bR (fun h =>
 af .geq g c fun R =>
 au R (
 af .sub g c fun S =>
 h [S] j) (
 h [g] j)) (fun m e =>
 af .add a1 (aa m 0) fun U =>
 af .add a1 (aa m 0) fun V =>
 ah a0 V 5 fun W =>
 av e W 5 fun X =>
 ah a0 (aa d 0) 5 fun Y =>
 av e Y 5 fun Z =>
 ah a0 (aa d 0) 5 fun va =>
 aC e va X 5 fun s =>
 ah a0 U 5 fun vb =>
 aC s vb Z 5 fun t =>
 n [] t)) (fun vc r =>
 af .add (aa d 0) (N .i64 1) fun I =>
 v [I] r)) (
 Q (.tup []) i)) [C] q) (
 Q (.tup []) M0)
def kF (p1:Nat) (p2 p3:ai) (a0 a1 a2 a3:AV) (M0:RM) (Q:ak) : Prop :=
 af .sub a2 a1 fun d =>
 bP (.row [(N .i64 0)] false p1 0) (fun v=>.ptr v 0) M0 fun c g =>
 af .quo d (N .i64 4) fun w =>
 af .mul w (N .i64 1) fun x =>
 af .add a1 x fun n =>
 af .quo d (N .i64 4) fun y =>
 af .mul y (N .i64 2) fun z =>
 af .add a1 z fun h =>
 af .quo d (N .i64 4) fun A =>
 af .mul A (N .i64 3) fun B =>
 af .add a1 B fun o =>
 bR (fun l =>
 af .geq d (N .i64 8) fun C =>
 au C (
 bR (fun m =>
 af .geq d (N .i64 50) fun D =>
 au D (
 p2 [a0,n,c,a3] g fun E q =>
 p2 [a0,h,c,a3] q fun F r =>
 p2 [a0,o,c,a3] r fun G s =>
 m [E,F,G] s) (
 m [n,h,o] g)) (fun i t =>
 p3 [a0,(aa i 0),(aa i 1),(aa i 2),c,a3] t fun H u =>
 l [H] u)) (
 l [h] g)) (fun j e =>
 az e c fun p =>
 af .eql p (N .i64 0) fun I =>
 au I (
 Q (.tup [(aa j 0),(N .i64 1)]) e) (
 af .eql p (N .i64 12) fun L =>
 au L (
 Q (.tup [(aa j 0),(N .i64 2)]) e) (
 Q (.tup [(aa j 0),(N .i64 0)]) e)))
def jO (a0 a1 a2 a3:AV) (M0:RM) (Q:ak) : Prop :=
 af .sub a2 (N .i64 1) fun i =>
 aM (fun h c d =>
 af .lss (aa c 0) (aa c 1) fun j =>
 au j (
 ah a0 (aa c 1) 5 fun l =>
 av d l 5 fun m =>
 ah a0 (aa c 0) 5 fun n =>
 av d n 5 fun o =>
 ah a0 (aa c 0) 5 fun p =>
 aC d p m 5 fun e =>
 ah a0 (aa c 1) 5 fun q =>
 aC e q o 5 fun g =>
 af .add (aa c 0) (N .i64 1) fun r =>
 af .sub (aa c 1) (N .i64 1) fun s =>
 h [r,s] g) (
 Q (.tup []) d)) [a1,i] M0
def gu (cv:(FuncId→ai)) (a0 a1 a2 a3:AV) (M0:RM) (Q:ak) : Prop :=
 af .add a1 (N .i64 1) fun v5 =>
 aM (fun vg s t =>
 af .lss (aa s 1) (N .i64 5) fun v7 =>
 au v7 (
 bR (fun o =>
 aM (fun vh d w =>
 af .lss (aa d 0) a2 fun e =>
 ae e true (fun c=>c a3 w none) (fun c=>c .undef w none) fun v9 z xs =>
 ae e true (fun vc=>vc a0 z none) (fun c=>c .undef z none) fun wa E x2 =>
 ae e true (fun vf=>vf (aa d 0) E none) (fun c=>c .undef E none) fun wb G x3 =>
 ae e true (fun U=>ah wa wb 5 fun wc =>
 U wc G none) (fun c=>c .undef G none) fun wd q xt =>
 ae e true (fun V=>av q wd 5 fun we =>
 V we q none) (fun c=>c .undef q none) fun wf u xu =>
 ae e true (fun W=>W a0 u none) (fun c=>c .undef u none) fun wg v xv =>
 ae e true (fun X=>X (aa d 0) v none) (fun c=>c .undef v none) fun wh x xw =>
 ae e true (fun Y=>af .sub wh (N .i64 1) fun wi =>
 Y wi x none) (fun c=>c .undef x none) fun wj y xx =>
 ae e true (fun Z=>ah wg wj 5 fun wk =>
 Z wk y none) (fun c=>c .undef y none) fun wl r xy =>
 ae e true (fun va=>av r wl 5 fun wm =>
 va wm r none) (fun c=>c .undef r none) fun wn A xz =>
 aj e true (fun vb=>bD cv v9 [wf,wn] A fun wo H =>
 vb wo H) (fun c=>c .undef A) fun wp B =>
 ae e true (fun vd=>af .lss wp (N .i64 0) fun wq =>
 vd wq B none) (fun c=>c .undef B none) fun wr C x0 =>
 ae e true (fun ve=>cK wr fun ws =>
 ve ws C none) (fun c=>c .undef C none) fun wt i x1 =>
 aL e wt (Bo false) fun wu =>
 au wu (
 af .add (aa d 0) (N .i64 1) fun wv =>
 vh [wv] i) (
 af .eql (aa d 0) a2 fun ww =>
 au ww (
 Q (Bo true) i) (
 af .sub a2 a1 fun wx =>
 af .lss wx (N .i64 50) fun wy =>
 au wy (
 Q (Bo false) i) (
 af .sub (aa d 0) (N .i64 1) fun wz =>
 af .sub (aa d 0) (N .i64 1) fun w0 =>
 ah a0 w0 5 fun w1 =>
 av i w1 5 fun w2 =>
 ah a0 (aa d 0) 5 fun w3 =>
 av i w3 5 fun w4 =>
 ah a0 (aa d 0) 5 fun w5 =>
 aC i w5 w2 5 fun I =>
 ah a0 wz 5 fun w6 =>
 aC I w6 w4 5 fun D =>
 bR (fun p =>
 af .sub (aa d 0) a1 fun w7 =>
 af .geq w7 (N .i64 2) fun w8 =>
 au w8 (
 af .sub (aa d 0) (N .i64 1) fun w9 =>
 aM (fun vi g j =>
 af .geq (aa g 0) (N .i64 1) fun xa =>
 au xa (
 ah a0 (aa g 0) 5 fun xc =>
 av j xc 5 fun xd =>
 af .sub (aa g 0) (N .i64 1) fun xe =>
 ah a0 xe 5 fun xf =>
 av j xf 5 fun xg =>
 bD cv a3 [xd,xg] j fun xh l =>
 af .lss xh (N .i64 0) fun xi =>
 cK xi fun xj =>
 au xj (
 p [] l) (
 af .sub (aa g 0) (N .i64 1) fun xk =>
 af .sub (aa g 0) (N .i64 1) fun xl =>
 ah a0 xl 5 fun xm =>
 av l xm 5 fun xn =>
 ah a0 (aa g 0) 5 fun xo =>
 av l xo 5 fun xp =>
 ah a0 (aa g 0) 5 fun xq =>
 aC l xq xn 5 fun L =>
 ah a0 xk 5 fun vk =>
 aC L vk xp 5 fun O =>
 af .sub (aa g 0) (N .i64 1) fun xb =>
 vi [xb] O)) (
 p [] j)) [w9] D) (
 p [] D)) (fun x4 F =>
 af .sub a2 (aa d 0) fun vl =>
 af .geq vl (N .i64 2) fun vm =>
 au vm (
 af .add (aa d 0) (N .i64 1) fun vn =>
 aM (fun vj h m =>
 af .lss (aa h 0) a2 fun vo =>
 au vo (
 ah a0 (aa h 0) 5 fun vq =>
 av m vq 5 fun vr =>
 af .sub (aa h 0) (N .i64 1) fun vs =>
 ah a0 vs 5 fun vt =>
 av m vt 5 fun vu =>
 bD cv a3 [vr,vu] m fun vv n =>
 af .lss vv (N .i64 0) fun vw =>
 cK vw fun vx =>
 au vx (
 o [(aa d 0)] n) (
 af .sub (aa h 0) (N .i64 1) fun vy =>
 af .sub (aa h 0) (N .i64 1) fun vz =>
 ah a0 vz 5 fun v0 =>
 av n v0 5 fun v1 =>
 ah a0 (aa h 0) 5 fun v2 =>
 av n v2 5 fun v3 =>
 ah a0 (aa h 0) 5 fun v4 =>
 aC n v4 v1 5 fun P =>
 ah a0 vy 5 fun v6 =>
 aC P v6 v3 5 fun R =>
 af .add (aa h 0) (N .i64 1) fun vp =>
 vj [vp] R)) (
 o [(aa d 0)] m)) [vn] F) (
 o [(aa d 0)] F)))))) [(aa s 0)] t) (fun xr S =>
 af .add (aa s 1) (N .i64 1) fun v8 =>
 vg [(aa xr 0),v8] S)) (
 Q (Bo false) t)) [v5,(N .i64 0)] M0
def ji (cv:(FuncId→ai)) (a0 a1 a2 a3 a4:AV) (M0:RM) (Q:ak) : Prop :=
 ah a0 a3 5 fun vv =>
 av M0 vv 5 fun vw =>
 ah a0 a1 5 fun vx =>
 av M0 vx 5 fun vy =>
 ah a0 a1 5 fun vz =>
 aC M0 vz vw 5 fun L =>
 ah a0 a3 5 fun v0 =>
 aC L v0 vy 5 fun O =>
 af .add a1 (N .i64 1) fun v1 =>
 af .sub a2 (N .i64 1) fun v2 =>
 aM (fun vs o P =>
 aM (fun vt g v =>
 af .leq (aa g 0) (aa o 1) fun d =>
 ae d true (fun c=>c a4 v none) (fun c=>c .undef v none) fun v3 z xg =>
 ae d true (fun vj=>vj a0 z none) (fun c=>c .undef z none) fun v4 F xz =>
 ae d true (fun vr=>vr a1 F none) (fun c=>c .undef F none) fun v5 p xh =>
 ae d true (fun W=>ah v4 v5 5 fun v6 =>
 W v6 p none) (fun c=>c .undef p none) fun v7 j xi =>
 ae d true (fun X=>av j v7 5 fun v8 =>
 X v8 j none) (fun c=>c .undef j none) fun v9 q xj =>
 ae d true (fun Y=>Y a0 q none) (fun c=>c .undef q none) fun wa r xk =>
 ae d true (fun Z=>Z (aa g 0) r none) (fun c=>c .undef r none) fun wb s xl =>
 ae d true (fun va=>ah wa wb 5 fun wc =>
 va wc s none) (fun c=>c .undef s none) fun wd l xm =>
 ae d true (fun vb=>av l wd 5 fun we =>
 vb we l none) (fun c=>c .undef l none) fun wf t xn =>
 aj d true (fun vc=>bD cv v3 [v9,wf] t fun wg R =>
 vc wg R) (fun c=>c .undef t) fun wh u =>
 ae d true (fun vd=>af .lss wh (N .i64 0) fun wi =>
 vd wi u none) (fun c=>c .undef u none) fun wj w xo =>
 ae d true (fun ve=>cK wj fun wk =>
 ve wk w none) (fun c=>c .undef w none) fun wl x xp =>
 aL d wl (Bo false) fun wm =>
 au wm (
 af .add (aa g 0) (N .i64 1) fun wn =>
 vt [wn] x) (
 aM (fun vu h y =>
 af .leq (aa g 0) (aa h 0) fun e =>
 ae e true (fun vf=>vf a4 y none) (fun c=>c .undef y none) fun wo A xq =>
 ae e true (fun vg=>vg a0 A none) (fun c=>c .undef A none) fun wp B xr =>
 ae e true (fun vh=>vh a1 B none) (fun c=>c .undef B none) fun wq C xs =>
 ae e true (fun vi=>ah wp wq 5 fun wr =>
 vi wr C none) (fun c=>c .undef C none) fun ws m xt =>
 ae e true (fun vk=>av m ws 5 fun wt =>
 vk wt m none) (fun c=>c .undef m none) fun wu D xu =>
 ae e true (fun vl=>vl a0 D none) (fun c=>c .undef D none) fun wv E xv =>
 ae e true (fun vm=>vm (aa h 0) E none) (fun c=>c .undef E none) fun ww G xw =>
 ae e true (fun vn=>ah wv ww 5 fun wx =>
 vn wx G none) (fun c=>c .undef G none) fun wy n xx =>
 ae e true (fun vo=>av n wy 5 fun wz =>
 vo wz n none) (fun c=>c .undef n none) fun w0 H xy =>
 aj e true (fun vp=>bD cv wo [wu,w0] H fun w1 S =>
 vp w1 S) (fun c=>c .undef H) fun w2 I =>
 ae e true (fun vq=>af .lss w2 (N .i64 0) fun w3 =>
 vq w3 I none) (fun c=>c .undef I none) fun w4 i x0 =>
 aL e w4 (Bo false) fun w5 =>
 au w5 (
 af .sub (aa h 0) (N .i64 1) fun w6 =>
 vu [w6] i) (
 af .gtr (aa g 0) (aa h 0) fun w7 =>
 au w7 (
 Q (aa g 0) i) (
 ah a0 (aa h 0) 5 fun w8 =>
 av i w8 5 fun w9 =>
 ah a0 (aa g 0) 5 fun xa =>
 av i xa 5 fun xb =>
 ah a0 (aa g 0) 5 fun xc =>
 aC i xc w9 5 fun U =>
 ah a0 (aa h 0) 5 fun xd =>
 aC U xd xb 5 fun V =>
 af .add (aa g 0) (N .i64 1) fun xe =>
 af .sub (aa h 0) (N .i64 1) fun xf =>
 vs [xe,xf] V))) [(aa o 1)] x)) [(aa o 0)] P) [v1,v2] O
def lc (cv:(FuncId→ai)) (a0 a1 a2 a3 a4:AV) (M0:RM) (Q:ak) : Prop :=
 ah a0 a3 5 fun y8 =>
 av M0 y8 5 fun y9 =>
 ah a0 a1 5 fun za =>
 av M0 za 5 fun zb =>
 ah a0 a1 5 fun zc =>
 aC M0 zc y9 5 fun vt =>
 ah a0 a3 5 fun zd =>
 aC vt zd zb 5 fun vu =>
 af .add a1 (N .i64 1) fun ze =>
 af .sub a2 (N .i64 1) fun vs =>
 aM (fun xh l y =>
 af .leq (aa l 0) vs fun h =>
 ae h true (fun c=>c a4 y none) (fun c=>c .undef y none) fun zf Y e1 =>
 ae h true (fun wy=>wy a0 Y none) (fun c=>c .undef Y none) fun zg vd i1 =>
 ae h true (fun w7=>w7 (aa l 0) vd none) (fun c=>c .undef vd none) fun zh vl i9 =>
 ae h true (fun xe=>ah zg zh 5 fun zi =>
 xe zi vl none) (fun c=>c .undef vl none) fun zj q e8 =>
 ae h true (fun wg=>av q zj 5 fun zk =>
 wg zk q none) (fun c=>c .undef q none) fun zl O g9 =>
 ae h true (fun ws=>ws a0 O none) (fun c=>c .undef O none) fun zm X h4 =>
 ae h true (fun wv=>wv a1 X none) (fun c=>c .undef X none) fun zn Z h5 =>
 ae h true (fun ww=>ah zm zn 5 fun zo =>
 ww zo Z none) (fun c=>c .undef Z none) fun zp u h6 =>
 ae h true (fun wx=>av u zp 5 fun zq =>
 wx zq u none) (fun c=>c .undef u none) fun zr va h7 =>
 aj h true (fun wz=>bD cv zf [zl,zr] va fun zs v1 =>
 wz zs v1) (fun c=>c .undef va) fun zt vb =>
 ae h true (fun w0=>af .lss zt (N .i64 0) fun zu =>
 w0 zu vb none) (fun c=>c .undef vb none) fun zv vc h8 =>
 aL h zv (Bo false) fun zw =>
 au zw (
 af .add (aa l 0) (N .i64 1) fun zx =>
 xh [zx] vc) (
 aM (fun xj j ve =>
 af .leq (aa l 0) (aa j 0) fun e =>
 ae e true (fun w1=>w1 a4 ve none) (fun c=>c .undef ve none) fun zy vf h9 =>
 ae e true (fun w2=>w2 a0 vf none) (fun c=>c .undef vf none) fun zz vg i0 =>
 ae e true (fun w3=>w3 (aa j 0) vg none) (fun c=>c .undef vg none) fun z0 vh i2 =>
 ae e true (fun w4=>ah zz z0 5 fun z1 =>
 w4 z1 vh none) (fun c=>c .undef vh none) fun z2 v i3 =>
 ae e true (fun w5=>av v z2 5 fun z3 =>
 w5 z3 v none) (fun c=>c .undef v none) fun z4 vi i4 =>
 ae e true (fun w6=>w6 a0 vi none) (fun c=>c .undef vi none) fun z5 vj i5 =>
 ae e true (fun w8=>w8 a1 vj none) (fun c=>c .undef vj none) fun z6 vk i6 =>
 ae e true (fun w9=>ah z5 z6 5 fun z7 =>
 w9 z7 vk none) (fun c=>c .undef vk none) fun z8 w i7 =>
 ae e true (fun xa=>av w z8 5 fun z9 =>
 xa z9 w none) (fun c=>c .undef w none) fun c0 vm i8 =>
 aj e true (fun xb=>bD cv zy [z4,c0] vm fun c1 v2 =>
 xb c1 v2) (fun c=>c .undef vm) fun c2 vn =>
 ae e true (fun xc=>af .lss c2 (N .i64 0) fun c3 =>
 xc c3 vn none) (fun c=>c .undef vn none) fun c4 vo j0 =>
 ae e true (fun xd=>cK c4 fun c5 =>
 xd c5 vo none) (fun c=>c .undef vo none) fun c6 o j1 =>
 aL e c6 (Bo false) fun c7 =>
 au c7 (
 af .sub (aa j 0) (N .i64 1) fun c8 =>
 xj [c8] o) (
 af .gtr (aa l 0) (aa j 0) fun c9 =>
 au c9 (
 ah a0 a1 5 fun d0 =>
 av o d0 5 fun d1 =>
 ah a0 (aa j 0) 5 fun d2 =>
 av o d2 5 fun d3 =>
 ah a0 (aa j 0) 5 fun d4 =>
 aC o d4 d1 5 fun v3 =>
 ah a0 a1 5 fun d5 =>
 aC v3 d5 d3 5 fun v4 =>
 Q (.tup [(aa j 0),(Bo true)]) v4) (
 ah a0 (aa j 0) 5 fun d6 =>
 av o d6 5 fun d7 =>
 ah a0 (aa l 0) 5 fun d8 =>
 av o d8 5 fun d9 =>
 ah a0 (aa l 0) 5 fun e0 =>
 aC o e0 d7 5 fun v5 =>
 ah a0 (aa j 0) 5 fun xm =>
 aC v5 xm d9 5 fun v6 =>
 af .add (aa l 0) (N .i64 1) fun xn =>
 af .sub (aa j 0) (N .i64 1) fun xo =>
 aM (fun xk x v7 =>
 aM (fun xl m vp =>
 af .leq (aa m 0) (aa x 1) fun g =>
 ae g true (fun xf=>xf a4 vp none) (fun c=>c .undef vp none) fun xp vq j2 =>
 ae g true (fun xg=>xg a0 vq none) (fun c=>c .undef vq none) fun xq vr e2 =>
 ae g true (fun v8=>v8 (aa m 0) vr none) (fun c=>c .undef vr none) fun xr z e3 =>
 ae g true (fun v9=>ah xq xr 5 fun xs =>
 v9 xs z none) (fun c=>c .undef z none) fun xt p e4 =>
 ae g true (fun wa=>av p xt 5 fun xu =>
 wa xu p none) (fun c=>c .undef p none) fun xv A e5 =>
 ae g true (fun wb=>wb a0 A none) (fun c=>c .undef A none) fun xw B e6 =>
 ae g true (fun wc=>wc a1 B none) (fun c=>c .undef B none) fun xx C e7 =>
 ae g true (fun wd=>ah xw xx 5 fun xy =>
 wd xy C none) (fun c=>c .undef C none) fun xz r e9 =>
 ae g true (fun we=>av r xz 5 fun x0 =>
 we x0 r none) (fun c=>c .undef r none) fun x1 D g0 =>
 aj g true (fun wf=>bD cv xp [xv,x1] D fun x2 vv =>
 wf x2 vv) (fun c=>c .undef D) fun x3 E =>
 ae g true (fun wh=>af .lss x3 (N .i64 0) fun x4 =>
 wh x4 E none) (fun c=>c .undef E none) fun x5 F g1 =>
 aL g x5 (Bo false) fun x6 =>
 au x6 (
 af .add (aa m 0) (N .i64 1) fun x7 =>
 xl [x7] F) (
 aM (fun xi i G =>
 af .leq (aa m 0) (aa i 0) fun d =>
 ae d true (fun wi=>wi a4 G none) (fun c=>c .undef G none) fun x8 H g2 =>
 ae d true (fun wj=>wj a0 H none) (fun c=>c .undef H none) fun x9 I g3 =>
 ae d true (fun wk=>wk (aa i 0) I none) (fun c=>c .undef I none) fun ya L g4 =>
 ae d true (fun wl=>ah x9 ya 5 fun yb =>
 wl yb L none) (fun c=>c .undef L none) fun yc s g5 =>
 ae d true (fun wm=>av s yc 5 fun yd =>
 wm yd s none) (fun c=>c .undef s none) fun ye P g6 =>
 ae d true (fun wn=>wn a0 P none) (fun c=>c .undef P none) fun yf R g7 =>
 ae d true (fun wo=>wo a1 R none) (fun c=>c .undef R none) fun yg S g8 =>
 ae d true (fun wp=>ah yf yg 5 fun yh =>
 wp yh S none) (fun c=>c .undef S none) fun yi t h0 =>
 ae d true (fun wq=>av t yi 5 fun yj =>
 wq yj t none) (fun c=>c .undef t none) fun yk U h1 =>
 aj d true (fun wr=>bD cv x8 [ye,yk] U fun yl vw =>
 wr yl vw) (fun c=>c .undef U) fun ym V =>
 ae d true (fun wt=>af .lss ym (N .i64 0) fun yn =>
 wt yn V none) (fun c=>c .undef V none) fun yo W h2 =>
 ae d true (fun wu=>cK yo fun yp =>
 wu yp W none) (fun c=>c .undef W none) fun yq n h3 =>
 aL d yq (Bo false) fun yr =>
 au yr (
 af .sub (aa i 0) (N .i64 1) fun ys =>
 xi [ys] n) (
 af .gtr (aa m 0) (aa i 0) fun yt =>
 au yt (
 ah a0 a1 5 fun y2 =>
 av n y2 5 fun y3 =>
 ah a0 (aa i 0) 5 fun y4 =>
 av n y4 5 fun y5 =>
 ah a0 (aa i 0) 5 fun y6 =>
 aC n y6 y3 5 fun vx =>
 ah a0 a1 5 fun y7 =>
 aC vx y7 y5 5 fun vy =>
 Q (.tup [(aa i 0),(Bo false)]) vy) (
 ah a0 (aa i 0) 5 fun yu =>
 av n yu 5 fun yv =>
 ah a0 (aa m 0) 5 fun yw =>
 av n yw 5 fun yx =>
 ah a0 (aa m 0) 5 fun yy =>
 aC n yy yv 5 fun vz =>
 ah a0 (aa i 0) 5 fun yz =>
 aC vz yz yx 5 fun v0 =>
 af .add (aa m 0) (N .i64 1) fun y0 =>
 af .sub (aa i 0) (N .i64 1) fun y1 =>
 xk [y0,y1] v0))) [(aa x 1)] F)) [(aa x 0)] v7) [xn,xo] v6))) [vs] vc)) [ze] vu
def wB (a0:AV) (M0:RM) (Q:ak) : Prop :=
 gV .neq a0 a0 fun c =>
 Q c M0
def JA (p1:Nat) (p2:ai) (a0 a1:AV) (M0:RM) (Q:ak) : Prop :=
 gz p1 a0 fun l i =>
 bP l i M0 fun d g =>
 gz p1 a1 fun m j =>
 bP m j g fun e c =>
 aJ d 2 fun H =>
 az c H fun I =>
 aJ e 2 fun L =>
 az c L fun O =>
 gV .neq I O fun P =>
 au P (
 aJ d 2 fun n =>
 az c n fun o =>
 aJ e 2 fun p =>
 az c p fun q =>
 gV .lss o q fun r =>
 Q r c) (
 aJ d 3 fun s =>
 az c s fun t =>
 aJ e 3 fun u =>
 az c u fun v =>
 gV .neq t v fun w =>
 au w (
 aJ d 3 fun x =>
 az c x fun y =>
 aJ e 3 fun z =>
 az c z fun A =>
 gV .lss y A fun B =>
 Q B c) (
 aJ d 0 fun C =>
 av c C 2 fun D =>
 aJ e 0 fun E =>
 av c E 2 fun F =>
 p2 [D,F] c fun G h =>
 Q G h))
def fA (cv:(FuncId→ai)) (a0 a1 a2 a3:AV) (M0:RM) (Q:ak) : Prop :=
 af .add a1 (N .i64 1) fun R =>
 aM (fun O j l =>
 af .lss (aa j 0) a2 fun S =>
 au S (
 aM (fun P e o =>
 af .gtr (aa e 0) a1 fun d =>
 ae d true (fun c=>c a3 o none) (fun c=>c .undef o none) fun V r vy =>
 ae d true (fun H=>H a0 r none) (fun c=>c .undef r none) fun W u v7 =>
 ae d true (fun L=>L (aa e 0) u none) (fun c=>c .undef u none) fun X v v8 =>
 ae d true (fun z=>ah W X 2 fun Y =>
 z Y v none) (fun c=>c .undef v none) fun Z h vz =>
 ae d true (fun A=>av h Z 2 fun va =>
 A va h none) (fun c=>c .undef h none) fun vb m v0 =>
 ae d true (fun B=>B a0 m none) (fun c=>c .undef m none) fun vc n v1 =>
 ae d true (fun C=>C (aa e 0) n none) (fun c=>c .undef n none) fun vd p v2 =>
 ae d true (fun D=>af .sub vd (N .i64 1) fun ve =>
 D ve p none) (fun c=>c .undef p none) fun vf q v3 =>
 ae d true (fun E=>ah vc vf 2 fun vg =>
 E vg q none) (fun c=>c .undef q none) fun vh i v4 =>
 ae d true (fun F=>av i vh 2 fun vi =>
 F vi i none) (fun c=>c .undef i none) fun vj s v5 =>
 aj d true (fun G=>bD cv V [vb,vj] s fun vk w =>
 G vk w) (fun c=>c .undef s) fun vl t =>
 ae d true (fun I=>af .lss vl (N .i64 0) fun vm =>
 I vm t none) (fun c=>c .undef t none) fun vn g v6 =>
 aL d vn (Bo false) fun vo =>
 au vo (
 af .sub (aa e 0) (N .i64 1) fun vq =>
 af .sub (aa e 0) (N .i64 1) fun vr =>
 ah a0 vr 2 fun vs =>
 av g vs 2 fun vt =>
 ah a0 (aa e 0) 2 fun vu =>
 av g vu 2 fun vv =>
 ah a0 (aa e 0) 2 fun vw =>
 aC g vw vt 2 fun x =>
 ah a0 vq 2 fun vx =>
 aC x vx vv 2 fun y =>
 af .sub (aa e 0) (N .i64 1) fun vp =>
 P [vp] y) (
 af .add (aa j 0) (N .i64 1) fun U =>
 O [U] g)) [(aa j 0)] l) (
 Q (.tup []) l)) [R] M0
def nD (p1:ai) (a0 a1 a2 a3:AV) (M0:RM) (Q:ak) : Prop :=
 af .sub a2 a1 fun e =>
 af .sub e (N .i64 1) fun p =>
 af .quo p (N .i64 2) fun q =>
 aM (fun n g h =>
 af .geq (aa g 0) (N .i64 0) fun r =>
 au r (
 p1 [a0,(aa g 0),e,a1,a3] h fun E i =>
 af .sub (aa g 0) (N .i64 1) fun s =>
 n [s] i) (
 af .sub e (N .i64 1) fun t =>
 aM (fun o c d =>
 af .geq (aa c 0) (N .i64 0) fun u =>
 au u (
 af .add a1 (aa c 0) fun w =>
 af .add a1 (aa c 0) fun x =>
 ah a0 x 2 fun y =>
 av d y 2 fun z =>
 ah a0 a1 2 fun A =>
 av d A 2 fun B =>
 ah a0 a1 2 fun C =>
 aC d C z 2 fun j =>
 ah a0 w 2 fun D =>
 aC j D B 2 fun l =>
 p1 [a0,(N .i64 0),(aa c 0),a1,a3] l fun F m =>
 af .sub (aa c 0) (N .i64 1) fun v =>
 o [v] m) (
 Q (.tup []) d)) [t] h)) [q] M0
def kG (p1:Nat) (p2 p3:ai) (a0 a1 a2 a3:AV) (M0:RM) (Q:ak) : Prop :=
 af .sub a2 a1 fun c =>
 af .geq c (N .i64 8) fun w =>
 au w (
 lG .u64 c fun x =>
 bP (.row [(N .u64 0)] false p1 0) (fun u=>.ptr u 0) M0 fun l o =>
 aC o l x 1 fun p =>
 p2 [c] p fun y q =>
 af .quo c (N .i64 4) fun z =>
 af .mul z (N .i64 2) fun A =>
 af .add a1 A fun B =>
 af .sub B (N .i64 1) fun C =>
 aM (fun v d i =>
 af .quo c (N .i64 4) fun D =>
 af .mul D (N .i64 2) fun E =>
 af .add a1 E fun F =>
 af .add F (N .i64 1) fun G =>
 af .leq (aa d 0) G fun H =>
 au H (
 bR (fun n =>
 p3 [l] i fun L j =>
 af .sub y (N .u64 1) fun O =>
 af .and L O fun P =>
 lG .i64 P fun g =>
 bR (fun h =>
 af .geq g c fun R =>
 au R (
 af .sub g c fun S =>
 h [S] j) (
 h [g] j)) (fun m e =>
 af .add a1 (aa m 0) fun U =>
 af .add a1 (aa m 0) fun V =>
 ah a0 V 2 fun W =>
 av e W 2 fun X =>
 ah a0 (aa d 0) 2 fun Y =>
 av e Y 2 fun Z =>
 ah a0 (aa d 0) 2 fun va =>
 aC e va X 2 fun s =>
 ah a0 U 2 fun vb =>
 aC s vb Z 2 fun t =>
 n [] t)) (fun vc r =>
 af .add (aa d 0) (N .i64 1) fun I =>
 v [I] r)) (
 Q (.tup []) i)) [C] q) (
 Q (.tup []) M0)
def lg (p1:Nat) (p2 p3:ai) (a0 a1 a2 a3:AV) (M0:RM) (Q:ak) : Prop :=
 af .sub a2 a1 fun d =>
 bP (.row [(N .i64 0)] false p1 0) (fun v=>.ptr v 0) M0 fun c g =>
 af .quo d (N .i64 4) fun w =>
 af .mul w (N .i64 1) fun x =>
 af .add a1 x fun n =>
 af .quo d (N .i64 4) fun y =>
 af .mul y (N .i64 2) fun z =>
 af .add a1 z fun h =>
 af .quo d (N .i64 4) fun A =>
 af .mul A (N .i64 3) fun B =>
 af .add a1 B fun o =>
 bR (fun l =>
 af .geq d (N .i64 8) fun C =>
 au C (
 bR (fun m =>
 af .geq d (N .i64 50) fun D =>
 au D (
 p2 [a0,n,c,a3] g fun E q =>
 p2 [a0,h,c,a3] q fun F r =>
 p2 [a0,o,c,a3] r fun G s =>
 m [E,F,G] s) (
 m [n,h,o] g)) (fun i t =>
 p3 [a0,(aa i 0),(aa i 1),(aa i 2),c,a3] t fun H u =>
 l [H] u)) (
 l [h] g)) (fun j e =>
 az e c fun p =>
 af .eql p (N .i64 0) fun I =>
 au I (
 Q (.tup [(aa j 0),(N .i64 1)]) e) (
 af .eql p (N .i64 12) fun L =>
 au L (
 Q (.tup [(aa j 0),(N .i64 2)]) e) (
 Q (.tup [(aa j 0),(N .i64 0)]) e)))
def kP (a0 a1 a2 a3:AV) (M0:RM) (Q:ak) : Prop :=
 af .sub a2 (N .i64 1) fun i =>
 aM (fun h c d =>
 af .lss (aa c 0) (aa c 1) fun j =>
 au j (
 ah a0 (aa c 1) 2 fun l =>
 av d l 2 fun m =>
 ah a0 (aa c 0) 2 fun n =>
 av d n 2 fun o =>
 ah a0 (aa c 0) 2 fun p =>
 aC d p m 2 fun e =>
 ah a0 (aa c 1) 2 fun q =>
 aC e q o 2 fun g =>
 af .add (aa c 0) (N .i64 1) fun r =>
 af .sub (aa c 1) (N .i64 1) fun s =>
 h [r,s] g) (
 Q (.tup []) d)) [a1,i] M0
def gZ (cv:(FuncId→ai)) (a0 a1 a2 a3:AV) (M0:RM) (Q:ak) : Prop :=
 af .add a1 (N .i64 1) fun v5 =>
 aM (fun vg s t =>
 af .lss (aa s 1) (N .i64 5) fun v7 =>
 au v7 (
 bR (fun o =>
 aM (fun vh d w =>
 af .lss (aa d 0) a2 fun e =>
 ae e true (fun c=>c a3 w none) (fun c=>c .undef w none) fun v9 z xs =>
 ae e true (fun vc=>vc a0 z none) (fun c=>c .undef z none) fun wa E x2 =>
 ae e true (fun vf=>vf (aa d 0) E none) (fun c=>c .undef E none) fun wb G x3 =>
 ae e true (fun U=>ah wa wb 2 fun wc =>
 U wc G none) (fun c=>c .undef G none) fun wd q xt =>
 ae e true (fun V=>av q wd 2 fun we =>
 V we q none) (fun c=>c .undef q none) fun wf u xu =>
 ae e true (fun W=>W a0 u none) (fun c=>c .undef u none) fun wg v xv =>
 ae e true (fun X=>X (aa d 0) v none) (fun c=>c .undef v none) fun wh x xw =>
 ae e true (fun Y=>af .sub wh (N .i64 1) fun wi =>
 Y wi x none) (fun c=>c .undef x none) fun wj y xx =>
 ae e true (fun Z=>ah wg wj 2 fun wk =>
 Z wk y none) (fun c=>c .undef y none) fun wl r xy =>
 ae e true (fun va=>av r wl 2 fun wm =>
 va wm r none) (fun c=>c .undef r none) fun wn A xz =>
 aj e true (fun vb=>bD cv v9 [wf,wn] A fun wo H =>
 vb wo H) (fun c=>c .undef A) fun wp B =>
 ae e true (fun vd=>af .lss wp (N .i64 0) fun wq =>
 vd wq B none) (fun c=>c .undef B none) fun wr C x0 =>
 ae e true (fun ve=>cK wr fun ws =>
 ve ws C none) (fun c=>c .undef C none) fun wt i x1 =>
 aL e wt (Bo false) fun wu =>
 au wu (
 af .add (aa d 0) (N .i64 1) fun wv =>
 vh [wv] i) (
 af .eql (aa d 0) a2 fun ww =>
 au ww (
 Q (Bo true) i) (
 af .sub a2 a1 fun wx =>
 af .lss wx (N .i64 50) fun wy =>
 au wy (
 Q (Bo false) i) (
 af .sub (aa d 0) (N .i64 1) fun wz =>
 af .sub (aa d 0) (N .i64 1) fun w0 =>
 ah a0 w0 2 fun w1 =>
 av i w1 2 fun w2 =>
 ah a0 (aa d 0) 2 fun w3 =>
 av i w3 2 fun w4 =>
 ah a0 (aa d 0) 2 fun w5 =>
 aC i w5 w2 2 fun I =>
 ah a0 wz 2 fun w6 =>
 aC I w6 w4 2 fun D =>
 bR (fun p =>
 af .sub (aa d 0) a1 fun w7 =>
 af .geq w7 (N .i64 2) fun w8 =>
 au w8 (
 af .sub (aa d 0) (N .i64 1) fun w9 =>
 aM (fun vi g j =>
 af .geq (aa g 0) (N .i64 1) fun xa =>
 au xa (
 ah a0 (aa g 0) 2 fun xc =>
 av j xc 2 fun xd =>
 af .sub (aa g 0) (N .i64 1) fun xe =>
 ah a0 xe 2 fun xf =>
 av j xf 2 fun xg =>
 bD cv a3 [xd,xg] j fun xh l =>
 af .lss xh (N .i64 0) fun xi =>
 cK xi fun xj =>
 au xj (
 p [] l) (
 af .sub (aa g 0) (N .i64 1) fun xk =>
 af .sub (aa g 0) (N .i64 1) fun xl =>
 ah a0 xl 2 fun xm =>
 av l xm 2 fun xn =>
 ah a0 (aa g 0) 2 fun xo =>
 av l xo 2 fun xp =>
 ah a0 (aa g 0) 2 fun xq =>
 aC l xq xn 2 fun L =>
 ah a0 xk 2 fun vk =>
 aC L vk xp 2 fun O =>
 af .sub (aa g 0) (N .i64 1) fun xb =>
 vi [xb] O)) (
 p [] j)) [w9] D) (
 p [] D)) (fun x4 F =>
 af .sub a2 (aa d 0) fun vl =>
 af .geq vl (N .i64 2) fun vm =>
 au vm (
 af .add (aa d 0) (N .i64 1) fun vn =>
 aM (fun vj h m =>
 af .lss (aa h 0) a2 fun vo =>
 au vo (
 ah a0 (aa h 0) 2 fun vq =>
 av m vq 2 fun vr =>
 af .sub (aa h 0) (N .i64 1) fun vs =>
 ah a0 vs 2 fun vt =>
 av m vt 2 fun vu =>
 bD cv a3 [vr,vu] m fun vv n =>
 af .lss vv (N .i64 0) fun vw =>
 cK vw fun vx =>
 au vx (
 o [(aa d 0)] n) (
 af .sub (aa h 0) (N .i64 1) fun vy =>
 af .sub (aa h 0) (N .i64 1) fun vz =>
 ah a0 vz 2 fun v0 =>
 av n v0 2 fun v1 =>
 ah a0 (aa h 0) 2 fun v2 =>
 av n v2 2 fun v3 =>
 ah a0 (aa h 0) 2 fun v4 =>
 aC n v4 v1 2 fun P =>
 ah a0 vy 2 fun v6 =>
 aC P v6 v3 2 fun R =>
 af .add (aa h 0) (N .i64 1) fun vp =>
 vj [vp] R)) (
 o [(aa d 0)] m)) [vn] F) (
 o [(aa d 0)] F)))))) [(aa s 0)] t) (fun xr S =>
 af .add (aa s 1) (N .i64 1) fun v8 =>
 vg [(aa xr 0),v8] S)) (
 Q (Bo false) t)) [v5,(N .i64 0)] M0
def jW (cv:(FuncId→ai)) (a0 a1 a2 a3 a4:AV) (M0:RM) (Q:ak) : Prop :=
 ah a0 a3 2 fun vv =>
 av M0 vv 2 fun vw =>
 ah a0 a1 2 fun vx =>
 av M0 vx 2 fun vy =>
 ah a0 a1 2 fun vz =>
 aC M0 vz vw 2 fun L =>
 ah a0 a3 2 fun v0 =>
 aC L v0 vy 2 fun O =>
 af .add a1 (N .i64 1) fun v1 =>
 af .sub a2 (N .i64 1) fun v2 =>
 aM (fun vs o P =>
 aM (fun vt g v =>
 af .leq (aa g 0) (aa o 1) fun d =>
 ae d true (fun c=>c a4 v none) (fun c=>c .undef v none) fun v3 z xg =>
 ae d true (fun vj=>vj a0 z none) (fun c=>c .undef z none) fun v4 F xz =>
 ae d true (fun vr=>vr a1 F none) (fun c=>c .undef F none) fun v5 p xh =>
 ae d true (fun W=>ah v4 v5 2 fun v6 =>
 W v6 p none) (fun c=>c .undef p none) fun v7 j xi =>
 ae d true (fun X=>av j v7 2 fun v8 =>
 X v8 j none) (fun c=>c .undef j none) fun v9 q xj =>
 ae d true (fun Y=>Y a0 q none) (fun c=>c .undef q none) fun wa r xk =>
 ae d true (fun Z=>Z (aa g 0) r none) (fun c=>c .undef r none) fun wb s xl =>
 ae d true (fun va=>ah wa wb 2 fun wc =>
 va wc s none) (fun c=>c .undef s none) fun wd l xm =>
 ae d true (fun vb=>av l wd 2 fun we =>
 vb we l none) (fun c=>c .undef l none) fun wf t xn =>
 aj d true (fun vc=>bD cv v3 [v9,wf] t fun wg R =>
 vc wg R) (fun c=>c .undef t) fun wh u =>
 ae d true (fun vd=>af .lss wh (N .i64 0) fun wi =>
 vd wi u none) (fun c=>c .undef u none) fun wj w xo =>
 ae d true (fun ve=>cK wj fun wk =>
 ve wk w none) (fun c=>c .undef w none) fun wl x xp =>
 aL d wl (Bo false) fun wm =>
 au wm (
 af .add (aa g 0) (N .i64 1) fun wn =>
 vt [wn] x) (
 aM (fun vu h y =>
 af .leq (aa g 0) (aa h 0) fun e =>
 ae e true (fun vf=>vf a4 y none) (fun c=>c .undef y none) fun wo A xq =>
 ae e true (fun vg=>vg a0 A none) (fun c=>c .undef A none) fun wp B xr =>
 ae e true (fun vh=>vh a1 B none) (fun c=>c .undef B none) fun wq C xs =>
 ae e true (fun vi=>ah wp wq 2 fun wr =>
 vi wr C none) (fun c=>c .undef C none) fun ws m xt =>
 ae e true (fun vk=>av m ws 2 fun wt =>
 vk wt m none) (fun c=>c .undef m none) fun wu D xu =>
 ae e true (fun vl=>vl a0 D none) (fun c=>c .undef D none) fun wv E xv =>
 ae e true (fun vm=>vm (aa h 0) E none) (fun c=>c .undef E none) fun ww G xw =>
 ae e true (fun vn=>ah wv ww 2 fun wx =>
 vn wx G none) (fun c=>c .undef G none) fun wy n xx =>
 ae e true (fun vo=>av n wy 2 fun wz =>
 vo wz n none) (fun c=>c .undef n none) fun w0 H xy =>
 aj e true (fun vp=>bD cv wo [wu,w0] H fun w1 S =>
 vp w1 S) (fun c=>c .undef H) fun w2 I =>
 ae e true (fun vq=>af .lss w2 (N .i64 0) fun w3 =>
 vq w3 I none) (fun c=>c .undef I none) fun w4 i x0 =>
 aL e w4 (Bo false) fun w5 =>
 au w5 (
 af .sub (aa h 0) (N .i64 1) fun w6 =>
 vu [w6] i) (
 af .gtr (aa g 0) (aa h 0) fun w7 =>
 au w7 (
 Q (aa g 0) i) (
 ah a0 (aa h 0) 2 fun w8 =>
 av i w8 2 fun w9 =>
 ah a0 (aa g 0) 2 fun xa =>
 av i xa 2 fun xb =>
 ah a0 (aa g 0) 2 fun xc =>
 aC i xc w9 2 fun U =>
 ah a0 (aa h 0) 2 fun xd =>
 aC U xd xb 2 fun V =>
 af .add (aa g 0) (N .i64 1) fun xe =>
 af .sub (aa h 0) (N .i64 1) fun xf =>
 vs [xe,xf] V))) [(aa o 1)] x)) [(aa o 0)] P) [v1,v2] O
def mO (cv:(FuncId→ai)) (a0 a1 a2 a3 a4:AV) (M0:RM) (Q:ak) : Prop :=
 ah a0 a3 2 fun y8 =>
 av M0 y8 2 fun y9 =>
 ah a0 a1 2 fun za =>
 av M0 za 2 fun zb =>
 ah a0 a1 2 fun zc =>
 aC M0 zc y9 2 fun vt =>
 ah a0 a3 2 fun zd =>
 aC vt zd zb 2 fun vu =>
 af .add a1 (N .i64 1) fun ze =>
 af .sub a2 (N .i64 1) fun vs =>
 aM (fun xh l y =>
 af .leq (aa l 0) vs fun h =>
 ae h true (fun c=>c a4 y none) (fun c=>c .undef y none) fun zf Y e1 =>
 ae h true (fun wy=>wy a0 Y none) (fun c=>c .undef Y none) fun zg vd i1 =>
 ae h true (fun w7=>w7 (aa l 0) vd none) (fun c=>c .undef vd none) fun zh vl i9 =>
 ae h true (fun xe=>ah zg zh 2 fun zi =>
 xe zi vl none) (fun c=>c .undef vl none) fun zj q e8 =>
 ae h true (fun wg=>av q zj 2 fun zk =>
 wg zk q none) (fun c=>c .undef q none) fun zl O g9 =>
 ae h true (fun ws=>ws a0 O none) (fun c=>c .undef O none) fun zm X h4 =>
 ae h true (fun wv=>wv a1 X none) (fun c=>c .undef X none) fun zn Z h5 =>
 ae h true (fun ww=>ah zm zn 2 fun zo =>
 ww zo Z none) (fun c=>c .undef Z none) fun zp u h6 =>
 ae h true (fun wx=>av u zp 2 fun zq =>
 wx zq u none) (fun c=>c .undef u none) fun zr va h7 =>
 aj h true (fun wz=>bD cv zf [zl,zr] va fun zs v1 =>
 wz zs v1) (fun c=>c .undef va) fun zt vb =>
 ae h true (fun w0=>af .lss zt (N .i64 0) fun zu =>
 w0 zu vb none) (fun c=>c .undef vb none) fun zv vc h8 =>
 aL h zv (Bo false) fun zw =>
 au zw (
 af .add (aa l 0) (N .i64 1) fun zx =>
 xh [zx] vc) (
 aM (fun xj j ve =>
 af .leq (aa l 0) (aa j 0) fun e =>
 ae e true (fun w1=>w1 a4 ve none) (fun c=>c .undef ve none) fun zy vf h9 =>
 ae e true (fun w2=>w2 a0 vf none) (fun c=>c .undef vf none) fun zz vg i0 =>
 ae e true (fun w3=>w3 (aa j 0) vg none) (fun c=>c .undef vg none) fun z0 vh i2 =>
 ae e true (fun w4=>ah zz z0 2 fun z1 =>
 w4 z1 vh none) (fun c=>c .undef vh none) fun z2 v i3 =>
 ae e true (fun w5=>av v z2 2 fun z3 =>
 w5 z3 v none) (fun c=>c .undef v none) fun z4 vi i4 =>
 ae e true (fun w6=>w6 a0 vi none) (fun c=>c .undef vi none) fun z5 vj i5 =>
 ae e true (fun w8=>w8 a1 vj none) (fun c=>c .undef vj none) fun z6 vk i6 =>
 ae e true (fun w9=>ah z5 z6 2 fun z7 =>
 w9 z7 vk none) (fun c=>c .undef vk none) fun z8 w i7 =>
 ae e true (fun xa=>av w z8 2 fun z9 =>
 xa z9 w none) (fun c=>c .undef w none) fun c0 vm i8 =>
 aj e true (fun xb=>bD cv zy [z4,c0] vm fun c1 v2 =>
 xb c1 v2) (fun c=>c .undef vm) fun c2 vn =>
 ae e true (fun xc=>af .lss c2 (N .i64 0) fun c3 =>
 xc c3 vn none) (fun c=>c .undef vn none) fun c4 vo j0 =>
 ae e true (fun xd=>cK c4 fun c5 =>
 xd c5 vo none) (fun c=>c .undef vo none) fun c6 o j1 =>
 aL e c6 (Bo false) fun c7 =>
 au c7 (
 af .sub (aa j 0) (N .i64 1) fun c8 =>
 xj [c8] o) (
 af .gtr (aa l 0) (aa j 0) fun c9 =>
 au c9 (
 ah a0 a1 2 fun d0 =>
 av o d0 2 fun d1 =>
 ah a0 (aa j 0) 2 fun d2 =>
 av o d2 2 fun d3 =>
 ah a0 (aa j 0) 2 fun d4 =>
 aC o d4 d1 2 fun v3 =>
 ah a0 a1 2 fun d5 =>
 aC v3 d5 d3 2 fun v4 =>
 Q (.tup [(aa j 0),(Bo true)]) v4) (
 ah a0 (aa j 0) 2 fun d6 =>
 av o d6 2 fun d7 =>
 ah a0 (aa l 0) 2 fun d8 =>
 av o d8 2 fun d9 =>
 ah a0 (aa l 0) 2 fun e0 =>
 aC o e0 d7 2 fun v5 =>
 ah a0 (aa j 0) 2 fun xm =>
 aC v5 xm d9 2 fun v6 =>
 af .add (aa l 0) (N .i64 1) fun xn =>
 af .sub (aa j 0) (N .i64 1) fun xo =>
 aM (fun xk x v7 =>
 aM (fun xl m vp =>
 af .leq (aa m 0) (aa x 1) fun g =>
 ae g true (fun xf=>xf a4 vp none) (fun c=>c .undef vp none) fun xp vq j2 =>
 ae g true (fun xg=>xg a0 vq none) (fun c=>c .undef vq none) fun xq vr e2 =>
 ae g true (fun v8=>v8 (aa m 0) vr none) (fun c=>c .undef vr none) fun xr z e3 =>
 ae g true (fun v9=>ah xq xr 2 fun xs =>
 v9 xs z none) (fun c=>c .undef z none) fun xt p e4 =>
 ae g true (fun wa=>av p xt 2 fun xu =>
 wa xu p none) (fun c=>c .undef p none) fun xv A e5 =>
 ae g true (fun wb=>wb a0 A none) (fun c=>c .undef A none) fun xw B e6 =>
 ae g true (fun wc=>wc a1 B none) (fun c=>c .undef B none) fun xx C e7 =>
 ae g true (fun wd=>ah xw xx 2 fun xy =>
 wd xy C none) (fun c=>c .undef C none) fun xz r e9 =>
 ae g true (fun we=>av r xz 2 fun x0 =>
 we x0 r none) (fun c=>c .undef r none) fun x1 D g0 =>
 aj g true (fun wf=>bD cv xp [xv,x1] D fun x2 vv =>
 wf x2 vv) (fun c=>c .undef D) fun x3 E =>
 ae g true (fun wh=>af .lss x3 (N .i64 0) fun x4 =>
 wh x4 E none) (fun c=>c .undef E none) fun x5 F g1 =>
 aL g x5 (Bo false) fun x6 =>
 au x6 (
 af .add (aa m 0) (N .i64 1) fun x7 =>
 xl [x7] F) (
 aM (fun xi i G =>
 af .leq (aa m 0) (aa i 0) fun d =>
 ae d true (fun wi=>wi a4 G none) (fun c=>c .undef G none) fun x8 H g2 =>
 ae d true (fun wj=>wj a0 H none) (fun c=>c .undef H none) fun x9 I g3 =>
 ae d true (fun wk=>wk (aa i 0) I none) (fun c=>c .undef I none) fun ya L g4 =>
 ae d true (fun wl=>ah x9 ya 2 fun yb =>
 wl yb L none) (fun c=>c .undef L none) fun yc s g5 =>
 ae d true (fun wm=>av s yc 2 fun yd =>
 wm yd s none) (fun c=>c .undef s none) fun ye P g6 =>
 ae d true (fun wn=>wn a0 P none) (fun c=>c .undef P none) fun yf R g7 =>
 ae d true (fun wo=>wo a1 R none) (fun c=>c .undef R none) fun yg S g8 =>
 ae d true (fun wp=>ah yf yg 2 fun yh =>
 wp yh S none) (fun c=>c .undef S none) fun yi t h0 =>
 ae d true (fun wq=>av t yi 2 fun yj =>
 wq yj t none) (fun c=>c .undef t none) fun yk U h1 =>
 aj d true (fun wr=>bD cv x8 [ye,yk] U fun yl vw =>
 wr yl vw) (fun c=>c .undef U) fun ym V =>
 ae d true (fun wt=>af .lss ym (N .i64 0) fun yn =>
 wt yn V none) (fun c=>c .undef V none) fun yo W h2 =>
 ae d true (fun wu=>cK yo fun yp =>
 wu yp W none) (fun c=>c .undef W none) fun yq n h3 =>
 aL d yq (Bo false) fun yr =>
 au yr (
 af .sub (aa i 0) (N .i64 1) fun ys =>
 xi [ys] n) (
 af .gtr (aa m 0) (aa i 0) fun yt =>
 au yt (
 ah a0 a1 2 fun y2 =>
 av n y2 2 fun y3 =>
 ah a0 (aa i 0) 2 fun y4 =>
 av n y4 2 fun y5 =>
 ah a0 (aa i 0) 2 fun y6 =>
 aC n y6 y3 2 fun vx =>
 ah a0 a1 2 fun y7 =>
 aC vx y7 y5 2 fun vy =>
 Q (.tup [(aa i 0),(Bo false)]) vy) (
 ah a0 (aa i 0) 2 fun yu =>
 av n yu 2 fun yv =>
 ah a0 (aa m 0) 2 fun yw =>
 av n yw 2 fun yx =>
 ah a0 (aa m 0) 2 fun yy =>
 aC n yy yv 2 fun vz =>
 ah a0 (aa i 0) 2 fun yz =>
 aC vz yz yx 2 fun v0 =>
 af .add (aa m 0) (N .i64 1) fun y0 =>
 af .sub (aa i 0) (N .i64 1) fun y1 =>
 xk [y0,y1] v0))) [(aa x 1)] F)) [(aa x 0)] v7) [xn,xo] v6))) [vs] vc)) [ze] vu
def BL (a0:AV) (M0:RM) (Q:ak) : Prop :=
 af .neq a0 a0 fun c =>
 Q c M0
def lY (cv:(FuncId→ai)) (a0 a1 a2 a3 a4:AV) (M0:RM) (Q:ak) : Prop :=
 aM (fun vb h j =>
 af .mul (N .i64 2) (aa h 0) fun vc =>
 af .add vc (N .i64 1) fun e =>
 af .geq e a2 fun vd =>
 au vd (
 Q (.tup []) j) (
 bR (fun o =>
 af .add e (N .i64 1) fun ve =>
 af .lss ve a2 fun d =>
 ae d true (fun c=>c a4 j none) (fun c=>c .undef j none) fun vf p wp =>
 ae d true (fun G=>G a0 p none) (fun c=>c .undef p none) fun vg r wv =>
 ae d true (fun W=>W a3 r none) (fun c=>c .undef r none) fun vh z w2 =>
 ae d true (fun va=>va e z none) (fun c=>c .undef z none) fun vi C w3 =>
 ae d true (fun H=>af .add vh vi fun vj =>
 H vj C none) (fun c=>c .undef C none) fun vk q wq =>
 ae d true (fun I=>ah vg vk 5 fun vl =>
 I vl q none) (fun c=>c .undef q none) fun vm l wr =>
 ae d true (fun L=>av l vm 5 fun vn =>
 L vn l none) (fun c=>c .undef l none) fun vo s ws =>
 ae d true (fun O=>O a0 s none) (fun c=>c .undef s none) fun vp t wt =>
 ae d true (fun P=>P a3 t none) (fun c=>c .undef t none) fun vq u wu =>
 ae d true (fun R=>R e u none) (fun c=>c .undef u none) fun vr v ww =>
 ae d true (fun S=>af .add vq vr fun vs =>
 S vs v none) (fun c=>c .undef v none) fun vt w wx =>
 ae d true (fun U=>af .add vt (N .i64 1) fun vu =>
 U vu w none) (fun c=>c .undef w none) fun vv x wy =>
 ae d true (fun V=>ah vp vv 5 fun vw =>
 V vw x none) (fun c=>c .undef x none) fun vx m wz =>
 ae d true (fun X=>av m vx 5 fun vy =>
 X vy m none) (fun c=>c .undef m none) fun vz y w0 =>
 aj d true (fun Y=>bD cv vf [vo,vz] y fun v0 D =>
 Y v0 D) (fun c=>c .undef y) fun v1 A =>
 ae d true (fun Z=>af .lss v1 (N .i64 0) fun v2 =>
 Z v2 A none) (fun c=>c .undef A none) fun v3 B w1 =>
 aL d v3 (Bo false) fun v4 =>
 au v4 (
 af .add e (N .i64 1) fun v5 =>
 o [v5] B) (
 o [e] B)) (fun i n =>
 af .add a3 (aa h 0) fun v6 =>
 ah a0 v6 5 fun v7 =>
 av n v7 5 fun v8 =>
 af .add a3 (aa i 0) fun v9 =>
 ah a0 v9 5 fun wa =>
 av n wa 5 fun wb =>
 bD cv a4 [v8,wb] n fun wc g =>
 af .lss wc (N .i64 0) fun wd =>
 cK wd fun we =>
 au we (
 Q (.tup []) g) (
 af .add a3 (aa h 0) fun wf =>
 af .add a3 (aa i 0) fun wg =>
 af .add a3 (aa i 0) fun wh =>
 ah a0 wh 5 fun wi =>
 av g wi 5 fun wj =>
 af .add a3 (aa h 0) fun wk =>
 ah a0 wk 5 fun wl =>
 av g wl 5 fun wm =>
 ah a0 wf 5 fun wn =>
 aC g wn wj 5 fun E =>
 ah a0 wg 5 fun wo =>
 aC E wo wm 5 fun F =>
 vb [(aa i 0)] F)))) [a1] M0
def jh (p1:ai) (a0 a1 a2 a3:AV) (M0:RM) (Q:ak) : Prop :=
 af .sub a1 (N .i64 1) fun d =>
 af .add a1 (N .i64 1) fun e =>
 p1 [a0,d,a1,e,a2,a3] M0 fun g c =>
 Q g c
def nJ (p1:ai) (a0 a1 a2 a3 a4 a5:AV) (M0:RM) (Q:ak) : Prop :=
 p1 [a0,a1,a2,a4,a5] M0 fun c g =>
 dm c 0 fun j =>
 dm c 1 fun l =>
 p1 [a0,l,a3,a4,a5] g fun d h =>
 dm d 0 fun m =>
 dm d 1 fun o =>
 p1 [a0,j,m,a4,a5] h fun e i =>
 dm e 0 fun p =>
 dm e 1 fun n =>
 Q n i
def nG (cv:(FuncId→ai)) (a0 a1 a2 a3 a4:AV) (M0:RM) (Q:ak) : Prop :=
 aM (fun vb h j =>
 af .mul (N .i64 2) (aa h 0) fun vc =>
 af .add vc (N .i64 1) fun e =>
 af .geq e a2 fun vd =>
 au vd (
 Q (.tup []) j) (
 bR (fun o =>
 af .add e (N .i64 1) fun ve =>
 af .lss ve a2 fun d =>
 ae d true (fun c=>c a4 j none) (fun c=>c .undef j none) fun vf p wp =>
 ae d true (fun G=>G a0 p none) (fun c=>c .undef p none) fun vg r wv =>
 ae d true (fun W=>W a3 r none) (fun c=>c .undef r none) fun vh z w2 =>
 ae d true (fun va=>va e z none) (fun c=>c .undef z none) fun vi C w3 =>
 ae d true (fun H=>af .add vh vi fun vj =>
 H vj C none) (fun c=>c .undef C none) fun vk q wq =>
 ae d true (fun I=>ah vg vk 2 fun vl =>
 I vl q none) (fun c=>c .undef q none) fun vm l wr =>
 ae d true (fun L=>av l vm 2 fun vn =>
 L vn l none) (fun c=>c .undef l none) fun vo s ws =>
 ae d true (fun O=>O a0 s none) (fun c=>c .undef s none) fun vp t wt =>
 ae d true (fun P=>P a3 t none) (fun c=>c .undef t none) fun vq u wu =>
 ae d true (fun R=>R e u none) (fun c=>c .undef u none) fun vr v ww =>
 ae d true (fun S=>af .add vq vr fun vs =>
 S vs v none) (fun c=>c .undef v none) fun vt w wx =>
 ae d true (fun U=>af .add vt (N .i64 1) fun vu =>
 U vu w none) (fun c=>c .undef w none) fun vv x wy =>
 ae d true (fun V=>ah vp vv 2 fun vw =>
 V vw x none) (fun c=>c .undef x none) fun vx m wz =>
 ae d true (fun X=>av m vx 2 fun vy =>
 X vy m none) (fun c=>c .undef m none) fun vz y w0 =>
 aj d true (fun Y=>bD cv vf [vo,vz] y fun v0 D =>
 Y v0 D) (fun c=>c .undef y) fun v1 A =>
 ae d true (fun Z=>af .lss v1 (N .i64 0) fun v2 =>
 Z v2 A none) (fun c=>c .undef A none) fun v3 B w1 =>
 aL d v3 (Bo false) fun v4 =>
 au v4 (
 af .add e (N .i64 1) fun v5 =>
 o [v5] B) (
 o [e] B)) (fun i n =>
 af .add a3 (aa h 0) fun v6 =>
 ah a0 v6 2 fun v7 =>
 av n v7 2 fun v8 =>
 af .add a3 (aa i 0) fun v9 =>
 ah a0 v9 2 fun wa =>
 av n wa 2 fun wb =>
 bD cv a4 [v8,wb] n fun wc g =>
 af .lss wc (N .i64 0) fun wd =>
 cK wd fun we =>
 au we (
 Q (.tup []) g) (
 af .add a3 (aa h 0) fun wf =>
 af .add a3 (aa i 0) fun wg =>
 af .add a3 (aa i 0) fun wh =>
 ah a0 wh 2 fun wi =>
 av g wi 2 fun wj =>
 af .add a3 (aa h 0) fun wk =>
 ah a0 wk 2 fun wl =>
 av g wl 2 fun wm =>
 ah a0 wf 2 fun wn =>
 aC g wn wj 2 fun E =>
 ah a0 wg 2 fun wo =>
 aC E wo wm 2 fun F =>
 vb [(aa i 0)] F)))) [a1] M0
def jU (p1:ai) (a0 a1 a2 a3:AV) (M0:RM) (Q:ak) : Prop :=
 af .sub a1 (N .i64 1) fun d =>
 af .add a1 (N .i64 1) fun e =>
 p1 [a0,d,a1,e,a2,a3] M0 fun g c =>
 Q g c
def oW (p1:ai) (a0 a1 a2 a3 a4 a5:AV) (M0:RM) (Q:ak) : Prop :=
 p1 [a0,a1,a2,a4,a5] M0 fun c g =>
 dm c 0 fun j =>
 dm c 1 fun l =>
 p1 [a0,l,a3,a4,a5] g fun d h =>
 dm d 0 fun m =>
 dm d 1 fun o =>
 p1 [a0,j,m,a4,a5] h fun e i =>
 dm e 0 fun p =>
 dm e 1 fun n =>
 Q n i
def nN (cv:(FuncId→ai)) (a0 a1 a2 a3 a4:AV) (M0:RM) (Q:ak) : Prop :=
 ah a0 a2 5 fun e =>
 av M0 e 5 fun g =>
 ah a0 a1 5 fun h =>
 av M0 h 5 fun i =>
 bD cv a4 [g,i] M0 fun j c =>
 af .lss j (N .i64 0) fun l =>
 au l (
 dB a3 fun m =>
 az c m fun n =>
 af .add n (N .i64 1) fun o =>
 dB a3 fun p =>
 aC c p o 1 fun d =>
 Q (.tup [a2,a1]) d) (
 Q (.tup [a1,a2]) c)
def oV (cv:(FuncId→ai)) (a0 a1 a2 a3 a4:AV) (M0:RM) (Q:ak) : Prop :=
 ah a0 a2 2 fun e =>
 av M0 e 2 fun g =>
 ah a0 a1 2 fun h =>
 av M0 h 2 fun i =>
 bD cv a4 [g,i] M0 fun j c =>
 af .lss j (N .i64 0) fun l =>
 au l (
 dB a3 fun m =>
 az c m fun n =>
 af .add n (N .i64 1) fun o =>
 dB a3 fun p =>
 aC c p o 1 fun d =>
 Q (.tup [a2,a1]) d) (
 Q (.tup [a1,a2]) c)
end Go.Ab.Crw
namespace Go.Ab
open Go Go.RowKit
def RM.cell (M:RM) (b o:Nat) : Option AV:=(M.cells b).bind (·[o]?)
section
variable {M M' : RM} {K:AV→Prop} {KQ:ak}
theorem Kt {b o:Nat} {v:AV} : M.loads b o 1=some [v]↔M.cell b o=some v:=by
 unfold RM.loads RM.cell
 cases hc:M.cells b with
 | none=>simp
 | some l =>
   simp only[Option.bind_some]
   constructor
   ·intro h
    split at h
    ·rename_i hlt
     have h1:=Option.some.inj h
     have:((l.drop o).take 1)[0]?=some v:=by rw[h1]; rfl
     rw[List.getElem?_take,if_pos (by omega),List.getElem?_drop] at this
     simpa using this
    ·cases h
   ·intro h
    have hlt:=(List.getElem?_eq_some_iff.1 h).1
    rw[if_pos (by omega)]
    congr 1
    rw[List.drop_eq_getElem_cons hlt]
    simp only[List.take_succ_cons,List.take_zero]
    congr 1
    exact(List.getElem?_eq_some_iff.1 h).2
@[go_sem] theorem gL (b o:Nat) : az M (.ptr b o) K=∃ v,M.cell b o=some v∧K v:=by
 apply propext; unfold az
 constructor
 ·rintro⟨b',o',v,h,hl,hk⟩; cases h; exact⟨v,Kt.1 hl,hk⟩
 ·rintro⟨v,hl,hk⟩; exact⟨b,o,v,rfl,Kt.2 hl,hk⟩
@[go_sem] theorem dQ (b o n:Nat) : av M (.ptr b o) n K=∃ vs,M.loads b o n=some vs∧K (.agg vs):=by
 apply propext; unfold av
 constructor
 ·rintro⟨b',o',v,h,hl,hk⟩; cases h; exact⟨v,hl,hk⟩
 ·rintro⟨v,hl,hk⟩; exact⟨b,o,v,rfl,hl,hk⟩
@[go_sem] theorem yX (b p:Nat) (x:AV) (n:Nat) (K:RM→Prop) : aC M (.ptr b p) x n K=(x.cells.length=n∧∃ M',M.stores b p x.cells=some M'∧K M'):=by
 apply propext; unfold aC
 constructor
 ·rintro⟨b',o',M',h,h1,h2,hk⟩; cases h; exact⟨h1,M',h2,hk⟩
 ·rintro⟨h1,M',h2,hk⟩; exact⟨b,p,M',rfl,h1,h2,hk⟩
def Qo (k:IntKind) (a b:Int) : Int:=k.wrap (BitVec.ofInt k.bits a &&& BitVec.ofInt k.bits b).toNat
def orI (k:IntKind) (a b:Int) : Int:=k.wrap (BitVec.ofInt k.bits a ||| BitVec.ofInt k.bits b).toNat
def VX (k:IntKind) (a b:Int) : Int:=k.wrap (BitVec.ofInt k.bits a ^^^ BitVec.ofInt k.bits b).toNat
def ab0 (k:IntKind) (a b:Int) : Int:=k.wrap (BitVec.ofInt k.bits a &&& ~~~BitVec.ofInt k.bits b).toNat
def XN (k:IntKind) (a b:Int) : Int:=k.wrap (a * 2 ^ (min b.toNat k.bits))
def Tj (k:IntKind) (a b:Int) : Int:=a.fdiv (2 ^ (min b.toNat k.bits))
section
variable (k:IntKind) (a b:Int)
theorem iF {op:BinOp} {v:Value} (h:zW op k a b=some v) : af op (N k a) (N k b) K=K (.sc v):=by
 apply propext; unfold af
 constructor
 ·rintro⟨k',a',b',u,h1,h2,h3,hk⟩; cases h1; cases h2; rw[h] at h3; cases h3; exact hk
 ·intro hk; exact⟨k,a,b,v,rfl,rfl,h,hk⟩
@[go_sem] theorem cZ:af .add (N k a) (N k b) K=K (N k (k.wrap (a + b))):=iF k a b rfl
@[go_sem] theorem eT:af .sub (N k a) (N k b) K=K (N k (k.wrap (a - b))):=iF k a b rfl
@[go_sem] theorem nZ:af .mul (N k a) (N k b) K=K (N k (k.wrap (a * b))):=iF k a b rfl
@[go_sem] theorem AA:af .and (N k a) (N k b) K=K (N k (Qo k a b)):=iF k a b rfl
@[go_sem] theorem ahb:af .or (N k a) (N k b) K=K (N k (orI k a b)):=iF k a b rfl
@[go_sem] theorem vD:af .xor (N k a) (N k b) K=K (N k (VX k a b)):=iF k a b rfl
@[go_sem] theorem aeq:af .andNot (N k a) (N k b) K=K (N k (ab0 k a b)):=iF k a b rfl
@[go_sem] theorem bV:af .eql (N k a) (N k b) K=K (Bo (a == b)):=iF k a b rfl
@[go_sem] theorem iT:af .neq (N k a) (N k b) K=K (Bo (a != b)):=iF k a b rfl
@[go_sem] theorem dD:af .lss (N k a) (N k b) K=K (Bo (decide (a<b))):=iF k a b rfl
@[go_sem] theorem kH:af .leq (N k a) (N k b) K=K (Bo (decide (a≤b))):=iF k a b rfl
@[go_sem] theorem iQ:af .gtr (N k a) (N k b) K=K (Bo (decide (a > b))):=iF k a b rfl
@[go_sem] theorem fU:af .geq (N k a) (N k b) K=K (Bo (decide (a ≥ b))):=iF k a b rfl
@[go_sem] theorem gK:af .quo (N k a) (N k b) K=(b≠0∧K (N k (k.wrap (a.tdiv b)))):=by
 apply propext; unfold af zW
 constructor
 ·rintro⟨k',a',b',u,h1,h2,h3,hk⟩; cases h1; cases h2
  simp only at h3
  split at h3
  ·cases h3
  ·cases h3; exact⟨‹_›,hk⟩
 ·rintro⟨h0,hk⟩; exact⟨k,a,b,_,rfl,rfl,by simp only[if_neg h0],hk⟩
@[go_sem] theorem aaY:af .rem (N k a) (N k b) K=(b≠0∧K (N k (a.tmod b))):=by
 apply propext; unfold af zW
 constructor
 ·rintro⟨k',a',b',u,h1,h2,h3,hk⟩; cases h1; cases h2
  simp only at h3
  split at h3
  ·cases h3
  ·cases h3; exact⟨‹_›,hk⟩
 ·rintro⟨h0,hk⟩; exact⟨k,a,b,_,rfl,rfl,by simp only[if_neg h0],hk⟩
variable (l:IntKind)
@[go_sem] theorem CQ:Cv .shl (N k a) (N l b) K=(0≤b∧K (N k (XN k a b))):=by
 apply propext; unfold Cv KZ
 constructor
 ·rintro⟨k',a',l',b',u,h1,h2,h3,hk⟩; cases h1; cases h2
  split at h3
  ·cases h3
  ·cases h3; exact⟨by omega,hk⟩
 ·rintro⟨h0,hk⟩; exact⟨k,a,l,b,_,rfl,rfl,by rw[if_neg (by omega)]; rfl,hk⟩
@[go_sem] theorem Hy:Cv .shr (N k a) (N l b) K=(0≤b∧K (N k (Tj k a b))):=by
 apply propext; unfold Cv KZ
 constructor
 ·rintro⟨k',a',l',b',u,h1,h2,h3,hk⟩; cases h1; cases h2
  split at h3
  ·cases h3
  ·cases h3; exact⟨by omega,hk⟩
 ·rintro⟨h0,hk⟩; exact⟨k,a,l,b,_,rfl,rfl,by rw[if_neg (by omega)]; rfl,hk⟩
@[go_sem] theorem ahg {l:IntKind} {a:Int} {K:AV→Prop} : WT (N l a) K=K (St (Utf8.encode a).data.toList):=by
 apply propext; unfold WT
 constructor
 ·rintro⟨l',n,h,hk⟩; cases h; exact hk
 ·intro h; exact⟨_,_,rfl,h⟩
@[go_sem] theorem jQ:lG k (N l a) K=K (N k (k.wrap a)):=by
 apply propext; unfold lG
 constructor
 ·rintro⟨l',n,h,hk⟩; cases h; exact hk
 ·intro hk; exact⟨l,a,rfl,hk⟩
@[go_sem] theorem YQ (mx:Bool) : MK mx (N k a) (N k b) K=K (N k (if mx then(if b > a then b else a) else(if b<a then b else a))):=by
 apply propext; unfold MK
 constructor
 ·rintro⟨k',a',b',h1,h2,hk⟩; cases h1; cases h2; exact hk
 ·intro hk; exact⟨k,a,b,rfl,rfl,hk⟩
@[go_sem] theorem ahn:ZN (N k a) K=K (N k (k.wrap (0 - a))):=by
 apply propext; unfold ZN
 constructor
 ·rintro⟨k',a',h1,hk⟩; cases h1; exact hk
 ·intro hk; exact⟨k,a,rfl,hk⟩
end
@[go_sem] theorem bu (b:Bool) : cK (Bo b) K=K (Bo (!b)):=by
 apply propext; unfold cK
 constructor
 ·rintro⟨b',h,hk⟩; cases h; exact hk
 ·intro hk; exact⟨b,rfl,hk⟩
@[go_sem] theorem aeQ (neg a b:Bool) : Ho neg (Bo a) (Bo b) K=K (Bo ((a == b) != neg)):=by
 apply propext; unfold Ho
 constructor
 ·rintro⟨a',b',h,h',hk⟩; cases h; cases h'; exact hk
 ·intro hk; exact⟨a,b,rfl,rfl,hk⟩
@[go_sem] theorem Qz (t:Bool) (a b:AV) : aL (Bo t) a b K=K (if t then a else b):=by
 apply propext; unfold aL
 constructor
 ·rintro⟨t',h,hk⟩; cases h; exact hk
 ·intro hk; exact⟨t,rfl,hk⟩
@[go_sem] theorem Tq (b:Bool) (p q:Prop) : au (Bo b) p q=((b=true→p)∧(b=false→q)):=rfl
@[go_sem] theorem afw {α:Type} (b want:Bool) (f g:α→Prop) (k:α) : nA (Bo b) want f g k=if b=want then f k else g k:=rfl
@[go_sem] theorem adK {α:Type} (want:Bool) (f g:α→Prop) (k:α) : nA .undef want f g k=g k:=rfl
@[go_sem] theorem aU (b o:Nat) : dB (.ptr b o) K=K (.ptr b o):=by
 apply propext; unfold dB
 constructor
 ·rintro⟨b',o',h,hk⟩; cases h; exact hk
 ·intro hk; exact⟨b,o,rfl,hk⟩
@[go_sem] theorem aP (b o n:Nat) : aJ (.ptr b o) n K=K (.ptr b (o + n)):=by
 apply propext; unfold aJ
 constructor
 ·rintro⟨b',o',h,hk⟩; cases h; exact hk
 ·intro hk; exact⟨b,o,rfl,hk⟩
@[go_sem] theorem nV (b p len:Nat) (cap:Cap) (k:IntKind) (n:Int) (size:Nat) : ah (.slc b p len cap) (N k n) size K=(0≤n∧n<len∧K (.ptr b (p + n.toNat * size))):=by
 apply propext; unfold ah
 constructor
 ·rintro⟨b',p',l',c',k',n',h,h',h0,h1,hk⟩; cases h; cases h'; exact⟨h0,h1,hk⟩
 ·rintro⟨h0,h1,hk⟩; exact⟨b,p,len,cap,k,n,rfl,rfl,h0,h1,hk⟩
@[go_sem] theorem Ao (b p:Nat) (k:IntKind) (n:Int) (len size:Nat) : Fw (.ptr b p) (N k n) len size K=(0≤n∧n<len∧K (.ptr b (p + n.toNat * size))):=by
 apply propext; unfold Fw
 constructor
 ·rintro⟨b',p',k',n',h,h',h0,h1,hk⟩; cases h; cases h'; exact⟨h0,h1,hk⟩
 ·rintro⟨h0,h1,hk⟩; exact⟨b,p,k,n,rfl,rfl,h0,h1,hk⟩
@[go_sem] theorem afq (cs:List AV) (off:Nat) : VR (.agg cs) off K=∃ v,cs[off]?=some v∧K v:=by
 apply propext; unfold VR
 constructor
 ·rintro⟨cs',v,h,h1,hk⟩; cases h; exact⟨v,h1,hk⟩
 ·rintro⟨v,h1,hk⟩; exact⟨cs,v,rfl,h1,hk⟩
@[go_sem] theorem ae6 (cs:List AV) (off n:Nat) : XV (.agg cs) off n K=(off + n≤cs.length∧K (.agg ((cs.drop off).take n))):=by
 apply propext; unfold XV
 constructor
 ·rintro⟨cs',h,h1,hk⟩; cases h; exact⟨h1,hk⟩
 ·rintro⟨h1,hk⟩; exact⟨cs,rfl,h1,hk⟩
@[go_sem] theorem ae9 (cs:List AV) (k:IntKind) (n:Int) (len:Nat) : WQ (.agg cs) (N k n) len K=(0≤n∧n<len∧∃ v,cs[n.toNat]?=some v∧K v):=by
 apply propext; unfold WQ
 constructor
 ·rintro⟨cs',k',n',v,h,h',h0,h1,h2,hk⟩; cases h; cases h'; exact⟨h0,h1,v,h2,hk⟩
 ·rintro⟨h0,h1,v,h2,hk⟩; exact⟨cs,k,n,v,rfl,rfl,h0,h1,h2,hk⟩
@[go_sem] theorem Yn (cs:List AV) (k:IntKind) (n:Int) (len size:Nat) : Qb (.agg cs) (N k n) len size K=(0≤n∧n<len∧n.toNat * size + size≤cs.length∧K (.agg ((cs.drop (n.toNat * size)).take size))):=by
 apply propext; unfold Qb
 constructor
 ·rintro⟨cs',k',n',h,h',h0,h1,h2,hk⟩; cases h; cases h'; exact⟨h0,h1,h2,hk⟩
 ·rintro⟨h0,h1,h2,hk⟩; exact⟨cs,k,n,rfl,rfl,h0,h1,h2,hk⟩
@[go_sem] theorem acm (s:List UInt8) (k:IntKind) (n:Int) : RU (St s) (N k n) K=(0≤n∧∃ b,s[n.toNat]?=some b∧K (N .u8 b.toNat)):=by
 apply propext; unfold RU
 constructor
 ·rintro⟨s',k',n',b,h,h',h0,h1,hk⟩; cases h; cases h'; exact⟨h0,b,h1,hk⟩
 ·rintro⟨h0,b,h1,hk⟩; exact⟨s,k,n,b,rfl,rfl,h0,h1,hk⟩
@[go_sem] theorem QS (vs:List AV) (i:Nat) : dm (.tup vs) i K=∃ v,vs[i]?=some v∧K v:=by
 apply propext; unfold dm
 constructor
 ·rintro⟨cs',v,h,h1,hk⟩; cases h; exact⟨v,h1,hk⟩
 ·rintro⟨v,h1,hk⟩; exact⟨vs,v,rfl,h1,hk⟩
@[go_sem] theorem dO (v:AV) : gq (some v) K=K v:=by
 apply propext; unfold gq
 constructor
 ·rintro⟨v',h,hk⟩; cases h; exact hk
 ·intro hk; exact⟨v,rfl,hk⟩
@[go_sem] theorem mM (b o n:Nat) (c:Cap) : bQ (.slc b o n c) K=K (N .i64 n):=by
 apply propext; unfold bQ
 constructor
 ·rintro⟨n',h,hk⟩; cases h; exact hk
 ·intro hk; exact⟨n,rfl,hk⟩
@[go_sem] theorem aaC (b:Nat) : bQ (.emp b) K=K (N .i64 0):=by
 apply propext; unfold bQ
 constructor
 ·rintro⟨n',h,hk⟩; cases h; exact hk
 ·intro hk; exact⟨0,rfl,hk⟩
@[go_sem] theorem Jt:bQ (.sc (.slice none 0 0)) K=K (N .i64 0):=by
 apply propext; unfold bQ
 constructor
 ·rintro⟨n',h,hk⟩; cases h; exact hk
 ·intro hk; exact⟨0,rfl,hk⟩
@[go_sem] theorem nU (s:List UInt8) : pR (St s) K=K (N .i64 s.length):=by
 apply propext; unfold pR
 constructor
 ·rintro⟨s',h,hk⟩; cases h; exact hk
 ·intro hk; exact⟨s,rfl,hk⟩
@[go_sem] theorem acE (b o n c:Nat) : BJ (.slc b o n (.ex c)) K=K (N .i64 c):=by
 apply propext; unfold BJ
 constructor
 ·rintro⟨n',h,hk⟩; cases h; exact hk
 ·intro hk; exact⟨c,rfl,hk⟩
@[go_sem] theorem agq:BJ (.sc (.slice none 0 0)) K=K (N .i64 0):=by
 apply propext; unfold BJ
 constructor
 ·rintro⟨n',h,hk⟩; cases h; exact hk
 ·intro hk; exact⟨0,rfl,hk⟩
@[go_sem] theorem agw (s:List UInt8) : isStr (St s) K=K (St s):=by
 apply propext; unfold isStr
 constructor
 ·rintro⟨s',h,hk⟩; cases h; exact hk
 ·intro hk; exact⟨s,rfl,hk⟩
@[go_sem] theorem aeo {x:AV} {s:List UInt8} (h:XC M x=some s) : SA M x K=K (St s):=by
 apply propext; unfold SA
 constructor
 ·rintro⟨s',h',hk⟩; rw[h] at h'; cases h'; exact hk
 ·intro hk; exact⟨s,h,hk⟩
theorem uf {op:BinOp} {a b:List UInt8} {v:AV} (h:Dq op a b=some v) : gV op (St a) (St b) K=K v:=by
 apply propext; unfold gV
 constructor
 ·rintro⟨a',b',u,h1,h2,h3,hk⟩; cases h1; cases h2; rw[h] at h3; cases h3; exact hk
 ·intro hk; exact⟨a,b,v,rfl,rfl,h,hk⟩
@[go_sem] theorem Ah (a b:List UInt8) : gV .eql (St a) (St b) K=K (Bo (a == b)):=by rw[← jM]; exact uf rfl
@[go_sem] theorem jF (a b:List UInt8) : gV .neq (St a) (St b) K=K (Bo (a != b)):=by rw[bne,← jM]; exact uf rfl
@[go_sem] theorem Jy (a b:List UInt8) : gV .lss (St a) (St b) K=K (Bo (Op.bytesLess a b)):=uf rfl
@[go_sem] theorem afL (a b:List UInt8) : gV .leq (St a) (St b) K=K (Bo (Op.bytesLess a b || a == b)):=by rw[← jM]; exact uf rfl
@[go_sem] theorem aaI (a b:List UInt8) : gV .gtr (St a) (St b) K=K (Bo (!(Op.bytesLess a b || a == b))):=by rw[← jM]; exact uf rfl
@[go_sem] theorem agF (a b:List UInt8) : gV .geq (St a) (St b) K=K (Bo (!Op.bytesLess a b)):=uf rfl
@[go_sem] theorem afz (a b:List UInt8) : gV .add (St a) (St b) K=(a.length + b.length≤9223372036854775807∧K (St (a++b))):=by
 apply propext; unfold gV
 constructor
 ·rintro⟨a',b',u,h1,h2,h3,hk⟩; cases h1; cases h2
  simp only[Dq] at h3
  split at h3
  ·rename_i hb; cases h3; exact⟨bG hb,hk⟩
  ·cases h3
 ·rintro⟨h0,hk⟩; exact⟨a,b,_,rfl,rfl,by simp only[Dq,bE.2 h0],hk⟩
theorem mQ {neg:Bool} {tag:Nat} {x y:AV} {r:Bool} (ht:PZ x=tag) (h:Hu x y=some r) : jP neg tag x y K=K (Bo (r != neg)):=by
 apply propext; unfold jP
 constructor
 ·rintro⟨_,r',h',hk⟩; rw[h] at h'; cases h'; exact hk
 ·intro hk; exact⟨ht,r,h,hk⟩
@[go_sem] theorem ME (neg:Bool) : jP neg 2 (.sc (.slice none 0 0)) (.sc (.slice none 0 0)) K=K (Bo (!neg)):=(mQ (tag:=2) (r:=true) rfl rfl).trans (by cases neg <;> rfl)
@[go_sem] theorem NL (neg:Bool) (b:Nat) : jP neg 2 (.emp b) (.sc (.slice none 0 0)) K=K (Bo neg):=(mQ (tag:=2) (r:=false) rfl rfl).trans (by cases neg <;> rfl)
@[go_sem] theorem NQ (neg:Bool) (b o n:Nat) (c:Cap) : jP neg 2 (.slc b o n c) (.sc (.slice none 0 0)) K=K (Bo neg):=(mQ (tag:=2) (r:=false) rfl rfl).trans (by cases neg <;> rfl)
@[go_sem] theorem NI (neg:Bool) (b o:Nat) : jP neg 1 (.ptr b o) (.sc (.pointer none)) K=K (Bo neg):=(mQ (tag:=1) (r:=false) rfl rfl).trans (by cases neg <;> rfl)
@[go_sem] theorem abz (neg:Bool) : jP neg 1 (.sc (.pointer none)) (.sc (.pointer none)) K=K (Bo (!neg)):=(mQ (tag:=1) (r:=true) rfl rfl).trans (by cases neg <;> rfl)
@[go_sem] theorem acx (neg:Bool) (b:Nat) : jP neg 3 (.map b) (.sc (.map none)) K=K (Bo neg):=(mQ (tag:=3) (r:=false) rfl rfl).trans (by cases neg <;> rfl)
@[go_sem] theorem acK (neg:Bool) (f:Fn) (xs ys:List AV) : jP neg 4 (.fn f xs ys) (.sc .nilFunc) K=K (Bo neg):=(mQ (tag:=4) (r:=false) rfl rfl).trans (by cases neg <;> rfl)
@[go_sem] theorem Wd (neg:Bool) (ks:List Nat) (cs ds:List AV) : jw neg ks (.agg cs) (.agg ds) K=(cs.length=ks.length∧ds.length=ks.length∧∃ r,dE ks cs ds=some r∧K (Bo (r != neg))):=by
 apply propext; unfold jw
 constructor
 ·rintro⟨a',b',r,h1,h2,h3,h4,h5,hk⟩; cases h1; cases h2; exact⟨h3,h4,r,h5,hk⟩
 ·rintro⟨h3,h4,r,h5,hk⟩; exact⟨cs,ds,r,rfl,rfl,h3,h4,h5,hk⟩
@[go_sem] theorem agE (C:FuncId→ai) (g:FuncId) (first cap args:List AV) : bD C (.fn (.func g) first cap) args M KQ=C g (first++args++cap) M KQ:=by
 apply propext; unfold bD
 constructor
 ·rintro⟨g',f',c',h,hk⟩; cases h; exact hk
 ·intro hk; exact⟨g,first,cap,rfl,hk⟩
@[go_sem] theorem iD (cs:List AV) (parts:List (Nat × Nat × AV)) : jo cs parts K=∃ cs',Bj cs parts=some cs'∧K (.agg cs'):=rfl
@[go_sem] theorem aX (x:RB) (mk:Nat→AV) : bP x mk M KQ=KQ (mk M.next) (M.push x):=rfl
@[go_sem] theorem nL (x:RB) (mk:Nat→AV) (k:KR) : sP x mk M k=k (mk M.next) (M.push x) (some M.next):=rfl
@[go_sem] theorem wC (f:(List AV→RM→Prop)→Prop) (g:List AV→RM→Prop) : bR f g=f g:=rfl
@[go_sem] theorem afo (x:AV) (xs:List AV) : aa (x :: xs) 0=x:=rfl
@[go_sem] theorem afn (x:AV) (xs:List AV) (n:Nat) : aa (x :: xs) (n + 1)=aa xs n:=rfl
@[go_sem] theorem Xm (b:Nat) (x:RB) (mk:Nat→AV) (v:AV) : A7 (some b) M x mk v=(M.heap b=some x∧mk b=v):=rfl
end
section
variable {M M' : RM}
theorem RM.AX {b:Nat} {l:List AV} {opn:Bool} {el fz:Nat} (h:M.heap b=some (.row l opn el fz)) : M.cells b=some l:=by simp[RM.cells,h]
theorem RM.aaa {b o:Nat} {l:List AV} {opn:Bool} {el fz:Nat} (h:M.heap b=some (.row l opn el fz)) : M.cell b o=l[o]?:=by simp[RM.cell,RM.AX h]
theorem RM.dF {b o k:Nat} {l:List AV} {opn:Bool} {el fz:Nat} (h:M.heap b=some (.row l opn el fz)) (hk:o + k≤l.length) : M.loads b o k=some ((l.drop o).take k):=by
 simp[RM.loads,RM.AX h,hk]
theorem RM.Ec {b o:Nat} {l vs:List AV} {opn:Bool} {el fz:Nat} (h:M.heap b=some (.row l opn el fz)) (h1:o + vs.length≤l.length) (h2:fz≤o) (h3:vs.all oneCell=true) :
  M.stores b o vs=some (M.put b (.row (l.take o++vs++l.drop (o + vs.length)) opn el fz)):=by
 simp only[RM.stores,h]
 rw[if_pos ⟨h1,h2,h3⟩]
structure ag (bs:List Nat) (M M' : RM) : Prop where
 base:M'.base=M.base
 next:M.next≤M'.next
 heap:∀ c,c<M.next→c ∉ bs→M'.heap c=M.heap c
theorem ag.refl (bs:List Nat) (M:RM) : ag bs M M:=⟨rfl,Nat.le_refl _,fun _ _ _=>rfl⟩
theorem ag.trans {bs:List Nat} {M1 M2:RM} (h:ag bs M M1) (k:ag bs M1 M2) : ag bs M M2 :=
 ⟨k.base.trans h.base,Nat.le_trans h.next k.next,fun c hc hb=>(k.heap c (Nat.lt_of_lt_of_le hc h.next) hb).trans (h.heap c hc hb)⟩
theorem ag.push {bs:List Nat} (h:ag bs M M') (x:RB) : ag bs M (M'.push x) :=
 ⟨h.base,Nat.le_succ_of_le h.next,fun c hc hb=>by
  have:=h.next
  simp only[RM.push]; rw[if_neg (by omega)]; exact h.heap c hc hb⟩
theorem ag.put {bs:List Nat} (h:ag bs M M') {b:Nat} (x:RB) (hb:M.next≤b∨b∈bs) : ag bs M (M'.put b x) :=
 ⟨h.base,h.next,fun c hc hcb=>by
  simp only[RM.put]; rw[if_neg]
  ·exact h.heap c hc hcb
  ·rintro rfl; rcases hb with hb | hb
   ·omega
   ·exact hcb hb⟩
theorem ag.del {bs:List Nat} (h:ag bs M M') {b:Nat} (hb:M.next≤b∨b∈bs) : ag bs M (M'.del b) :=
 ⟨h.base,h.next,fun c hc hcb=>by
  simp only[RM.del]; rw[if_neg]
  ·exact h.heap c hc hcb
  ·rintro rfl; rcases hb with hb | hb
   ·omega
   ·exact hcb hb⟩
theorem ag.mono {bs cs:List Nat} (h:ag bs M M') (hs:∀ b∈bs,b∈cs) : ag cs M M':=⟨h.base,h.next,fun c hc hb=>h.heap c hc fun h=>hb (hs c h)⟩
theorem ag.bW {bs:List Nat} {M1 M2:RM} {cs:List Nat} (h:ag bs M M1) (k:ag cs M1 M2) (hn:∀ c∈cs,M.next≤c∨c∈bs) : ag bs M M2 :=
 ⟨k.base.trans h.base,Nat.le_trans h.next k.next,fun c hc hb=>by
  rw[k.heap c (Nat.lt_of_lt_of_le hc h.next) (fun hm=>by rcases hn c hm with h1 | h1; omega; exact hb h1),h.heap c hc hb]⟩
theorem ag.cells {bs:List Nat} (h:ag bs M M') {b:Nat} (hlt:b<M.next) (hb:b ∉ bs) : M'.cells b=M.cells b:=by
 simp only[RM.cells,h.heap b hlt hb,RM.lo,h.base]
theorem ag.cell {bs:List Nat} (h:ag bs M M') {b o:Nat} (hlt:b<M.next) (hb:b ∉ bs) : M'.cell b o=M.cell b o:=by
 simp only[RM.cell,h.cells hlt hb]
theorem ag.loads {bs:List Nat} (h:ag bs M M') {b o k:Nat} (hlt:b<M.next) (hb:b ∉ bs) : M'.loads b o k=M.loads b o k:=by
 simp only[RM.loads,h.cells hlt hb]
@[go_sem] theorem RM.afu (x:RB) : (M.push x).next=M.next + 1:=rfl
@[go_sem] theorem RM.aga (b:Nat) (x:RB) : (M.put b x).next=M.next:=rfl
@[go_sem] theorem RM.agu (b:Nat) : (M.del b).next=M.next:=rfl
@[go_sem] theorem RM.aQ (x:RB) : (M.push x).heap M.next=some x:=by simp[RM.push]
theorem RM.ZQ {x:RB} {c:Nat} (h:c≠M.next) : (M.push x).heap c=M.heap c:=by simp[RM.push,h]
@[go_sem] theorem RM.vO (b:Nat) (x:RB) : (M.put b x).heap b=some x:=by simp[RM.put]
end
abbrev bB:AV:=.sc (.slice none 0 0)
inductive aR (M:RM) (size:Nat) : AV→List AV→Nat→Prop
 | nil:aR M size bB [] 0
 | emp (b:Nat) : aR M size (.emp b) [] 0
 | slc (b o n:Nat) (cap:Cap) (cs:List AV) : b<M.next→M.loads b o (n * size)=some cs→aR M size (.slc b o n cap) cs n
section
variable {M M' : RM} {size:Nat} {v:AV} {cs:List AV} {n:Nat}
theorem Gh {b o k:Nat} {cs:List AV} (h:M.loads b o k=some cs) : cs.length=k:=by
 unfold RM.loads at h
 split at h <;> first | (cases h; done) | skip
 split at h <;> first | (cases h; done) | skip
 rename_i hle
 have:=Option.some.inj h
 rw[← this,List.length_take,List.length_drop]; omega
theorem YT {b o k:Nat} {cs:List AV} (h:M.loads b o k=some cs) (i:Nat) (hi:i<k) : M.cell b (o + i)=cs[i]?:=by
 unfold RM.loads at h
 unfold RM.cell
 split at h <;> first | (cases h; done) | skip
 rename_i l hl
 split at h <;> first | (cases h; done) | skip
 cases h
 simp only[hl,Option.bind_some]
 rw[List.getElem?_take,if_pos hi,List.getElem?_drop]
theorem tZ {b o k:Nat} {cs:List AV} (h:M.loads b o k=some cs) (i j:Nat) (hij:i + j≤k) : M.loads b (o + i) j=some ((cs.drop i).take j):=by
 unfold RM.loads at h ⊢
 cases hl:M.cells b with
 | none=>rw[hl] at h; cases h
 | some l =>
   rw[hl] at h
   simp only at h ⊢
   split at h
   ·rename_i hle
    have h:=Option.some.inj h
    subst h
    rw[if_pos (by omega),List.drop_take,List.drop_drop,List.take_take]
    congr 2
    omega
   ·cases h
theorem Le {b o:Nat} {l:List AV} (h:M.cells b=some l) (ho:o≤l.length) : M.loads b o 0=some []:=by
 simp[RM.loads,h,ho]
theorem aR.length (h:aR M size v cs n) : cs.length=n * size:=by
 cases h with
 | nil=>exact(Nat.zero_mul _).symm
 | emp=>exact(Nat.zero_mul _).symm
 | slc b o n cap cs hb0 hl=>exact Gh hl
theorem aR.len (h:aR M size v cs n) {K:AV→Prop} : bQ v K=K (N .i64 n):=by
 cases h with
 | nil=>exact Jt
 | emp b=>exact aaC b
 | slc b o n cap cs hb0 hl=>exact mM b o n cap
theorem aR.nK (h:aR M size v cs n) (zs:List AV) : nK M size zs false v=some (n,cs):=by
 cases h with
 | nil=>rfl
 | emp b=>rfl
 | slc b o n cap cs hb0 hl=>simp only[Go.Ab.nK,hl]
theorem aR.pos (h:aR M size v cs n) (hn:0<n) : ∃ b o cap,v=.slc b o n cap∧b<M.next∧M.loads b o (n * size)=some cs:=by
 cases h with
 | nil=>omega
 | emp b=>omega
 | slc b o n cap cs hb0 hl=>exact⟨b,o,cap,rfl,hb0,hl⟩
def aI:AV→List Nat
 | .slc b _ _ _=>[b]
 | _=>[]
theorem aR.keep {bs:List Nat} (h:aR M size v cs n) (hk:ag bs M M') (hb:∀ b∈aI v,b ∉ bs) : aR M' size v cs n:=by
 cases h with
 | nil=>exact .nil
 | emp b=>exact .emp b
 | slc b o n cap cs hb0 hl =>
   exact .slc b o n cap cs (Nat.lt_of_lt_of_le hb0 hk.next) (by rw[hk.loads hb0 (hb b (by simp[aI]))]; exact hl)
inductive Own (M:RM) (base el size:Nat) : AV→List AV→Nat→Prop
 | nil:Own M base el size bB [] 0
 | ex0 (b o:Nat) : base≤b→b<M.next→(∃ l,M.cells b=some l∧o≤l.length)→Own M base el size (.slc b o 0 (.ex 0)) [] 0
 | op (b n:Nat) (cs:List AV) : base≤b→b<M.next→M.heap b=some (.row cs true el 0)→cs.length=n * size→Own M base el size (.slc b 0 n (.op size)) cs n
theorem Own.il {base el:Nat} (h:Own M base el size v cs n) : aR M size v cs n:=by
 cases h with
 | nil=>exact .nil
 | ex0 b o hb hlt hc =>
   obtain⟨l,hl,ho⟩:=hc
   exact .slc b o 0 _ [] hlt (by rw[Nat.zero_mul]; exact Le hl ho)
 | op b n cs hb hlt hh hl =>
   refine .slc b 0 n _ cs hlt ?_
   rw[RM.dF hh (by omega)]
   simp[← hl]
theorem Own.blk {base el:Nat} (h:Own M base el size v cs n) : ∀ b∈aI v,base≤b∧b<M.next:=by
 cases h with
 | nil=>intro b hb; simp[aI] at hb
 | ex0 b o hb hlt hc=>intro c hc; simp[aI] at hc; subst hc; exact⟨hb,hlt⟩
 | op b n cs hb hlt hh hl=>intro c hc; simp[aI] at hc; subst hc; exact⟨hb,hlt⟩
theorem Own.keep {base el:Nat} {bs:List Nat} (h:Own M base el size v cs n) (hk:ag bs M M') (hb:∀ b∈aI v,b ∉ bs) : Own M' base el size v cs n:=by
 cases h with
 | nil=>exact .nil
 | ex0 b o h1 hlt hc=>exact .ex0 b o h1 (Nat.lt_of_lt_of_le hlt hk.next) (by rw[hk.cells hlt (hb b (by simp[aI]))]; exact hc)
 | op b n cs h1 hlt hh hl=>exact .op b n cs h1 (Nat.lt_of_lt_of_le hlt hk.next) (by rw[hk.heap b hlt (hb b (by simp[aI]))]; exact hh) hl
theorem Own.mono {base base' el:Nat} (h:Own M base el size v cs n) (hb:base'≤base) : Own M base' el size v cs n:=by
 cases h with
 | nil=>exact .nil
 | ex0 b o h1 hlt hc=>exact .ex0 b o (Nat.le_trans hb h1) hlt hc
 | op b n cs h1 hlt hh hl=>exact .op b n cs (Nat.le_trans hb h1) hlt hh hl
theorem zJ {base el bytes:Nat} {zs:List AV} {zeros:Bool} {x:AV} {m:Nat} {ds:List AV} {K:ak} (h:Own M base el size v cs n) (hbase:base≤M.next) (hs:1≤size) (hx:nK M size zs zeros x=some (m,ds)) (hd:ds.length=m * size)
  (h1:ds.all oneCell=true) (hb:(n + m) * bytes≤140737488355328) (hb2:n + m≤140737488355328)
  (hK:∀ v' M',Own M' base el size v' (cs++ds) (n + m)→ag (aI v) M M'→M.next≤M'.next→(v'=v∨∀ b∈aI v',M.next≤b)→K v' M') : appW el size bytes zs zeros v x M K:=by
 have hmb:m * bytes≤140737488355328:=Nat.le_trans (Nat.mul_le_mul_right _ (by omega)) hb
 refine⟨m,ds,hx,hmb,by omega, ?_⟩
 cases h with
 | nil =>
   by_cases hm:m=0
   ·subst hm
    have:ds=[]:=List.eq_nil_of_length_eq_zero (by simpa using hd)
    subst this
    exact⟨bB,M,by simp[sW],hK _ _ .nil (ag.refl _ _) (Nat.le_refl _) (.inl rfl)⟩
   ·refine⟨.slc M.next 0 m (.op size),M.push (.row ds true el 0),by simp only[sW,if_neg hm,h1,if_true],hK _ _ ?_ ((ag.refl _ _).push _) (by simp[RM.push]) (.inr fun b hb=>by simp[aI] at hb; omega)⟩
    simp only[List.nil_append,Nat.zero_add]
    exact .op _ _ _ hbase (by simp[RM.push]) (RM.aQ _) hd
 | ex0 b o hb0 hlt hc =>
   obtain⟨l,hl,ho⟩:=hc
   by_cases hm:m=0
   ·subst hm
    have:ds=[]:=List.eq_nil_of_length_eq_zero (by simpa using hd)
    subst this
    exact⟨_,M,by simp[sW],hK _ _ (.ex0 b o hb0 hlt ⟨l,hl,ho⟩) (ag.refl _ _) (Nat.le_refl _) (.inl rfl)⟩
   ·refine⟨.slc M.next 0 m (.op size),M.push (.row ds true el 0), ?_,hK _ _ ?_ ((ag.refl _ _).push _) (by simp[RM.push]) (.inr fun b hb=>by simp[aI] at hb; omega)⟩
    ·have hl0:M.loads b o (0 * size)=some []:=by rw[Nat.zero_mul]; exact Le hl ho
     simp only[sW,if_neg hm]
     rw[if_neg (by omega),hl0]
     simp only[Nat.zero_add,List.nil_append]
     rw[if_pos ⟨hmb,by omega,h1⟩]
    ·simp only[List.nil_append,Nat.zero_add]
     exact .op _ _ _ hbase (by simp[RM.push]) (RM.aQ _) hd
 | op b n cs hb0 hlt hh hl =>
   by_cases hm:m=0
   ·subst hm
    have:ds=[]:=List.eq_nil_of_length_eq_zero (by simpa using hd)
    subst this
    exact⟨_,M,by simp[sW],hK _ _ (by simpa using .op b n cs hb0 hlt hh hl) (ag.refl _ _) (Nat.le_refl _) (.inl rfl)⟩
   ·have hpos:1≤m * size:=Nat.mul_pos (by omega) hs
    have hsum:(n + m) * size=n * size + m * size:=Nat.add_mul _ _ _
    refine⟨.slc M.next 0 (n + m) (.op size),(M.del b).push (.row (cs++ds) true el 0), ?_,hK _ _ ?_ (((ag.refl _ _).del (.inr (by simp[aI]))).push _) (by simp[RM.push,RM.del]) (.inr fun b hb=>by simp[aI] at hb; omega)⟩
    ·simp only[sW,if_neg hm,hh,and_self,if_true]
     rw[if_neg (by omega),if_pos ⟨trivial,hb,hb2,trivial,hl,Nat.zero_le _,h1⟩]
    ·exact .op _ _ _ (show base≤M.next from hbase) (by simp[RM.push,RM.del]) (by simp[RM.push,RM.del]) (by rw[List.length_append,hl,hd,hsum])
theorem aR.Hu (h:aR M size v cs n) (neg:Bool) : (v=bB∧∀ K:AV→Prop,jP neg 2 v bB K=K (Bo (!neg)))∨(v≠bB∧∀ K:AV→Prop,jP neg 2 v bB K=K (Bo neg)):=by
 cases h with
 | nil=>exact .inl ⟨rfl,fun _=>ME neg⟩
 | emp b=>exact .inr ⟨by(intro h; cases h),fun _=>NL neg b⟩
 | slc b o n cap cs hb0 hl=>exact .inr ⟨by(intro h; cases h),fun _=>NQ neg b o n cap⟩
theorem Own.lit {base el T:Nat} (M:RM) (h:base≤M.next) : Own (M.push (.row [] false T 0)) base el size (.slc M.next 0 0 (.ex 0)) [] 0 :=
 .ex0 _ _ h (by simp[RM.push]) ⟨[],by simp[RM.cells,RM.push],Nat.le_refl _⟩
end
end Go.Ab
set_option maxRecDepth 4000
namespace Go.Ab
open Go
theorem wrap_u8 (n:Nat) : IntKind.wrap .u8 (n:Int)=((n % 256:Nat) : Int):=by
 simp only[IntKind.wrap,IntKind.bits,IntKind.signed,IntKind.max,IntKind.min]
 simp
theorem wrap_u64 (n:Nat) : IntKind.wrap .u64 (n:Int)=((n % 18446744073709551616:Nat) : Int):=by
 simp only[IntKind.wrap,IntKind.bits,IntKind.signed,IntKind.max,IntKind.min]
 simp
theorem VS {n:Int} (h0:0≤n) (h:n<256) : IntKind.wrap .u8 n=n:=by
 obtain⟨m,rfl⟩:=Int.eq_ofNat_of_zero_le h0
 rw[wrap_u8,Nat.mod_eq_of_lt (by omega)]
theorem fJ {n:Int} (h0:0≤n) (h:n<18446744073709551616) : IntKind.wrap .u64 n=n:=by
 obtain⟨m,rfl⟩:=Int.eq_ofNat_of_zero_le h0
 rw[wrap_u64,Nat.mod_eq_of_lt (by omega)]
theorem aS {n:Int} (h0 : -9223372036854775808≤n) (h:n<9223372036854775808) : IntKind.wrap .i64 n=n:=by
 rw[IntKind.wrap_i64]; omega
theorem ab7 (k:Nat) (a b:Nat) : (BitVec.ofInt k (a:Int) &&& BitVec.ofInt k (b:Int)).toNat=(a &&& b) % 2 ^ k:=by
 rw[BitVec.toNat_and,BitVec.ofInt_natCast,BitVec.ofInt_natCast,BitVec.toNat_ofNat,BitVec.toNat_ofNat,← Nat.and_mod_two_pow]
theorem acB (k:Nat) (a b:Nat) : (BitVec.ofInt k (a:Int) ^^^ BitVec.ofInt k (b:Int)).toNat=(a ^^^ b) % 2 ^ k:=by
 rw[BitVec.toNat_xor,BitVec.ofInt_natCast,BitVec.ofInt_natCast,BitVec.toNat_ofNat,BitVec.toNat_ofNat,← Nat.xor_mod_two_pow]
theorem ZK (a b:Nat) : ((a:Int).fdiv (b:Int))=((a / b:Nat) : Int):=by
 rw[Int.fdiv_eq_ediv_of_nonneg _ (by omega)]; rfl
def wI:IntKind→Nat
 | .u8=>8 | .u16=>16 | .u32=>32 | _=>64
def DV:IntKind→Bool
 | .u8 | .u16 | .u32 | .u64=>true
 | _=>false
theorem Jz {k:IntKind} (h:DV k=true) (n:Nat) : k.wrap (n:Int)=((n % 2 ^ wI k:Nat) : Int):=by
 cases k <;> simp[DV] at h <;> (simp only[IntKind.wrap,IntKind.bits,IntKind.signed,wI]; simp)
theorem RQ (k:IntKind) (h:DV k=true) : k.bits=wI k:=by cases k <;> simp[DV] at h <;> rfl
theorem Ea {k:IntKind} (h:DV k=true) (a b:Nat) : Qo k a b=(((a &&& b) % 2 ^ wI k:Nat) : Int):=by
 unfold Qo
 rw[ab7,Jz h,RQ k h,Nat.mod_mod]
theorem aba {k:IntKind} (h:DV k=true) (a b:Nat) : VX k a b=(((a ^^^ b) % 2 ^ wI k:Nat) : Int):=by
 unfold VX
 rw[acB,Jz h,RQ k h,Nat.mod_mod]
theorem JE (k:IntKind) (a b:Nat) (hb:b≤k.bits) : Tj k a b=((a / 2 ^ b:Nat) : Int):=by
 unfold Tj
 rw[Int.toNat_natCast,Nat.min_eq_left hb,← ZK,Int.natCast_pow]; rfl
theorem RX {k:IntKind} (h:DV k=true) (a b:Nat) (hb:b≤k.bits) : XN k a b=((a * 2 ^ b % 2 ^ wI k:Nat) : Int):=by
 unfold XN
 rw[Int.toNat_natCast,Nat.min_eq_left hb,← Jz h,Int.natCast_mul,Int.natCast_pow]
 rfl
end Go.Ab
namespace Go.Ab.ay
open Go Go.Ab
theorem OH {T size bytes:Nat} {zs:List AV} {M0:RM} {a0:AV} {cs:List AV} {n:Nat} (h:aR M0 size a0 cs n) (h1:cs.all oneCell=true) (hs:1≤size) (hn:n * bytes≤140737488355328) (hn2:n≤140737488355328) {Q:ak}
  (hQ:∀ v M',Own M' M0.next T size v cs n→ag [] M0 M'→Q v M') :
  jP false 2 a0 bB fun t4=>au t4 (Q bB M0) (dW T 0 zs [] fun r f=>bP r f M0 fun t5 M=>appW T size bytes zs false t5 a0 M fun t7 M_0=>Q t7 M_0):=by
 rcases h.Hu false with⟨rfl,e⟩ | ⟨hne,e⟩
 ·rw[e]
  cases h
  exact⟨fun _=>hQ _ _ .nil (ag.refl _ _),fun h=>by simp at h⟩
 ·rw[e]
  refine⟨fun h=>by simp at h,fun _=>⟨[],rfl, ?_⟩⟩
  have hk:ag [] M0 (M0.push (.row [] false T 0)):=(ag.refl _ _).push _
  refine zJ (base:=M0.next) (Own.lit M0 (Nat.le_refl _)) (by simp[RM.push]) hs ((h.keep hk (by simp)).nK _) h.length h1 (by rw[Nat.zero_add]; exact hn) (by omega) ?_
  intro v' M' ho hk' hnx hv
  exact hQ v' M' (by simpa using ho) (hk.bW hk' (by simp[aI]))
def Yo (T size bytes:Nat) (c:ai) : Prop:=∀ {M0:RM} {a0:AV} {cs:List AV} {n:Nat},aR M0 size a0 cs n→cs.all oneCell=true→n * bytes≤140737488355328→n≤140737488355328→∀ {Q:ak},
 (∀ v M',Own M' M0.next T size v cs n→ag [] M0 M'→Q v M')→c [a0] M0 Q
abbrev SS (l:List UInt8) : List AV:=l.map fun b=>N .u8 b.toNat
end Go.Ab.ay
namespace Go.Ab
open Go Go.RowKit
section
variable {P:Program}
theorem dU.opened {ρ:Ren} {M:RM} {w:World} {b n:Nat} {l:List AV} {el:Nat} {u:Value} (hw:dU P ρ M w) (hh:M.heap b=some (.row l true el 0)) (hl:l.length=n) (hv:aB ρ (.slc b 0 n (.op 1)) u) :
  ∃ c,n≤c∧aB ρ (.slc b 0 n (.ex c)) u∧dU P ρ (M.put b (.row (l++List.replicate (c - n) .top) true el 0)) w:=by
 obtain⟨A,hA⟩:=hw
 obtain⟨k,i,hb,hp,he,hk,rfl⟩:=Aq hv
 rcases hA.blk b _ hh with⟨y,hy,hle⟩ | ⟨_,e0,_⟩
 ·cases y <;> first | exact hle.elim | skip
  rename_i nn tree zs opn elem fz
  obtain⟨r1,rfl,rfl,rfl,r5⟩:=hle
  obtain⟨ob,hob,cs,fr,rfl,hrow⟩:=hA.rel.blk b i _ hb hy
  obtain⟨h0,hcs,hels⟩:=hrow.opn rfl
  have hk0:k=0:=by
   rcases Nat.eq_zero_or_pos k with e | e
   ·exact e
   ·have:0<k * i.esz:=Nat.mul_pos e h0
    omega
  subst hk0
  have hsh:=hrow.sh0
  rw[← he,Nat.mul_one,hsh,Nat.zero_add] at hcs
  refine⟨i.eP,by omega, ?_,⟨{ A with heap:=A.heap.set b (.row i.eP (Tree.ofList (l++List.replicate (i.eP - n) .top) 0 .leaf) [] true elem 0) },hA.next,⟨hA.rel.dom,fun b' i' x hb' hx=>?_,fun b1 b2 i1 i2 x1 x2 p1 p2 g1 g2 e=>?_,fun b' x hx=>?_,fun b' i' x hb' hx=>?_,hA.rel.inv⟩,hA.size,fun c x hx=>?_,hA.old⟩⟩
  ·have:=aB.iy (ρ:=ρ) b 0 n i.eP i hb
   rw[Nat.zero_mul] at *
   simpa using this
  ·simp only[Tree.bL] at hx
   by_cases e:b'=b
   ·subst e
    rw[if_pos rfl] at hx
    cases hx
    rw[hb] at hb'; cases hb'
    refine⟨_,hob,cs,fr,rfl,⟨by rw[hsh]; omega,fun j x hj=>?_,fun j h1 h2=>hrow.free j h1 h2,hrow.mark,fun _=>⟨h0,by rw[hsh,← he]; omega,hels⟩,hsh⟩⟩
    obtain⟨hjlt,hj2⟩:=kZ hj
    rw[Tree.kT] at hj2
    split at hj2
    ·rename_i hlt
     rw[Nat.sub_zero] at hj2
     by_cases hjl:j<l.length
     ·rw[List.getElem?_append_left hjl] at hj2
      exact hrow.val j x (r5 j x hj2)
     ·rw[List.getElem?_append_right (by omega),List.getElem?_replicate] at hj2
      split at hj2
      ·cases hj2
       exact⟨cs[j]'(by omega),by rw[hsh,Nat.zero_add]; simp,.top _⟩
      ·cases hj2
    ·simp[Tree.get] at hj2
   ·rw[if_neg e] at hx
    exact hA.rel.blk b' i' x hb' hx
  ·have q:∀ {b1 x1},(A.heap.set b (dL.row i.eP (Tree.ofList (l++List.replicate (i.eP - n) .top) 0 .leaf) [] true elem 0)).get b1=some x1→∃ y,A.heap.get b1=some y:=by
    intro b1 x1 h
    rw[Tree.bL] at h
    by_cases e:b1=b
    ·subst e; exact⟨_,hy⟩
    ·rw[if_neg e] at h; exact⟨_,h⟩
   obtain⟨y1,e1⟩:=q g1
   obtain⟨y2,e2⟩:=q g2
   exact hA.rel.sep _ _ _ _ _ _ p1 p2 e1 e2 e
  ·simp only[Tree.bL] at hx
   by_cases e:b'=b
   ·subst e; exact hA.rel.top _ _ hy
   ·rw[if_neg e] at hx; exact hA.rel.top _ _ hx
  ·simp only[Tree.bL] at hx
   by_cases e:b'=b
   ·subst e; exact hA.rel.lo _ _ _ hb' hy
   ·rw[if_neg e] at hx; exact hA.rel.lo _ _ _ hb' hx
  ·simp only[RM.put] at hx
   simp only[Tree.bL]
   by_cases e:c=b
   ·subst e
    rw[if_pos rfl] at hx ⊢
    cases hx
    refine .inl ⟨_,rfl,by simp; omega,rfl,rfl,rfl,fun j v hj=>?_⟩
    have hjl:=(List.getElem?_eq_some_iff.1 hj).1
    exact wG (by simp at hjl; omega) (by rw[Tree.kT,if_pos (by omega)]; simpa using hj)
   ·rw[if_neg e] at hx ⊢
    exact hA.blk c x hx
 ·cases e0
theorem iG.abb {f:FuncId} {b n:Nat} {l:List AV} {el:Nat} {rest:List AV} {M:RM} {Q:ak} (hP:Hl P f) (hh:M.heap b=some (.row l true el 0)) (hl:l.length=n)
  (h:∀ c,n≤c→iG P f (.slc b 0 n (.ex c) :: rest) (M.put b (.row (l++List.replicate (c - n) .top) true el 0)) Q) : iG P f (.slc b 0 n (.op 1) :: rest) M Q:=by
 refine⟨hP,fun ρ w us hargs hw=>?_⟩
 cases hargs with
 | cons _ u _ us hv hr =>
 obtain⟨c,hc,hv',hw'⟩:=hw.opened hh hl hv
 refine((h c hc).2 ρ w (u :: us) (.cons _ _ _ _ hv' hr) hw').mono fun e w' hR=>?_
 obtain⟨v',v,M',ρ',rfl,k1,k2,k3⟩:=hR
 exact⟨v',v,M',ρ',rfl,⟨k1.step,k1.rel,k1.base,k1.next⟩,k2,k3⟩
end
def RM.old (base:Base) (w:World) : RM where
 next:=base.n
 heap:=fun b=>if b<base.n then(match w.heap[b]? with | some (.cells c _ _)=>some (.ro c) | _=>none) else none
 base:=base
def RP (n:Nat) : Ren:=fun b=>if b<n then some ⟨b,0,0,0⟩ else none
theorem aaG {P:Program} {base:Base} {w:World} (hn:base.n=w.heap.size) (hi:base.inv w) : dU P (RP base.n) (RM.old base w) w:=by
 refine⟨{ next:=base.n,heap:=.leaf },rfl,⟨fun b i h=>?_,fun b i x _ h=>by simp[Tree.get] at h,fun b _ i _ x _ _ _ h=>by simp[Tree.get] at h,fun b x h=>by simp[Tree.get] at h,fun b i x _ h=>by simp[Tree.get] at h,hi⟩,by simp[RM.old,RM.lo,hn],fun b x h=>.inr ?_,fun c hc=>by have hc' : c<base.n:=hc; simp only[RP]; rw[if_pos hc']⟩
 ·simp only[RP] at h
  split at h <;> first | (cases h; done) | skip
  cases h
  exact⟨by assumption,by rw[← hn]; assumption⟩
 ·simp only[RM.old] at h
  split at h <;> first | (cases h; done) | skip
  rename_i hlt
  split at h <;> first | (cases h; done) | skip
  rename_i c el fr hh
  cases h
  exact⟨c,rfl,hlt,el,fr,hh⟩
theorem RM.Zt {base:Base} {w:World} {b:Nat} {c:Array Value} {el:TypeId} {fr:_} (hb:b<base.n) (h:w.heap[b]?=some (.cells c el fr)) : (RM.old base w).cells b=some (c.toList.map (sG base.n)):=by
 simp only[RM.cells,RM.old,if_pos hb,h]
def qb (lo:Nat) : Value→AV
 | .agg cs=>.agg (cs.toList.map (sG lo))
 | v=>sG lo v
theorem QY {ρ:Ren} {lo:Nat} (h:∀ c,c<lo→ρ c=some ⟨c,0,0,0⟩) : ∀ (vs:List Value),bC ρ (vs.map (sG lo)) vs
 | []=>.nil
 | v :: vs=>.cons _ _ _ _ (JC h v) (QY h vs)
theorem aap {ρ:Ren} {lo:Nat} (h:∀ c,c<lo→ρ c=some ⟨c,0,0,0⟩) (v:Value) : aB ρ (qb lo v) v:=by
 unfold qb
 split
 ·exact .agg _ _ (QY h _)
 ·exact JC h v
theorem Ph {ρ:Ren} {lo:Nat} (h:∀ c,c<lo→ρ c=some ⟨c,0,0,0⟩) : ∀ (vs:List Value),bC ρ (vs.map (qb lo)) vs
 | []=>.nil
 | v :: vs=>.cons _ _ _ _ (aap h v) (Ph h vs)
theorem iG.close {P:Program} {f:FuncId} {base:Base} {w:World} {us:Array Value} (hn:base.n=w.heap.size) (hi:base.inv w)
  (h:iG P f (us.toList.map (qb base.n)) (RM.old base w) fun v _=>v=Bo true) :
  Calls P f us w fun e w'=>e=.returned (.bool true)∧Below w.heap.size w w':=by
 have hr:=aaG (P:=P) hn hi
 refine((h.2 (RP base.n) w us.toList (Ph (fun c hc=>by simp only[RP]; rw[if_pos hc]) _) hr)).mono fun e w' hR=>?_
 obtain⟨v',v,M',ρ',rfl,k1,k2,rfl⟩:=hR
 obtain⟨rfl,_⟩:=bi k2
 refine⟨rfl,k1.step.os,k1.step.tape,k1.step.output,k1.step.size,fun k hk=>k1.step.low k ?_⟩
 show k<base.n
 rw[hn]; exact hk
def Gw:Option TypeDesc→Bool
 | some .bool | some (.int _) | some .string | some (.slice _) | some (.struct _) | some (.array _ _)=>false
 | _=>true
inductive Fits (P:Program) (M:RM) : TypeId→List AV→Prop
 | bool (t:TypeId) (b:Bool) : P.underlying t=some .bool→Fits P M t [Bo b]
 | int (t:TypeId) (k:IntKind) (n:Int) : P.underlying t=some (.int k)→k.min≤n→n≤k.max→Fits P M t [N k n]
 | str (t:TypeId) (s:List UInt8) : P.underlying t=some .string→s.length≤reachBytes→Fits P M t [St s]
 | adX (t e:TypeId) : P.underlying t=some (.slice e)→Fits P M t [bB]
 | emp (t e:TypeId) (b:Nat) : P.underlying t=some (.slice e)→Fits P M t [.emp b]
 | slc (t e:TypeId) (b o n c:Nat) (cs:List AV) : P.underlying t=some (.slice e)→b<M.next→n≤c→c * P.bytesOf e≤reachBytes→M.loads b o (n * P.cellsOf e)=some cs →
   (∀ i,i<n→Fits P M e ((cs.drop (i * P.cellsOf e)).take (P.cellsOf e)))→Fits P M t [.slc b o n (.ex c)]
 | struct (t:TypeId) (fs:Array Field) (cs:List AV) : P.underlying t=some (.struct fs)→cs.length=P.cellsOf t →
   (∀ (i:Nat) (f:Field),fs[i]?=some f→Fits P M f.type ((cs.drop f.offset).take (P.cellsOf f.type)))→Fits P M t cs
 | array (t e:TypeId) (n:Nat) (cs:List AV) : P.underlying t=some (.array n e)→cs.length=P.cellsOf t →
   (∀ i,i<n→Fits P M e ((cs.drop (i * P.cellsOf e)).take (P.cellsOf e)))→Fits P M t cs
 | other (t:TypeId) (cs:List AV) : Gw (P.underlying t)=true→Fits P M t cs
 | zero (t e:TypeId) (cs:List AV) : P.underlying t=some (.slice e)→P.cellsOf e=0→Fits P M t cs
theorem EX (a:Addr) : a.add 0=a:=by simp[Addr.add]
theorem yK {w:World} {base:Nat} {a:Addr} {n:Nat} {cs:List Value} (h:w.cells? base a n=some cs) : cs.length=n∧∀ i,i<n→w.cell? (a.add i)=cs[i]?:=by
 unfold World.cells? at h
 split at h
 ·exact⟨by simpa using mapM_some_length h,fun i hi=>mapM_some_get h i i (by simp[hi])⟩
 ·cases h
theorem cell?_at {w:World} {a:Addr} {v:Value} (h:w.cell? a=some v) : ∃ c el fr,w.heap[a.block]?=some (.cells c el fr)∧a.spot=none∧a.off<c.size∧c[a.off]?=some v:=by
 unfold World.cell? at h
 split at h
 ·rename_i c el fr hh
  split at h
  ·cases h
  ·rename_i hs
   exact⟨c,el,fr,hh,by simpa using hs,(Array.getElem?_eq_some_iff.1 h).1,h⟩
 ·cases h
section
variable {H:Type} {enc:TypeId × Value→H} {P:Program} {base:Base} {w:World}
theorem u6 {e:TypeId} {ds:List (DataW H)} {d:DataW H} (hd:d∈ds) {x:Nat} (hx:x∈d.weights P e) : x∈DataW.weightsAll P e ds:=by
 induction ds with
 | nil=>cases hd
 | cons y ys ih =>
   simp only[DataW.weightsAll,List.mem_append]
   rcases List.mem_cons.1 hd with rfl | hd
   ·exact .inl hx
   ·exact .inr (ih hd)
theorem A9 {x:Nat} : ∀ (ts:List TypeId) (ds:List (DataW H)) (i:Nat) (t:TypeId) (d:DataW H),ts[i]?=some t→ds[i]?=some d→x∈d.weights P t→x∈DataW.weightsEach P ts ds
 | [],_,_,_,_,h,_,_=>by simp at h
 | _ :: _,[],_,_,_,_,h,_=>by simp at h
 | t :: ts,d :: ds,0,t',d',h,h',hx=>by
   simp at h h'; subst h h'
   simp only[DataW.weightsEach,List.mem_append]; exact .inl hx
 | t :: ts,d :: ds,i + 1,t',d',h,h',hx=>by
   simp only[DataW.weightsEach,List.mem_append]
   exact .inr (A9 ts ds i t' d' (by simpa using h) (by simpa using h') hx)
theorem RJ (hn:base.n=w.heap.size) {held:Bool} : ∀ (fuel:Nat) (t:TypeId) (cs:List Value) (x:DataW H × List MemPlace),DataW.trod enc P w 0 (fun _=>true) held fuel t cs=some x →
  (∀ y∈x.1.weights P t,y≤reachBytes)→Fits P (RM.old base w) t (cs.map (sG base.n)):=by
 intro fuel
 induction fuel with
 | zero=>intro t cs x h; simp[DataW.trod] at h
 | succ m ih =>
   intro t cs x h hw
   cases hu:P.underlying t with
   | none=>exact .other _ _ (by rw[hu]; rfl)
   | some d =>
     cases d with
     | bool =>
       obtain⟨b,rfl,rfl⟩:=DataW.trod_bool hu h
       exact .bool t b hu
     | int k =>
       obtain⟨n,rfl,rfl,hwf⟩:=DataW.trod_int hu h
       simp only[Lit.wf,Bool.and_eq_true,decide_eq_true_eq] at hwf
       exact .int t k n hu hwf.1 hwf.2
     | string =>
       obtain⟨s,rfl,rfl,_⟩:=DataW.trod_string hu h
       exact .str t s.data.toList hu (hw _ (by simp[DataW.weights]))
     | slice e =>
       rcases DataW.trod_slice hu h with⟨rfl,rfl⟩ | ⟨a,len,cap,elems,rest,n,hm,rfl,rfl,_,hlc,_,hel,hget,hrest,_⟩
       ·exact .adX t e hu
       ·cases hm
        rcases Nat.eq_zero_or_pos (P.cellsOf e) with hz | hz
        ·exact .zero t e _ hu hz
        rcases Nat.eq_zero_or_pos cap with hc | hc
        ·have hl0:len=0:=by omega
         subst hc hl0
         exact .emp t e 0 hu
        ·obtain⟨hr1,hr2⟩:=hrest rfl
         have every:∀ i,i<cap→∃ es y,w.cells? 0 (a.add (i * P.cellsOf e)) (P.cellsOf e)=some es∧DataW.trod enc P w 0 (fun _=>true) held m e es=some y∧(y∈elems∨y∈rest):=by
          intro i hi
          by_cases hil:i<len
          ·have h1:=hget i hil
           have h2:elems[i]?=some (elems[i]'(by omega)):=by simp[hel,hil]
           rw[h2] at h1
           obtain⟨es,e1,e2⟩:=Option.bind_eq_some_iff.1 h1
           exact⟨es,_,e1,e2,.inl (List.getElem_mem _)⟩
          ·have h1:=hr2 (i - len) (by omega)
           rw[show len + (i - len)=i by omega] at h1
           have h2:rest[i - len]?=some (rest[i - len]'(by omega)):=by
            rw[List.getElem?_eq_getElem]
           rw[h2] at h1
           obtain⟨es,e1,e2⟩:=Option.bind_eq_some_iff.1 h1
           exact⟨es,_,e1,e2,.inr (List.getElem_mem _)⟩
         obtain⟨es0,_,k0,_,_⟩:=every 0 hc
         obtain⟨kl0,kg0⟩:=yK k0
         have hc0:=kg0 0 hz
         rw[List.getElem?_eq_getElem (by omega)] at hc0
         obtain⟨c,el,fr,hh,hsp,_,_⟩:=cell?_at hc0
         obtain⟨b,o,sp⟩:=a
         rw[Nat.zero_mul,EX,EX] at hh hsp
         simp only at hh hsp
         subst hsp
         have hblt:b<base.n:=by rw[hn]; exact(Array.getElem?_eq_some_iff.1 hh).1
         have hlast:o + cap * P.cellsOf e≤c.size:=by
          obtain⟨es1,_,k1,_,_⟩:=every (cap - 1) (by omega)
          obtain⟨kl1,kg1⟩:=yK k1
          have hc1:=kg1 (P.cellsOf e - 1) (by omega)
          rw[List.getElem?_eq_getElem (by omega)] at hc1
          obtain⟨c',el',fr',hh',_,hlt,_⟩:=cell?_at hc1
          rw[eQ,eQ] at hh' hlt
          simp only at hh' hlt
          rw[hh] at hh'
          cases hh'
          have:cap * P.cellsOf e=(cap - 1) * P.cellsOf e + P.cellsOf e:=by
           rw[← Nat.succ_mul]; congr 1; omega
          omega
         have afR:sG base.n (.slice (some ⟨b,o,none⟩) len cap)=.slc b o len (.ex cap):=by
          obtain⟨cap,rfl⟩ : ∃ k,cap=k + 1:=⟨cap - 1,by omega⟩
          simp only[sG,if_pos hblt]
         have hcells:=RM.Zt hblt hh
         have hle:len * P.cellsOf e≤cap * P.cellsOf e:=Nat.mul_le_mul_right _ hlc
         have hload:(RM.old base w).loads b o (len * P.cellsOf e)=some (((c.toList.map (sG base.n)).drop o).take (len * P.cellsOf e)):=by
          simp only[RM.loads,hcells]
          rw[if_pos (by simp; omega)]
         simp only[List.map_cons,List.map_nil,afR]
         refine .slc t e b o len cap _ hu hblt hlc ?_ hload fun i hi=>?_
         ·have:=hw ((elems.length + rest.length) * P.bytesOf e) (by simp[DataW.weights,hu])
          rwa [hel,hr1,show len + (cap - len)=cap by omega] at this
         ·obtain⟨es,y,k1,k2,k3⟩:=every i (by omega)
          have hlen:=(yK k1).1
          have hes:((((c.toList.map (sG base.n)).drop o).take (len * P.cellsOf e)).drop (i * P.cellsOf e)).take (P.cellsOf e)=es.map (sG base.n):=by
           have hii:i * P.cellsOf e + P.cellsOf e≤len * P.cellsOf e:=by rw[← Nat.succ_mul]; exact Nat.mul_le_mul_right _ hi
           apply List.ext_getElem?
           intro j
           by_cases hj:j<P.cellsOf e
           ·have hg:=(yK k1).2 j hj
            rw[List.getElem?_take,if_pos hj,List.getElem?_drop,List.getElem?_take,if_pos (by omega),List.getElem?_drop,List.getElem?_map,List.getElem?_map,← hg]
            rw[eQ,eQ]
            simp only[World.cell?,hh]
            rw[Array.getElem?_toList]
            simp[Nat.add_assoc]
           ·rw[List.getElem?_eq_none (by simp; omega),List.getElem?_eq_none (by simp; omega)]
          rw[hes]
          refine ih e es y k2 fun z hz=>hw z ?_
          simp only[DataW.weights,hu,List.mem_cons,List.mem_append]
          rcases k3 with k3 | k3
          ·exact .inr (.inl (u6 (List.mem_map_of_mem k3) hz))
          ·exact .inr (.inr (u6 (List.mem_map_of_mem k3) hz))
     | struct fs =>
       obtain⟨xs,n,hm,rfl,hl,hxl,hget⟩:=DataW.trod_struct hu h
       cases hm
       refine .struct t fs _ hu (by simpa using hl) fun i f hf=>?_
       have h1:=hget i f hf
       have hi:i<fs.size:=(Array.getElem?_eq_some_iff.1 hf).1
       rw[List.getElem?_eq_getElem (by omega)] at h1
       rw[← List.map_drop,← List.map_take]
       refine ih _ _ _ h1 fun z hz=>hw z ?_
       simp only[DataW.weights,hu]
       refine A9 _ _ i f.type _ (by simp[hf]) (by rw[List.getElem?_map,List.getElem?_eq_getElem (by omega)]; rfl) hz
     | array n e =>
       obtain⟨xs,m',hm,rfl,hl,hxl,hget⟩:=DataW.trod_array hu h
       cases hm
       refine .array t e n _ hu (by simpa using hl) fun i hi=>?_
       have h1:=hget i hi
       rw[List.getElem?_eq_getElem (by omega)] at h1
       rw[← List.map_drop,← List.map_take]
       refine ih _ _ _ h1 fun z hz=>hw z ?_
       simp only[DataW.weights,hu]
       exact u6 (List.mem_map_of_mem (List.getElem_mem _)) hz
     | _=>exact .other _ _ (by rw[hu]; rfl)
end
section
variable {P:Program} {M:RM} {t:TypeId} {cs:List AV}
theorem Fits.Hf (h:Fits P M t cs) {k:IntKind} (hu:P.underlying t=some (.int k)) : ∃ n:Int,cs=[N k n]∧k.min≤n∧n≤k.max:=by
 cases h with
 | int _ k' n h1 h2 h3=>rw[hu] at h1; cases h1; exact⟨n,rfl,h2,h3⟩
 | _=>simp_all [Gw]
theorem Fits.zK (h:Fits P M t cs) (hu:P.underlying t=some .string) : ∃ s,cs=[St s]∧s.length≤reachBytes:=by
 cases h with
 | str _ s h1 h2=>exact⟨s,rfl,h2⟩
 | _=>simp_all [Gw]
theorem Fits.Kk (h:Fits P M t cs) {fs:Array Field} (hu:P.underlying t=some (.struct fs)) : cs.length=P.cellsOf t∧∀ (i:Nat) (f:Field),fs[i]?=some f→Fits P M f.type ((cs.drop f.offset).take (P.cellsOf f.type)):=by
 cases h with
 | struct _ fs' _ h1 h2 h3=>rw[hu] at h1; cases h1; exact⟨h2,h3⟩
 | _=>simp_all [Gw]
theorem Fits.O8 (h:Fits P M t cs) {e:TypeId} (hu:P.underlying t=some (.slice e)) (hz:0<P.cellsOf e) :
  ∃ v n ds,cs=[v]∧aR M (P.cellsOf e) v ds n∧n * P.bytesOf e≤reachBytes∧∀ i,i<n→Fits P M e ((ds.drop (i * P.cellsOf e)).take (P.cellsOf e)):=by
 cases h with
 | adX _ e' h1=>exact⟨_,0,[],rfl,.nil,by simp,fun i hi=>absurd hi (by omega)⟩
 | emp _ e' b h1=>exact⟨_,0,[],rfl,.emp b,by simp,fun i hi=>absurd hi (by omega)⟩
 | slc _ e' b o n c ds h1 h2 h3 h4 h5 h6 =>
   rw[hu] at h1; cases h1
   exact⟨_,n,ds,rfl,.slc b o n _ ds h2 h5,Nat.le_trans (Nat.mul_le_mul_right _ h3) h4,h6⟩
 | zero _ e' _ h1 h2=>rw[hu] at h1; cases h1; omega
 | _=>simp_all [Gw]
theorem Pz {α:Type} {size:Nat} (enc:α→List AV) (p:α→Prop) (hs:∀ a,(enc a).length=size) : ∀ (n:Nat) (ds:List AV),ds.length=n * size→(∀ i,i<n→∃ a,p a∧(ds.drop (i * size)).take size=enc a) →
  ∃ xs:List α,xs.length=n∧ds=xs.flatMap enc∧∀ x∈xs,p x
 | 0,ds,hl,_=>⟨[],rfl,by simpa using hl,by simp⟩
 | n + 1,ds,hl,h=>by
   obtain⟨a,pa,ha⟩:=h 0 (by omega)
   simp only[Nat.zero_mul,List.drop_zero] at ha
   have hl' : (ds.drop size).length=n * size:=by rw[List.length_drop,hl,Nat.succ_mul]; omega
   obtain⟨xs,h1,h2,h3⟩:=Pz enc p hs n (ds.drop size) hl' fun i hi=>by
    obtain⟨b,pb,hb⟩:=h (i + 1) (by omega)
    refine⟨b,pb, ?_⟩
    rw[List.drop_drop,← hb,Nat.succ_mul,Nat.add_comm]
   refine⟨a :: xs,by simp[h1], ?_,fun x hx=>?_⟩
   ·rw[List.flatMap_cons,← h2,← ha,List.take_append_drop]
   ·rcases List.mem_cons.1 hx with rfl | hx
    ·exact pa
    ·exact h3 x hx
end
def Nz (P:Program) (t:TypeId) : Bool :=
 match P.underlying t with
 | some (.struct _) | some (.array _ _)=>true
 | _=>false
def pE (P:Program) (M:RM) (t:TypeId) (v:AV) : Prop :=
 match Nz P t with
 | true=>∃ cs,v=.agg cs∧Fits P M t cs
 | false=>Fits P M t [v]
theorem pE.agg {P:Program} {M:RM} {t:TypeId} {v:AV} (h:pE P M t v) (ha:Nz P t=true) : ∃ cs,v=.agg cs∧Fits P M t cs:=by
 unfold pE at h; rw[ha] at h; exact h
theorem pE.one {P:Program} {M:RM} {t:TypeId} {v:AV} (h:pE P M t v) (ha:Nz P t=false) : Fits P M t [v]:=by
 unfold pE at h; rw[ha] at h; exact h
section
variable {H:Type} {enc:TypeId × Value→H} {P:Program} {base:Base} {w:World}
theorem Ti {r:Reach} {b:Nat} {t:TypeId} {cs:Array Value} (h:Cell.okWide P w r b t (.agg cs)) : False:=by
 unfold Cell.okWide at h
 split at h <;> first | (rename_i e _; cases e; done) | skip
 all_goals first | (rename_i e; cases e; done) | skip
 unfold Cell.ok at h
 split at h <;> first | exact h | simp_all
theorem abf (hn:base.n=w.heap.size) {r:Reach} {b:Nat} {held:Bool} {t:TypeId} {v:Value} {d:DataW H} {ps:List MemPlace} (hv:Value.okWide P w r b t v) (h:DataW.Trod enc P w 0 (fun _=>true) held t v d ps)
  (hw:∀ y∈d.weights P t,y≤reachBytes) : pE P (RM.old base w) t (qb base.n v):=by
 obtain⟨fuel,hf⟩:=h
 have hfit:=RJ hn fuel t _ _ hf hw
 unfold pE
 cases ha:Nz P t with
 | true =>
   have:∃ cs,v=.agg cs:=by
    unfold Value.okWide at hv
    unfold Nz at ha
    split at hv
    ·obtain⟨cs,h,_⟩:=hv; exact⟨cs,h⟩
    ·obtain⟨cs,h,_⟩:=hv; exact⟨cs,h⟩
    ·split at ha <;> simp_all
   obtain⟨cs,rfl⟩:=this
   exact⟨_,rfl,hfit⟩
 | false =>
   have hc:Cell.okWide P w r b t v:=by
    unfold Value.okWide at hv
    unfold Nz at ha
    split at hv
    ·simp_all
    ·simp_all
    ·exact hv
   have:v.cells.toList=[v]∧qb base.n v=sG base.n v:=by
    cases v with
    | agg cs=>exact(Ti hc).elim
    | _=>exact⟨rfl,rfl⟩
   rw[this.1] at hfit
   rw[this.2]
   exact hfit
theorem Tm (hn:base.n=w.heap.size) {r:Reach} {b:Nat} {held:Bool} : ∀ {ts:List TypeId} {vs:List Value} {ds:List (DataW H)} {ps:List MemPlace},DataW.TrodAll enc P w 0 (fun _=>true) held ts vs ds ps →
  (∀ (j:Nat) t v,ts[j]?=some t→vs[j]?=some v→Value.okWide P w r b t v)→(∀ y∈DataW.weightsEach P ts ds,y≤reachBytes) →
  ∀ (j:Nat) t v,ts[j]?=some t→vs[j]?=some v→pE P (RM.old base w) t (qb base.n v)
 | [],_,_,_,_,_,_,j,t,v,h,_=>by simp at h
 | t0 :: ts,vs,ds,ps,h,hv,hw,j,t,v,hj,hvj=>by
   cases vs with
   | nil=>simp at hvj
   | cons v0 vs =>
   cases ds with
   | nil=>exact h.elim
   | cons d ds =>
   obtain⟨p,q,h1,h2,_⟩:=h
   cases j with
   | zero =>
     simp at hj hvj; subst hj hvj
     exact abf hn (hv 0 _ _ rfl rfl) h1 fun y hy=>hw y (by simp[DataW.weightsEach,hy])
   | succ j =>
     exact Tm hn h2 (fun j t v a b=>hv (j + 1) t v (by simpa using a) (by simpa using b)) (fun y hy=>hw y (by simp[DataW.weightsEach,hy])) j t v (by simpa using hj) (by simpa using hvj)
theorem EQ (hl:laidOutB P=true) {W W' : World} {sp:Nat→Bool} (hb:Below W.heap.size W W') : ∀ {ts:List TypeId} {vs:List Value} {ds:List (DataW H)} {ps:List MemPlace},
  (∀ t∈ts,P.readableRec t=true∧t<P.types.size)→DataW.TrodAll enc P W 0 (fun _=>true) true ts vs ds ps→(∀ p∈ps,p.block<W.heap.size)→(∀ p∈ps,sp p.block=true)→DataW.TrodAll enc P W' 0 sp true ts vs ds ps
 | [],vs,ds,ps,_,h,_,_=>by
   cases vs <;> cases ds <;> first | exact h | exact h.elim
 | t :: ts,vs,ds,ps,hr,h,hlt,hsp=>by
   cases vs with
   | nil=>cases ds <;> exact h.elim
   | cons v vs =>
   cases ds with
   | nil=>exact h.elim
   | cons d ds =>
   obtain⟨p,q,h1,h2,rfl⟩:=h
   have hrt:=hr t (List.mem_cons_self ..)
   exact⟨p,q,WideElems.Trod_stays hl hrt.1 hrt.2 h1 (fun x hx=>hb.same (hlt x (List.mem_append_left _ hx))) (fun x hx=>hsp x (List.mem_append_left _ hx)),
    EQ hl hb (fun t ht=>hr t (List.mem_cons_of_mem _ ht)) h2 (fun x hx=>hlt x (List.mem_append_right _ hx)) (fun x hx=>hsp x (List.mem_append_right _ hx)),rfl⟩
end
def RB.cells (lo:Nat) : RB→Option (List AV)
 | .row l _ _ _=>some l
 | .ro c=>some (c.toList.map (sG lo))
 | _=>none
@[go_sem] theorem RB.AX (lo:Nat) (l:List AV) (p:Bool) (e f:Nat) : RB.cells lo (.row l p e f)=some l:=rfl
theorem RM.Jj (M:RM) (b:Nat) : M.cells b=(M.heap b).bind (RB.cells M.lo):=by
 unfold RM.cells RB.cells
 cases M.heap b with
 | none=>rfl
 | some x=>cases x <;> rfl
def wX (l:Option (List AV)) (o k:Nat) : Option (List AV) :=
 match l with
 | some l=>if o + k≤l.length then some ((l.drop o).take k) else none
 | none=>none
@[go_sem] theorem aet (l:List AV) (o k:Nat) : wX (some l) o k=if o + k≤l.length then some ((l.drop o).take k) else none:=rfl
theorem RM.JP (M:RM) (b o k:Nat) : M.loads b o k=wX (M.cells b) o k:=rfl
section
variable {M M' : RM}
@[go_sem] theorem RM.Ye (x:RB) (c:Nat) : (M.push x).heap c=if c=M.next then some x else M.heap c:=rfl
@[go_sem] theorem RM.heap_put (b:Nat) (x:RB) (c:Nat) : (M.put b x).heap c=if c=b then some x else M.heap c:=rfl
@[go_sem] theorem RM.agr (b:Nat) (c:Nat) : (M.del b).heap c=if c=b then none else M.heap c:=rfl
@[go_sem] theorem RM.aff (x:RB) : (M.push x).base=M.base:=rfl
@[go_sem] theorem RM.agf (b:Nat) (x:RB) : (M.put b x).base=M.base:=rfl
@[go_sem] theorem RM.agk (b:Nat) : (M.del b).base=M.base:=rfl
theorem RM.Lc (x:RB) (c:Nat) : (M.push x).cells c=if c=M.next then x.cells M.lo else M.cells c:=by
 simp only[RM.Jj,RM.Ye]
 split <;> rfl
theorem RM.OY (b:Nat) (x:RB) (c:Nat) : (M.put b x).cells c=if c=b then x.cells M.lo else M.cells c:=by
 simp only[RM.Jj,RM.heap_put]
 split <;> rfl
@[go_sem] theorem RM.afb (x:RB) (c o:Nat) : (M.push x).cell c o=if c=M.next then(x.cells M.lo).bind (·[o]?) else M.cell c o:=by
 simp only[RM.cell,RM.Lc]
 split <;> rfl
@[go_sem] theorem RM.agL (b:Nat) (x:RB) (c o:Nat) : (M.put b x).cell c o=if c=b then(x.cells M.lo).bind (·[o]?) else M.cell c o:=by
 simp only[RM.cell,RM.OY]
 split <;> rfl
@[go_sem] theorem RM.aeW (x:RB) (c o k:Nat) : (M.push x).loads c o k=if c=M.next then wX (x.cells M.lo) o k else M.loads c o k:=by
 simp only[RM.JP,RM.Lc]
 split <;> rfl
@[go_sem] theorem RM.afj (b:Nat) (x:RB) (c o k:Nat) : (M.put b x).loads c o k=if c=b then wX (x.cells M.lo) o k else M.loads c o k:=by
 simp only[RM.JP,RM.OY]
 split <;> rfl
def qN (l:List AV) (fz o:Nat) (vs:List AV) : Option (List AV) :=
 if o + vs.length≤l.length∧fz≤o∧vs.all oneCell=true then some (l.take o++vs++l.drop (o + vs.length)) else none
theorem qm {l vs:List AV} {fz o:Nat} (h1:o + vs.length≤l.length) (h2:fz≤o) (h3:vs.all oneCell=true) : qN l fz o vs=some (l.take o++vs++l.drop (o + vs.length)):=if_pos ⟨h1,h2,h3⟩
@[go_sem] theorem PG {l vs:List AV} (h:vs.length=l.length) (h3:vs.all oneCell=true) : qN l 0 0 vs=some vs:=by
 rw[qm (by omega) (Nat.le_refl _) h3]
 simp[h]
theorem RM.AP {b o:Nat} {vs l:List AV} {p:Bool} {e f:Nat} (h:M.heap b=some (.row l p e f)) : M.stores b o vs=(qN l f o vs).map fun l'=>M.put b (.row l' p e f):=by
 simp only[RM.stores,h,qN]
 split <;> rfl
theorem RM.aae {x y:RB} : (M.push x).put M.next y=M.push y:=by
 simp only[RM.put,RM.push]
 congr 1
 funext c
 split <;> rfl
theorem RM.Ql {x y:RB} {b:Nat} (hb:b≠M.next) : (M.push x).put b y=(M.put b y).push x:=by
 simp only[RM.put,RM.push]
 congr 1
 funext c
 by_cases h1:c=b
 ·subst h1; simp[hb]
 ·simp[h1]
theorem RM.Kl {l vs:List AV} {p:Bool} {e f o:Nat} : (M.push (.row l p e f)).stores M.next o vs=(qN l f o vs).map fun l'=>M.push (.row l' p e f):=by
 rw[RM.AP (RM.aQ _)]
 congr 1
 funext l'
 exact RM.aae
theorem RM.K7 {M:RM} {b o:Nat} {vs:List AV} : M.stores b o vs=match M.heap b with
  | some (.row l p e f)=>(qN l f o vs).map fun l'=>M.put b (.row l' p e f)
  | _=>none:=by
 cases h:M.heap b with
 | none=>simp[RM.stores,h]
 | some x =>
   cases x with
   | row l p e f=>rw[RM.AP h]
   | _=>simp[RM.stores,h]
@[go_sem] theorem RM.Lj {x:RB} {vs:List AV} {c o:Nat} (hc:c≠M.next) : (M.push x).stores c o vs=(M.stores c o vs).map (·.push x):=by
 rw[RM.K7,RM.K7,RM.ZQ hc]
 split
 ·simp only[Option.map_map]
  congr 1
  funext l'
  exact RM.Ql hc
 ·rfl
@[go_sem] theorem RM.aep {l vs:List AV} {p:Bool} {e f c o:Nat} : (M.push (.row l p e f)).stores c o vs =
  if c=M.next then(qN l f o vs).map fun l'=>M.push (.row l' p e f) else(M.stores c o vs).map (·.push (.row l p e f)):=by
 split
 ·rename_i h; subst h; exact RM.Kl
 ·rename_i h; exact RM.Lj h
@[go_sem] theorem RM.abR {b o:Nat} {l vs:List AV} {p:Bool} {e f:Nat} : (M.put b (.row l p e f)).stores b o vs=(qN l f o vs).map fun l'=>M.put b (.row l' p e f):=by
 rw[RM.AP (RM.vO _ _)]
 congr 1
 funext l'
 simp only[RM.put]
 congr 1
 funext c
 split <;> rfl
@[go_sem] theorem ahf {α:Type} (a:α) (K:α→Prop) : (∃ x,some a=some x∧K x)=K a:=by simp
@[go_sem] theorem aer {α β:Type} (f:α→β) (x:α) : (some x).map f=some (f x):=rfl
attribute [go_sem] Int.natCast_nonneg Int.toNat_natCast Nat.mul_one true_implies false_implies Bool.false_eq_true Bool.true_eq_false Bool.not_true Bool.not_false Bool.and_self Bool.and_true Bool.true_and Nat.le_refl List.append_nil List.nil_append if_true if_false Nat.lt_irrefl Nat.add_one_ne_zero true_and and_true Nat.zero_add Nat.add_zero List.drop_zero List.getElem?_cons_zero List.getElem?_cons_succ Option.bind_some List.take_succ_cons List.take_zero List.drop_succ_cons List.drop_nil List.take_nil
attribute [go_sem] gz List.all_cons List.all_nil List.length_cons List.length_nil
@[go_sem] theorem afc (cs:List AV) : (AV.agg cs).cells=cs:=rfl
@[go_sem] theorem agM (v:Value) : (AV.sc v).cells=[.sc v]:=rfl
@[go_sem] theorem afi (b o:Nat) : (AV.ptr b o).cells=[.ptr b o]:=rfl
@[go_sem] theorem afe (b o n:Nat) (c:Cap) : (AV.slc b o n c).cells=[.slc b o n c]:=rfl
@[go_sem] theorem afg (b:Nat) : (AV.emp b).cells=[.emp b]:=rfl
@[go_sem] theorem afr (b:Nat) : (AV.map b).cells=[.map b]:=rfl
@[go_sem] theorem agH (f:Fn) (xs ys:List AV) : (AV.fn f xs ys).cells=[.fn f xs ys]:=rfl
@[go_sem] theorem Re (v:Value) : oneCell (.sc v)=true:=rfl
@[go_sem] theorem aha (b o:Nat) : oneCell (.ptr b o)=true:=rfl
@[go_sem] theorem ahd (b o n:Nat) (c:Cap) : oneCell (.slc b o n c)=true:=rfl
@[go_sem] theorem ahc (b:Nat) : oneCell (.emp b)=true:=rfl
@[go_sem] theorem ahe (b:Nat) : oneCell (.map b)=true:=rfl
@[go_sem] theorem ahm (f:Fn) (xs ys:List AV) : oneCell (.fn f xs ys)=true:=rfl
end
theorem RM.RZ {M:RM} {b:Nat} {l:List AV} {p:Bool} {e f:Nat} (h:M.heap b=some (.row l p e f)) (o k:Nat) : M.loads b o k=wX (some l) o k:=by rw[RM.JP,RM.AX h]
theorem RM.cell_of {M:RM} {b:Nat} {l:List AV} {p:Bool} {e f:Nat} (h:M.heap b=some (.row l p e f)) (o:Nat) : M.cell b o=l[o]?:=RM.aaa h
theorem RM.wO {M:RM} {b:Nat} {l:List AV} {p:Bool} {e f:Nat} (h:M.heap b=some (.row l p e f)) (o:Nat) (vs:List AV) : M.stores b o vs=(qN l f o vs).map fun l'=>M.put b (.row l' p e f):=RM.AP h
theorem ag.aK {bs:List Nat} {M M' : RM} (h:ag bs M M') {b:Nat} {x:RB} (hh:M.heap b=some x) (hlt:b<M.next) (hb:b ∉ bs) : M'.heap b=some x:=by rw[h.heap b hlt hb,hh]
def XX (tab run:fT) : fT:=fun f args A=>match tab f args A with
 | some r=>some r
 | none=>run f args A
def G6 (P:Program) (X:Ext) (tab:fT) (L:Nat) : Nat→fT
 | 0,_,_,_=>none
 | n + 1,f,args,A=>match has X.split f with
   | true=>Q8 (Qa P X L (XX tab (G6 P X tab L n))) f args A
   | false=>Qa P X L (XX tab (G6 P X tab L n)) f args A
inductive Ans where
 | val (v:AV)
 | rows (n:Nat) (v:AV) (bs:List (Nat × dL)) (n' : Nat)
structure aH where
 args:List AV
 fp:List (Nat × dL):=[]
 dead:List Nat:=[]
 nx:Nat:=0
 ans:Ans
def xG:Tree dL→List (Nat × dL)→Tree dL
 | t,[]=>t
 | t,(b,x) :: r=>xG (t.set b x) r
def FO:Tree dL→List Nat→Tree dL
 | t,[]=>t
 | t,b :: r=>FO (t.del b) r
def CK (A:AW) : List (Nat × dL)→Bool
 | []=>true
 | (b,x) :: r=>match A.heap.get b with
   | some y=>DW x y && CK A r
   | none=>false
def Vz (A:AW) (e:aH) : Option (AV × AW) :=
 match CK A e.fp with
 | false=>none
 | true=>match e.ans with
   | .val v=>some (v,A)
   | .rows n v bs n'=>match Nat.beq n A.next with
     | true=>some (v,{ next:=n',heap:=xG (FO A.heap e.dead) bs })
     | false=>none
def H7:List aH→List AV→AW→Option (AV × AW)
 | [],_,_=>none
 | e :: es,args,A=>match rY e.args args with
   | true=>match Vz A e with
     | some r=>some r
     | none=>H7 es args A
   | false=>H7 es args A
abbrev Table:=List (Nat × List aH)
def Ed:Table→fT
 | [],_,_,_=>none
 | (g,es) :: T,f,args,A=>match Nat.beq g f with
   | true=>match H7 es args A with
     | some r=>some r
     | none=>Ed T f args A
   | false=>Ed T f args A
def KH:List Nat→Nat→Bool
 | [],_=>false
 | k :: ks,b=>match Nat.beq k b with
   | true=>true
   | false=>KH ks b
mutual
def within (ks:List Nat) : AV→Bool
 | .sc _ | .top | .atl _=>true
 | .ptr b _ | .slc b _ _ _ | .emp b | .map b=>KH ks b
 | .fn _ xs ys=>oQ ks xs && oQ ks ys
 | .ifc _ x=>within ks x
 | .agg xs | .tup xs=>oQ ks xs
def oQ (ks:List Nat) : List AV→Bool
 | []=>true
 | x :: xs=>within ks x && oQ ks xs
end
theorem qK {b:Nat} : ∀ {ks:List Nat},KH ks b=true↔b∈ks
 | []=>by simp[KH]
 | k :: ks=>by
   simp only[KH]
   split
   ·rename_i h
    simp[bM h]
   ·rename_i h
    rw[qK,List.mem_cons]
    constructor
    ·exact .inr
    ·rintro(e | e)
     ·exact absurd e.symm (Bd h)
     ·exact e
mutual
theorem qM {ρ ρ' : Ren} {ks:List Nat} (hk:∀ b∈ks,∀ i,ρ b=some i→ρ' b=some i) : ∀ (x:AV) {v:Value},within ks x=true→aB ρ x v→aB ρ' x v
 | .top,v,_,_=>.top v
 | .atl k,v,_,hr=>by cases hr; exact .atl _ _ (by assumption)
 | .sc u,v,_,hr=>by cases hr; exact .sc _ (by assumption)
 | .ptr b o,v,h,hr=>by
   simp only[within] at h
   cases hr with
   | ptr _ _ i e=>exact .ptr _ _ i (hk b (qK.1 h) i e)
 | .slc b o l c,v,h,hr=>by
   simp only[within] at h
   cases hr with
   | iy _ _ _ c i e=>exact .iy _ _ _ c i (hk b (qK.1 h) i e)
   | kN _ k _ i e q=>exact .kN _ k _ i (hk b (qK.1 h) i e) q
 | .emp b,v,h,hr=>by
   simp only[within] at h
   cases hr with
   | emp _ a c=>exact .emp _ a c
 | .map b,v,h,hr=>by
   simp only[within] at h
   cases hr with
   | map _ i e=>exact .map _ i (hk b (qK.1 h) i e)
 | .fn f xs ys,v,h,hr=>by
   simp only[within,Bool.and_eq_true] at h
   cases hr with
   | fn _ _ _ us vs p a b=>exact .fn f xs ys us vs p (oP hk xs h.1 a) (oP hk ys h.2 b)
 | .ifc t x,v,h,hr=>by
   simp only[within] at h
   cases hr with
   | ifc _ _ v a=>exact .ifc t x v (qM hk x h a)
 | .agg xs,v,h,hr=>by
   simp only[within] at h
   cases hr with
   | agg _ vs a=>exact .agg xs vs (oP hk xs h a)
 | .tup xs,v,h,hr=>by
   simp only[within] at h
   cases hr with
   | tup _ vs a=>exact .tup xs vs (oP hk xs h a)
theorem oP {ρ ρ' : Ren} {ks:List Nat} (hk:∀ b∈ks,∀ i,ρ b=some i→ρ' b=some i) : ∀ (xs:List AV) {vs:List Value},oQ ks xs=true→bC ρ xs vs→bC ρ' xs vs
 | [],vs,_,hr=>by cases hr; exact .nil
 | x :: xs,vs,h,hr=>by
   simp only[oQ,Bool.and_eq_true] at h
   cases hr with
   | cons _ v _ vs a b=>exact .cons x v xs vs (qM hk x h.1 a) (oP hk xs h.2 b)
end
def Da (p:AV→Bool) : Tree AV→Bool
 | .leaf=>true
 | .node l v r=>(match v with
   | some x=>p x
   | none=>true) && Da p l && Da p r
theorem Cn {p:AV→Bool} : ∀ {t:Tree AV} {k:Nat} {x:AV},Da p t=true→t.get k=some x→p x=true
 | .leaf,k,x,_,h=>by simp[Tree.get] at h
 | .node l v r,k,x,ha,h=>by
   simp only[Da,Bool.and_eq_true] at ha
   simp only[Tree.get] at h
   split at h
   ·rw[h] at ha; exact ha.1.1
   ·split at h
    ·exact Cn ha.1.2 h
    ·exact Cn ha.2 h
def K5 (ks:List Nat) : List (AV × AV × Nat)→Bool
 | []=>true
 | (k,v,_) :: es=>within ks k && within ks v && K5 ks es
def PX (ks:List Nat) : dL→Bool
 | .row _ t zs _ _ _=>Da (within ks) t && oQ ks zs
 | .map es _=>K5 ks es
 | .iter m _ _ _=>match m with
   | some b=>KH ks b
   | none=>true
 | .lS _ _=>true
theorem IP {ks:List Nat} : ∀ {xs:List AV},oQ ks xs=true→∀ x∈xs,within ks x=true
 | [],_,x,h=>by cases h
 | y :: ys,h,x,hx=>by
   simp only[oQ,Bool.and_eq_true] at h
   rcases List.mem_cons.1 hx with e | hx
   ·rw[e]; exact h.1
   ·exact IP h.2 x hx
theorem Vt {β:Type} : ∀ {l:List β} {n:Nat} {x:β},nth l n=some x→x∈l
 | [],_,_,h=>by simp[nth] at h
 | y :: ys,0,x,h=>by simp[nth] at h; simp[h]
 | y :: ys,n + 1,x,h=>by
   simp only[nth] at h
   exact List.mem_cons_of_mem _ (Vt h)
theorem Zh {tree:Tree AV} {zs:List AV} {n k:Nat} {x:AV} (h:cellAt tree zs n k=some x) : tree.get k=some x∨x∈zs:=by
 unfold cellAt at h
 split at h
 ·cases h
 ·split at h
  ·rename_i v hv
   cases h
   exact .inl hv
  ·split at h
   ·cases h
   ·cases h
    exact .inr (List.mem_cons_self ..)
   ·exact .inr (Vt h)
theorem dH.restrict {ρ ρ' : Ren} {ks:List Nat} (hk:∀ b∈ks,∀ i,ρ b=some i→ρ' b=some i) : ∀ {es:List (AV × AV × Nat)} {fs:List MapEntry},K5 ks es=true→dH ρ es fs→dH ρ' es fs
 | [],[],_,_=>trivial
 | [],_ :: _,_,h=>h.elim
 | _ :: _,[],_,h=>h.elim
 | (a,b,n) :: es,f :: fs,h,⟨h1,h2,h3,h4⟩=>by
   simp only[K5,Bool.and_eq_true] at h
   exact⟨qM hk a h.1.1 h1,qM hk b h.1.2 h2,h3,dH.restrict hk h.2 h4⟩
theorem jr.restrict {P:Program} {ρ ρ' : Ren} {ks:List Nat} (hk:∀ b∈ks,∀ i,ρ b=some i→ρ' b=some i) {i:gI} : ∀ {x:dL} {o:Obj},PX ks x=true→jr P ρ i x o→jr P ρ' i x o
 | .row n t zs opn el fz,o,h,⟨c,fr,e,k⟩=>by
   simp only[PX,Bool.and_eq_true] at h
   refine⟨c,fr,e,k.size,fun j x hx=>?_,k.free,k.mark,k.opn,k.sh0⟩
   obtain⟨v,h1,h2⟩:=k.val j x hx
   refine⟨v,h1,qM hk x ?_ h2⟩
   rcases Zh hx with hx | hx
   ·exact Cn h.1 hx
   ·exact IP h.2 x hx
 | .map es clock,o,h,⟨fs,e,k⟩=>⟨fs,e,dH.restrict hk h k⟩
 | .iter m since seen st,o,h,⟨m',e,k⟩=>by
   refine⟨m',e, ?_⟩
   cases m with
   | none=>exact k
   | some b =>
     obtain⟨j,h1,h2⟩:=k
     exact⟨j,hk b (qK.1 h) j h1,h2⟩
 | .lS s pos,o,h,k=>k
section
variable {P:Program} {X:Ext}
theorem KP {base:Base} {tab run:fT} (ht:kL P base tab) (hr:kL P base run) : kL P base (XX tab run):=by
 intro f args A v A' h
 unfold XX at h
 split at h
 ·rename_i r hr'
  cases h
  exact ht f args A v A' hr'
 ·exact hr f args A v A' h
theorem BG {base:Base} (hng:EW P X) (hm:P.follows .mixedOrders=true) {tab:fT} (ht:kL P base tab) (L:Nat) : ∀ n,kL P base (G6 P X tab L n)
 | 0=>by intro f args A v A' h; simp[G6] at h
 | n + 1=>by
   intro f args A v A' h
   simp only[G6] at h
   split at h
   ·exact Ro (IC hng hm L (KP ht (BG hng hm ht L n))) f args A v A' h
   ·exact IC hng hm L (KP ht (BG hng hm ht L n)) f args A v A' h
def wJ (P:Program) (I:World→Prop) (f:Nat) (e:aH) : Prop :=
 ∀ (base:Base),(∀ w,base.inv w→I w)→∀ A v A',Vz A e=some (v,A')→∀ (ρ:Ren) (w:World) (us:List Value),bC ρ e.args us→bO P base ρ A w→base≤w.heap.size →
   Calls P f ⟨us⟩ w fun r w'=>∃ ρ' v',r=.returned v'∧Step base A.next ρ w ρ' w'∧bO P base ρ' A' w'∧A.next≤A'.next∧aB ρ' v v'
def jX (P:Program) (I:World→Prop) (T:Table) : Prop:=∀ g∈T,∀ e∈g.2,wJ P I g.1 e
theorem BA {base:Base} {I:World→Prop} (hI:∀ w,base.inv w→I w) {f:Nat} : ∀ (es:List aH),(∀ e∈es,wJ P I f e)→∀ {args A v A'},H7 es args A=some (v,A')→∀ (ρ:Ren) (w:World) (us:List Value),bC ρ args us→bO P base ρ A w→base≤w.heap.size →
  Calls P f ⟨us⟩ w fun r w'=>∃ ρ' v',r=.returned v'∧Step base A.next ρ w ρ' w'∧bO P base ρ' A' w'∧A.next≤A'.next∧aB ρ' v v'
 | [],_,args,A,v,A',h=>by simp[H7] at h
 | e :: es,hes,args,A,v,A',h=>by
   simp only[H7] at h
   split at h
   ·rename_i hq
    have hq:=qi _ _ hq
    subst hq
    split at h
    ·rename_i r hr
     cases h
     exact hes e (List.mem_cons_self ..) base hI A v A' hr
    ·exact BA hI es (fun e he=>hes e (List.mem_cons_of_mem _ he)) h
   ·exact BA hI es (fun e he=>hes e (List.mem_cons_of_mem _ he)) h
theorem Cf {base:Base} {I:World→Prop} (hI:∀ w,base.inv w→I w) : ∀ (T:Table),jX P I T→kL P base (Ed T)
 | [],_=>by intro f args A v A' h; simp[Ed] at h
 | (g,es) :: T,hT=>by
   intro f args A v A' h
   have hrest:=Cf hI T (fun g hg=>hT g (List.mem_cons_of_mem _ hg))
   simp only[Ed] at h
   split at h
   ·rename_i hq
    have hq:=bM hq
    subst hq
    split at h
    ·rename_i r hr
     cases h
     exact BA hI es (hT (g,es) (List.mem_cons_self ..)) hr
    ·exact hrest g args A v A' h
   ·exact hrest f args A v A' h
theorem yV:∀ (bs:List (Nat × dL)) (t:Tree dL) {k:Nat} {x:dL},(xG t bs).get k=some x→(k,x)∈bs∨(t.get k=some x∧∀ y,(k,y) ∉ bs)
 | [],t,k,x,h=>.inr ⟨h,fun y hy=>by cases hy⟩
 | (b,y) :: r,t,k,x,h=>by
   simp only[xG] at h
   rcases yV r _ h with h | ⟨h,hn⟩
   ·exact .inl (List.mem_cons_of_mem _ h)
   ·rw[Tree.bL] at h
    split at h
    ·rename_i e
     cases h
     subst e
     exact .inl (List.mem_cons_self ..)
    ·rename_i hne
     refine .inr ⟨h,fun z hz=>?_⟩
     rcases List.mem_cons.1 hz with e | hz
     ·cases e; exact hne rfl
     ·exact hn z hz
theorem Er:∀ (ds:List Nat) (t:Tree dL) {k:Nat} {x:dL},(FO t ds).get k=some x→t.get k=some x∧k ∉ ds
 | [],t,k,x,h=>⟨h,by simp⟩
 | d :: r,t,k,x,h=>by
   simp only[FO] at h
   obtain⟨h1,h2⟩:=Er r _ h
   rw[Tree.vS] at h1
   split at h1
   ·cases h1
   ·rename_i hne
    exact⟨h1,by simp only[List.mem_cons,not_or]; exact⟨hne,h2⟩⟩
theorem F6 {A:AW} : ∀ (l:List (Nat × dL)),CK A l=true→∀ b x,(b,x)∈l→A.heap.get b=some x
 | [],_,b,x,hm=>by cases hm
 | (c,y) :: r,h,b,x,hm=>by
   simp only[CK] at h
   split at h <;> first | (cases h; done) | skip
   rename_i z hz
   rw[Bool.and_eq_true] at h
   rcases List.mem_cons.1 hm with e | hm
   ·cases e
    rw[hz,zP h.1]
   ·exact F6 r h.2 b x hm
def keysOf:List (Nat × dL)→List Nat
 | []=>[]
 | (b,_) :: r=>b :: keysOf r
theorem Dy {b:Nat} : ∀ {l:List (Nat × dL)},b∈keysOf l↔∃ x,(b,x)∈l
 | []=>by simp[keysOf]
 | (c,y) :: r=>by
   simp only[keysOf,List.mem_cons,Dy (l:=r)]
   constructor
   ·rintro(e | ⟨x,h⟩)
    ·subst e; exact⟨y,.inl rfl⟩
    ·exact⟨x,.inr h⟩
   ·rintro⟨x,h | h⟩
    ·cases h; exact .inl rfl
    ·exact .inr ⟨x,h⟩
def XF (ks:List Nat) (n:Nat) : List (Nat × dL)→List Nat→Bool
 | [],_=>true
 | (b,x) :: r,seen=>PX ks x && Nat.ble (b + 1) n && !KH seen b && XF ks n r (b :: seen)
theorem O5 {ks:List Nat} {n:Nat} : ∀ (l:List (Nat × dL)) (seen:List Nat),XF ks n l seen=true→(∀ b x,(b,x)∈l→PX ks x=true∧b<n∧b ∉ seen)∧∀ b x y,(b,x)∈l→(b,y)∈l→x=y
 | [],_,_=>⟨fun b x h=>(by cases h),fun b x y h=>(by cases h)⟩
 | (c,z) :: r,seen,h=>by
   simp only[XF,Bool.and_eq_true,Bool.not_eq_true'] at h
   obtain⟨⟨⟨h1,h2⟩,h3⟩,h4⟩:=h
   obtain⟨i1,i2⟩:=O5 r (c :: seen) h4
   have hc:c ∉ seen:=fun hm=>by rw[qK.2 hm] at h3; cases h3
   refine⟨fun b x hm=>?_,fun b x y hx hy=>?_⟩
   ·rcases List.mem_cons.1 hm with e | hm
    ·cases e; exact⟨h1,bG h2,hc⟩
    ·obtain⟨a1,a2,a3⟩:=i1 b x hm
     exact⟨a1,a2,fun h=>a3 (List.mem_cons_of_mem _ h)⟩
   ·rcases List.mem_cons.1 hx with e | hx <;> rcases List.mem_cons.1 hy with f | hy
    ·cases e; cases f; rfl
    ·cases e
     exact absurd (List.mem_cons_self ..) (i1 _ _ hy).2.2
    ·cases f
     exact absurd (List.mem_cons_self ..) (i1 _ _ hx).2.2
    ·exact i2 b x y hx hy
def Ll (ks:List Nat) (n:Nat) (A:AW) : List (Nat × dL)→Bool
 | []=>true
 | (b,x) :: r=>(Nat.ble n b || KH ks b) && (match A.heap.get b with
   | some y=>DW x y
   | none=>false) && Ll ks n A r
def FL (A:AW) (gone:List Nat) : List (Nat × dL)→Bool
 | []=>true
 | (b,x) :: r=>(KH gone b || (match A.heap.get b with
   | some y=>DW x y
   | none=>false)) && FL A gone r
def CG (e:aH) : Nat:=match e.ans with
 | .val _=>e.nx
 | .rows m _ _ _=>m
def JB (P:Program) (X:Ext) (tab:fT) (L n:Nat) (f:Nat) (e:aH) : Bool :=
 match oQ (keysOf e.fp) e.args && XF (keysOf e.fp) (CG e) e.fp [] with
 | false=>false
 | true=>match G6 P X tab L n f e.args { next:=CG e,heap:=xG .leaf e.fp } with
   | none=>false
   | some (v',A')=>match e.ans with
     | .val v=>within [] v && ou v' v && FL A' [] e.fp
     | .rows _ v bs m'=>ou v' v && Nat.beq A'.next m' && Ll (keysOf e.fp) (CG e) A' bs && FL A' (keysOf bs++e.dead) e.fp
theorem IB {ks:List Nat} {n:Nat} {A:AW} : ∀ (bs:List (Nat × dL)),Ll ks n A bs=true→∀ b x,(b,x)∈bs→(n≤b∨b∈ks)∧A.heap.get b=some x
 | [],_,b,x,hm=>by cases hm
 | (c,y) :: r,h,b,x,hm=>by
   simp only[Ll,Bool.and_eq_true] at h
   obtain⟨⟨h1,h2⟩,h3⟩:=h
   rcases List.mem_cons.1 hm with e | hm
   ·cases e
    split at h2
    ·rename_i z hz
     rw[Bool.or_eq_true] at h1
     refine⟨?_, ?_⟩
     ·rcases h1 with h1 | h1
      ·exact .inl (bG h1)
      ·exact .inr (qK.1 h1)
     ·rw[hz,zP h2]
    ·cases h2
   ·exact IB r h3 b x hm
theorem BK {gone:List Nat} {A:AW} : ∀ (l:List (Nat × dL)),FL A gone l=true→∀ b x,(b,x)∈l→b∈gone∨A.heap.get b=some x
 | [],_,b,x,hm=>by cases hm
 | (c,y) :: r,h,b,x,hm=>by
   simp only[FL,Bool.and_eq_true] at h
   obtain⟨h1,h3⟩:=h
   rcases List.mem_cons.1 hm with e | hm
   ·cases e
    rw[Bool.or_eq_true] at h1
    rcases h1 with h1 | h1
    ·exact .inl (qK.1 h1)
    ·split at h1
     ·rename_i z hz
      rw[hz,zP h1]
      exact .inr rfl
     ·cases h1
   ·exact BK r h3 b x hm
theorem bO.none {P:Program} {base:Base} {n:Nat} {w:World} (hi:base.inv w) : bO P base (fun _=>none) { next:=n,heap:=.leaf } w :=
 ⟨fun _ _ h=>(by cases h),fun _ _ _ h=>(by cases h),fun _ _ _ _ _ _ h=>(by cases h),fun _ _ h=>(by simp[Tree.get] at h),fun _ _ _ h=>(by cases h),hi⟩
def only(ρ:Ren) (ks:List Nat) : Ren:=fun b=>if b∈ks then ρ b else none
theorem oN {ρ:Ren} {ks:List Nat} {b:Nat} {i:gI} (h:only ρ ks b=some i) : b∈ks∧ρ b=some i:=by
 unfold only at h
 split at h
 ·exact⟨‹_›,h⟩
 ·cases h
theorem CE {ρ:Ren} {ks:List Nat} {b:Nat} (h:b∈ks) : only ρ ks b=ρ b:=by simp[only,h]
theorem Mo (hng:EW P X) (hm:P.follows .mixedOrders=true) {I:World→Prop} {tab:fT} (ht:∀ base:Base,(∀ w,base.inv w→I w)→kL P base tab) {L n f:Nat} {e:aH} (h:JB P X tab L n f e=true) : wJ P I f e:=by
 unfold JB at h
 split at h <;> first | (cases h; done) | skip
 rename_i hfl
 rw[Bool.and_eq_true] at hfl
 obtain⟨hwi,hfp⟩:=hfl
 obtain⟨hf1,hf2⟩:=O5 _ _ hfp
 split at h <;> first | (cases h; done) | skip
 rename_i v1 A1 hc
 intro base hI A v A' ha ρ w us hargs hw hb
 unfold Vz at ha
 split at ha <;> first | (cases ha; done) | skip
 rename_i hhas
 have hrow:=F6 _ hhas
 -- the blocks alone
 let ks:=keysOf e.fp
 have hks:∀ {b},b∈ks↔∃ x,(b,x)∈e.fp:=Dy
 have hto:∀ b∈ks,∀ i,ρ b=some i→only ρ ks b=some i:=fun b hb i h=>by rw[CE hb]; exact h
 have ad1:bC (only ρ ks) e.args us:=oP hto _ hwi hargs
 have LX:∀ b x,(xG .leaf e.fp).get b=some x→(b,x)∈e.fp:=fun b x h=>by
  rcases yV _ _ h with h | ⟨h,_⟩
  ·exact h
  ·simp[Tree.get] at h
 have hw0:bO P base (only ρ ks) { next:=CG e,heap:=xG .leaf e.fp } w:=by
  refine⟨fun b i h=>?_,fun b i x h hx=>?_,fun b b' i i' x x' h h' hx hx' he=>?_,fun b x hx=>?_,fun b i x h hx=>?_,hw.inv⟩
  ·obtain⟨hbk,hbi⟩:=oN h
   obtain⟨x,hx⟩:=hks.1 hbk
   exact⟨(hf1 b x hx).2.1,(hw.dom b i hbi).2⟩
  ·obtain⟨hbk,hbi⟩:=oN h
   have hm:=LX b x hx
   obtain⟨o,ho,hrel⟩:=hw.blk b i x hbi (hrow b x hm)
   exact⟨o,ho,hrel.restrict hto (hf1 b x hm).1⟩
  ·exact hw.sep _ _ _ _ _ _ (oN h).2 (oN h').2 (hrow _ _ (LX _ _ hx)) (hrow _ _ (LX _ _ hx')) he
  ·exact(hf1 b x (LX b x hx)).2.1
  ·exact hw.lo b i x (oN h).2 (hrow _ _ (LX _ _ hx))
 have Xw:∀ b i,b ∉ ks→ρ b=some i→∀ x,A.heap.get b=some x→∀ b0 i0,only ρ ks b0=some i0→i0.cb≠i.cb:=by
  intro b i hbk hbi x hx b0 i0 h0 he
  obtain⟨h0k,h0i⟩:=oN h0
  obtain⟨x0,hx0⟩:=hks.1 h0k
  exact hbk (hw.sep _ _ _ _ _ _ h0i hbi (hrow _ _ hx0) hx he▸h0k)
 have main:=BG hng hm (ht base hI) L n f _ _ _ _ hc (only ρ ks) w us ad1 hw0 hb
 split at ha
 ·
  rename_i v0 Wn
  cases ha
  rw[Wn] at h
  dsimp only at h
  simp only[Bool.and_eq_true] at h
  obtain⟨⟨h1,h2⟩,h3⟩:=h
  have hv1:=vI _ _ h2
  subst hv1
  have hkept:=BK _ h3
  refine main.mono fun r w' hR=>?_
  obtain⟨ρ',v',rfl,hst,hwr,hnx,hv⟩:=hR
  have hback:∀ b∈ks,∀ i,ρ' b=some i→ρ b=some i:=fun b hbk i h=>by
   obtain⟨x,hx⟩:=hks.1 hbk
   rw[hst.ext b (hf1 b x hx).2.1,CE hbk] at h
   exact h
  refine⟨ρ,v',rfl,⟨hst.os,hst.tape,hst.output,hst.size,fun c hc hun=>hst.frame c hc fun b i hbi=>hun b i (oN hbi).2,fun _ _=>rfl,fun b i h=>.inl ⟨b,i,h,rfl⟩,hst.low⟩,⟨fun b i h=>?_,fun b i x hbi hx=>?_,hw.sep,hw.top,hw.lo,hwr.inv⟩,Nat.le_refl _,qM (ks:=[]) (fun b hb=>by cases hb) _ h1 hv⟩
  ·exact⟨(hw.dom b i h).1,Nat.lt_of_lt_of_le (hw.dom b i h).2 hst.size⟩
  ·by_cases hbk:b∈ks
   ·obtain⟨y,hy⟩:=hks.1 hbk
    have hxy:x=y:=by have:=hrow b y hy; rw[hx] at this; exact Option.some.inj this
    subst hxy
    rcases hkept b x hy with hg | hg
    ·cases hg
    ·have hρ' : ρ' b=some i:=by rw[hst.ext b (hf1 b x hy).2.1,CE hbk]; exact hbi
     obtain⟨o,ho,hrel⟩:=hwr.blk b i x hρ' hg
     exact⟨o,ho,hrel.restrict hback (hf1 b x hy).1⟩
   ·obtain⟨o,ho,hrel⟩:=hw.blk b i x hbi hx
    exact⟨o,by rw[hst.frame _ (hw.dom b i hbi).2 (Xw b i hbk hbi x hx)]; exact ho,hrel⟩
 ·
  rename_i m v0 bs m' Wn
  have hnext:CG e=m:=by unfold CG; rw[Wn]
  rw[Wn] at h
  dsimp only at h
  simp only[Bool.and_eq_true] at h
  obtain⟨⟨⟨h1,h2⟩,h3⟩,h4⟩:=h
  have hv1:=vI _ _ h1
  have h2:=bM h2
  subst hv1
  subst h2
  split at ha <;> first | (cases ha; done) | skip
  rename_i hn
  have hn:=bM hn
  rw[hnext,hn] at main hw0 hf1 h3
  cases ha
  have hrows:=IB bs h3
  have hkept:=BK _ h4
  refine main.mono fun r w' hR=>?_
  obtain⟨ρ',v',rfl,hst,hwr,hnx,hv⟩:=hR
  dsimp only at hst hnx
  let ρ2:Ren:=fun b=>if b<A.next then ρ b else ρ' b
  have hlo:∀ b,b<A.next→ρ2 b=ρ b:=fun b h=>by simp[ρ2,h]
  have hhi:∀ b,A.next≤b→ρ2 b=ρ' b:=fun b h=>by simp only[ρ2]; rw[if_neg (by omega)]
  have hold:∀ b i,b<A.next→ρ' b=some i→b∈ks∧ρ b=some i:=fun b i h hbi=>by
   rw[hst.ext b h] at hbi
   exact oN hbi
  have hle1:ρ.le ρ2:=fun b i h=>by rw[hlo b (hw.dom b i h).1]; exact h
  have hle2:ρ'.le ρ2:=fun b i h=>by
   rcases Nat.lt_or_ge b A.next with h' | h'
   ·rw[hlo b h']; exact(hold b i h' h).2
   ·rw[hhi b h']; exact h
  -- a row of the outcome: changed or new; or as it was
  have hget:∀ b i x,ρ2 b=some i→(xG (FO A.heap e.dead) bs).get b=some x→(ρ' b=some i∧A1.heap.get b=some x)∨(b ∉ ks∧b<A.next∧ρ b=some i∧A.heap.get b=some x):=by
   intro b i x hbi hx
   rcases yV bs _ hx with hx | ⟨hx,hnb⟩
   ·obtain⟨hwh,hx⟩:=hrows b x hx
    refine .inl ⟨?_,hx⟩
    rcases Nat.lt_or_ge b A.next with h' | h'
    ·rcases hwh with hwh | hwh
     ·omega
     ·rw[hst.ext b h',CE hwh,← hlo b h']; exact hbi
    ·rw[← hhi b h']; exact hbi
   ·obtain⟨hx,hnd⟩:=Er _ _ hx
    have hbn:=hw.top b x hx
    rw[hlo b hbn] at hbi
    by_cases hbk:b∈ks
    ·obtain⟨y,hy⟩:=hks.1 hbk
     have hxy:x=y:=by have:=hrow b y hy; rw[hx] at this; exact Option.some.inj this
     subst hxy
     rcases hkept b x hy with hg | hg
     ·rcases List.mem_append.1 hg with hg | hg
      ·obtain⟨z,hz⟩:=Dy.1 hg
       exact absurd hz (hnb z)
      ·exact absurd hg hnd
     ·exact .inl ⟨by rw[hst.ext b hbn,CE hbk]; exact hbi,hg⟩
    ·exact .inr ⟨hbk,hbn,hbi,hx⟩
  have KO:∀ b i x b' i' x',b ∉ ks→ρ b=some i→A.heap.get b=some x→ρ' b'=some i'→A1.heap.get b'=some x'→i.cb≠i'.cb:=by
   intro b i x b' i' x' hbk hbi hx hb' hx' he
   rcases hst.fresh b' i' hb' with⟨b0,i0,h0,e0⟩ | hge
   ·exact Xw b i hbk hbi x hx b0 i0 h0 (by rw[e0,he])
   ·have:=(hw.dom b i hbi).2; omega
  refine⟨ρ2,v',rfl,⟨hst.os,hst.tape,hst.output,hst.size,fun c hc hun=>hst.frame c hc fun b i hbi=>hun b i (oN hbi).2,fun b h=>hlo b h,fun b i h=>?_,hst.low⟩,⟨fun b i h=>?_,fun b i x h1 h2=>?_,fun b b' i i' x x' hb hb' hx hx' he=>?_,fun b x h=>?_,fun b i x h1 h2=>?_,hwr.inv⟩,hnx,hv.mono hle2⟩
  ·rcases Nat.lt_or_ge b A.next with h' | h'
   ·rw[hlo b h'] at h; exact .inl ⟨b,i,h,rfl⟩
   ·rw[hhi b h'] at h
    rcases hst.fresh b i h with⟨b0,i0,h0,e0⟩ | hge
    ·exact .inl ⟨b0,i0,(oN h0).2,e0⟩
    ·exact .inr hge
  ·rcases Nat.lt_or_ge b A.next with h' | h'
   ·rw[hlo b h'] at h
    exact⟨Nat.lt_of_lt_of_le (hw.dom b i h).1 hnx,Nat.lt_of_lt_of_le (hw.dom b i h).2 hst.size⟩
   ·rw[hhi b h'] at h
    exact hwr.dom b i h
  ·rcases hget b i x h1 h2 with⟨g1,g2⟩ | ⟨g1,g2,g3,g4⟩
   ·obtain⟨o,ho,hrel⟩:=hwr.blk b i x g1 g2
    exact⟨o,ho,hrel.mono hle2⟩
   ·obtain⟨o,ho,hrel⟩:=hw.blk b i x g3 g4
    exact⟨o,by rw[hst.frame _ (hw.dom b i g3).2 (Xw b i g1 g3 x g4)]; exact ho,hrel.mono hle1⟩
  ·rcases hget b i x hb hx with⟨g1,g2⟩ | ⟨g1,g2,g3,g4⟩ <;> rcases hget b' i' x' hb' hx' with⟨k1,k2⟩ | ⟨k1,k2,k3,k4⟩
   ·exact hwr.sep _ _ _ _ _ _ g1 k1 g2 k2 he
   ·exact absurd he.symm (KO b' i' x' b i x k1 k3 k4 g1 g2)
   ·exact absurd he (KO b i x b' i' x' g1 g3 g4 k1 k2)
   ·exact hw.sep _ _ _ _ _ _ g3 k3 g4 k4 he
  ·rcases yV bs _ h with h | ⟨h,_⟩
   ·exact hwr.top b x (hrows b x h).2
   ·exact Nat.lt_of_lt_of_le (hw.top b x (Er _ _ h).1) hnx
  ·rcases hget b i x h1 h2 with⟨g1,g2⟩ | ⟨g1,g2,g3,g4⟩
   ·exact hwr.lo b i x g1 g2
   ·exact hw.lo b i x g3 g4
def mg (P:Program) (X:Ext) (T:Table) (L n:Nat) (B:Table) : Bool:=B.all fun g=>g.2.all (JB P X (Ed T) L n g.1)
theorem jX.nil {I:World→Prop} : jX P I []:=fun g hg=>by cases hg
theorem jX.add (hng:EW P X) (hm:P.follows .mixedOrders=true) {I:World→Prop} {T B:Table} (hT:jX P I T) {L n:Nat} (h:mg P X T L n B=true) : jX P I (B++T):=by
 intro g hg e he
 rcases List.mem_append.1 hg with hg | hg
 ·exact Mo hng hm (fun base hI=>Cf hI T hT) (List.all_eq_true.1 (List.all_eq_true.1 h g hg) e he)
 ·exact hT g hg e he
open Go.WideShapes Go.ChangeShapes in
open Go.WideShapes Go.ChangeShapes in
theorem wJ.val {P:Program} {I:World→Prop} {f:Nat} {args:List AV} {v:AV} (hv:within [] v=true)
  (h:∀ w,I w→∀ (ρ:Ren) us,bC ρ args us→Calls P f ⟨us⟩ w fun e w'=>(∃ u,e=.returned u∧∀ ρ:Ren,aB ρ v u)∧w'=w) : wJ P I f { args,ans:=.val v } := by
 intro base hI A v0 A' ha ρ w us hargs hw hb
 simp only[Vz,CK] at ha
 cases ha
 refine(h w (hI w hw.inv) ρ us hargs).mono fun e w' hR=>?_
 obtain⟨⟨u,rfl,hu⟩,rfl⟩:=hR
 exact⟨ρ,u,rfl,Step.refl _ _ _,hw,Nat.le_refl _,hu ρ⟩
end
structure Enc (α:Type) where
 size:Nat
 cells:α→List AV
 len:∀ a,(cells a).length=size
 one:∀ a,(cells a).all oneCell=true
section
variable {α:Type} (E:Enc α)
def Enc.row (xs:List α) : List AV:=xs.flatMap E.cells
theorem Enc.lI (x:α) (xs:List α) : E.row (x :: xs)=E.cells x++E.row xs:=rfl
theorem Enc.uu (xs ys:List α) : E.row (xs++ys)=E.row xs++E.row ys:=by simp[Enc.row]
theorem Enc.row_one (x:α) : E.row [x]=E.cells x:=by simp[Enc.row]
theorem Enc.eu:∀ (xs:List α),(E.row xs).length=xs.length * E.size
 | []=>by simp[Enc.row]
 | x :: xs=>by rw[Enc.lI,List.length_append,E.len,Enc.eu xs,List.length_cons,Nat.succ_mul,Nat.add_comm]
theorem Enc.tQ:∀ (xs:List α),(E.row xs).all oneCell=true
 | []=>by simp[Enc.row]
 | x :: xs=>by rw[Enc.lI,List.all_append,E.one,Enc.tQ xs]; rfl
theorem Enc.vC:∀ (xs:List α) (i:Nat),(E.row xs).drop (i * E.size)=E.row (xs.drop i)
 | [],i=>by simp[Enc.row]
 | x :: xs,0=>by simp
 | x :: xs,i + 1=>by
   rw[Enc.lI,Nat.succ_mul,Nat.add_comm,← List.drop_drop,List.drop_left' (E.len x),Enc.vC xs i]
   rfl
theorem Enc.vB:∀ (xs:List α) (i:Nat),(E.row xs).take (i * E.size)=E.row (xs.take i)
 | [],i=>by simp[Enc.row]
 | x :: xs,0=>by simp[Enc.row]
 | x :: xs,i + 1=>by
   rw[Enc.lI,Nat.succ_mul,Nat.add_comm,List.take_append,List.take_of_length_le (by rw[E.len]; omega),E.len,Nat.add_sub_cancel_left,Enc.vB xs i]
   rfl
theorem Enc.Ns {xs:List α} {i:Nat} (hi:i<xs.length) : ((E.row xs).drop (i * E.size)).take E.size=E.cells xs[i]:=by
 rw[Enc.vC,List.drop_eq_getElem_cons hi,Enc.lI]
 rw[List.take_append_of_le_length (by rw[E.len]; exact Nat.le_refl _),List.take_of_length_le (by rw[E.len]; exact Nat.le_refl _)]
abbrev Sl (M:RM) (v:AV) (xs:List α) : Prop:=aR M E.size v (E.row xs) xs.length
abbrev Ow (M:RM) (base el:Nat) (v:AV) (xs:List α) : Prop:=Own M base el E.size v (E.row xs) xs.length
variable {E} {M M' : RM} {v:AV} {xs:List α}
theorem Sl.elem (h:Sl E M v xs) {i:Nat} (hi:i<xs.length) : ∃ b o,b<M.next∧b∈aI v∧(∀ (kd:IntKind) (K:AV→Prop),ah v (N kd (i:Int)) E.size K=K (.ptr b o))∧M.loads b o E.size=some (E.cells xs[i]):=by
 obtain⟨b,o,cap,rfl,hb,hl⟩:=h.pos (by omega)
 have hsum:i * E.size + E.size≤xs.length * E.size:=by rw[← Nat.succ_mul]; exact Nat.mul_le_mul_right _ hi
 refine⟨b,o + i * E.size,hb,by simp[aI],fun kd K=>?_, ?_⟩
 ·rw[nV]
  simp only[Int.toNat_natCast]
  exact propext ⟨fun h=>h.2.2,fun h=>⟨by omega,by omega,h⟩⟩
 ·rw[tZ hl (i * E.size) E.size hsum,E.Ns hi]
theorem Sl.at (h:Sl E M v xs) {i:Nat} (sz:Nat) (j:Int) (hi:i<xs.length) (hsz:E.size=sz:=by rfl) (hj:j=(i:Int):=by rfl) : ∃ b o,b<M.next∧b∈aI v∧(∀ (kd:IntKind) (K:AV→Prop),ah v (N kd j) sz K=K (.ptr b o))∧M.loads b o sz=some (E.cells xs[i]):=by
 subst hsz hj; exact h.elem hi
theorem rZ {b o k:Nat} {cs:List AV} (h:M.loads b o k=some cs) {j:Nat} {x:AV} (hj:cs[j]?=some x) : M.cell b (o + j)=some x:=by
 have hlt:j<k:=by rw[← Gh h]; exact(List.getElem?_eq_some_iff.1 hj).1
 rw[YT h j hlt,hj]
theorem vZ {b o k:Nat} {cs:List AV} (h:M.loads b o k=some cs) {x:AV} (hj:cs[0]?=some x) : M.cell b o=some x:=rZ h hj
theorem VE {b o k:Nat} {cs:List AV} (h:M.loads b o k=some cs) (j m:Nat) (hm:j + m≤k) : M.loads b (o + j) m=some ((cs.drop j).take m):=tZ h j m hm
theorem zD {base T bytes:Nat} {zs:List AV} {u:AV} {ys:List α} {K:ak} (ho:Ow E M base T v xs) (hb:base≤M.next) (hs:1≤E.size) (hu:Sl E M u ys)
  (hn:(xs.length + ys.length) * bytes≤140737488355328) (hn2:xs.length + ys.length≤140737488355328)
  (hK:∀ v' M',Ow E M' base T v' (xs++ys)→ag (aI v) M M'→M.next≤M'.next→(v'=v∨∀ b∈aI v',M.next≤b)→K v' M') :
  appW T E.size bytes zs false v u M K:=by
 refine zJ ho hb hs (aR.nK hu _) (E.eu ys) (E.tQ ys) hn hn2 ?_
 intro v' M' h1 h2 h3 h4
 refine hK v' M' ?_ h2 h3 h4
 rw[← E.uu] at h1
 simpa [Ow] using h1
theorem uy {b o k:Nat} {cs:List AV} (h:M.loads b o k=some cs) (m:Nat) (hm:m≤k) : M.loads b o m=some (cs.take m):=tZ h 0 m (by omega)
theorem Sl.new {T c:Nat} {p:Bool} (ys:List α) : Sl E (M.push (.row (E.row ys) p T 0)) (.slc M.next 0 ys.length (.ex c)) ys :=
 .slc _ _ _ _ _ (by simp[RM.push]) (by rw[RM.dF (RM.aQ _) (by rw[E.eu]; omega),List.drop_zero,← E.eu,List.take_length])
theorem qW {base T bytes:Nat} {zs:List AV} {a:α} {K:ak} (ho:Ow E M base T v xs) (hb:base≤M.next) (hs:1≤E.size)
  (hn:(xs.length + 1) * bytes≤140737488355328) (hn2:xs.length + 1≤140737488355328)
  (hK:∀ v' M',Ow E M' base T v' (xs++[a])→ag (aI v) M M'→M.next≤M'.next→(v'=v∨∀ b∈aI v',M.next≤b)→K v' M') :
  appW T E.size bytes zs false v (.slc M.next 0 1 (.ex 1)) (M.push (.row (E.cells a) false T 0)) K:=by
 have hk:ag [] M (M.push (.row (E.cells a) false T 0)):=(ag.refl _ _).push _
 refine zD (ys:=[a]) (Own.keep ho hk (by simp)) (Nat.le_trans hb hk.next) hs (by rw[← E.row_one]; exact Sl.new [a]) hn hn2 ?_
 intro v' M' h1 h2 h3 h4
 exact hK v' M' h1 ((hk.mono (by simp)).trans h2) (Nat.le_trans hk.next h3) (h4.imp id fun h b hb=>Nat.le_trans hk.next (h b hb))
@[go_sem] theorem ae4 {T:Nat} {zs:List AV} {K:RB→(Nat→AV)→Prop} : dW T 0 zs [] K=K (.row [] false T 0) (fun b=>.slc b 0 0 (.ex 0)):=by
 apply propext; unfold dW
 constructor
 ·rintro⟨l,h,hk⟩; cases h; exact hk
 ·intro hk; exact⟨_,rfl,hk⟩
theorem mE {T size:Nat} {zs:List AV} {x:AV} {K:RB→(Nat→AV)→Prop} (h:x.cells.length=size) (h1:x.cells.all oneCell=true) (hz:zs.length=size) :
  dW T 1 zs [(0,size,x)] K=K (.row x.cells false T 0) (fun b=>.slc b 0 1 (.ex 1)):=by
 have:Bw (bU zs 1) [(0,size,x)]=some x.cells:=by
  simp only[Bw,bU,List.append_nil,h1,h,Nat.zero_add,hz,Nat.le_refl,and_self,if_true,List.take_zero,List.nil_append]
  rw[List.drop_of_length_le (by omega),List.append_nil]
 apply propext; unfold dW
 constructor
 ·rintro⟨l,h,hk⟩; rw[this] at h; cases h; exact hk
 ·intro hk; exact⟨_,this,hk⟩
theorem Ow.lit (E:Enc α) {T:Nat} (M:RM) : Ow E (M.push (.row [] false T 0)) M.next T (.slc M.next 0 0 (.ex 0)) []:=Own.lit M (Nat.le_refl _)
theorem fZ {i:Nat} (h:i<9223372036854775807) : IntKind.wrap .i64 ((i:Int) + 1)=((i + 1:Nat) : Int):=by
 rw[aS (by omega) (by omega)]; rfl
end
@[go_sem] theorem yP:dE [] [] []=some true:=rfl
@[go_sem] theorem De (ks:List Nat) (k:IntKind) (a b:Int) (xs ys:List AV) : dE (1 :: ks) (N k a :: xs) (N k b :: ys)=if a=b then dE ks xs ys else some false:=by
 simp only[dE,uJ,if_true]
 by_cases h:a=b
 ·simp[h]
 ·have:(a == b)=false:=by simp[h]
  simp[this,h]
@[go_sem] theorem yU (ks:List Nat) (a b:List UInt8) (xs ys:List AV) : dE (2 :: ks) (St a :: xs) (St b :: ys)=if a=b then dE ks xs ys else some false:=by
 simp only[dE,uJ]
 by_cases h:a=b
 ·simp[h]
 ·have:(a == b)=false:=by simp[h]
  simp[this,h]
@[go_sem] theorem aes (ks:List Nat) (a b:Bool) (xs ys:List AV) : dE (3 :: ks) (Bo a :: xs) (Bo b :: ys)=if a=b then dE ks xs ys else some false:=by
 simp only[dE,uJ]
 by_cases h:a=b
 ·simp[h]
 ·have:(a == b)=false:=by simp[h]
  simp[this,h]
theorem kY {neg:Bool} {ks:List Nat} {cs ds:List AV} {r:Bool} {K:AV→Prop} (h1:cs.length=ks.length) (h2:ds.length=ks.length) (h:dE ks cs ds=some r) : jw neg ks (.agg cs) (.agg ds) K=K (Bo (r != neg)):=by
 rw[Wd]
 apply propext
 constructor
 ·rintro⟨_,_,r',h',hk⟩; rw[h] at h'; cases h'; exact hk
 ·intro hk; exact⟨h1,h2,r,h,hk⟩
theorem iN (x:AV) (w:Bool) (f g:ak→Prop) (F G:AV→RM→ak→Prop) (k:ak) :
  aj x w f g (fun v M=>aj x w (F v M) (G v M) k)=aj x w (fun k'=>f fun v M=>F v M k') (fun k'=>g fun v M=>G v M k') k:=by
 unfold aj nA
 split
 ·split <;> simp_all
 ·rfl
 ·rfl
theorem dP (x:AV) (w:Bool) (f g:KR→Prop) (F G:AV→RM→Option Nat→KR→Prop) (k:KR) :
  ae x w f g (fun v M b=>ae x w (F v M b) (G v M b) k)=ae x w (fun k'=>f fun v M b=>F v M b k') (fun k'=>g fun v M b=>G v M b k') k:=by
 unfold ae nA
 split
 ·split <;> simp_all
 ·rfl
 ·rfl
theorem dz (x:AV) (w:Bool) (f g:KR→Prop) (F G:AV→RM→Option Nat→ak→Prop) (k:ak) :
  ae x w f g (fun v M b=>aj x w (F v M b) (G v M b) k)=aj x w (fun k'=>f fun v M b=>F v M b k') (fun k'=>g fun v M b=>G v M b k') k:=by
 unfold ae aj nA
 split
 ·split <;> simp_all
 ·rfl
 ·rfl
theorem dK (x:AV) (w:Bool) (f g:ak→Prop) (F G:AV→RM→KR→Prop) (k:KR) :
  aj x w f g (fun v M=>ae x w (F v M) (G v M) k)=ae x w (fun k'=>f fun v M=>F v M k') (fun k'=>g fun v M=>G v M k') k:=by
 unfold ae aj nA
 split
 ·split <;> simp_all
 ·rfl
 ·rfl
theorem aG {body:(List AV→RM→Prop)→List AV→RM→Prop} {xs:List AV} {M:RM} (I:Nat→List AV→RM→Prop) (n:Nat) (h0:I n xs M)
  (hb:∀ (next:List AV→RM→Prop) m ys M',(∀ m' zs M'',m'<m→I m' zs M''→next zs M'')→I m ys M'→body next ys M') : aM body xs M :=
 ⟨I,n,h0,fun m ys M' hI=>hb _ m ys M' (fun m' zs M'' hlt h=>⟨m',hlt,h⟩) hI⟩
theorem XG {P:Program} {I:World→Prop} {T:Table} (hT:jX P I T) {f:FuncId} {args:List AV} {v:AV} {M:RM} {Q:ak} (hP:Hl P f) (hl:∀ A,Ed T f args A=some (v,A))
  (hI:∀ w,M.base.inv w→I w) (hQ:Q v M) : iG P f args M Q:=by
 refine⟨hP,fun ρ w us hargs hw=>?_⟩
 obtain⟨A,hA⟩:=hw
 refine(Cf (base:=M.base) hI T hT f args A v A (hl A) ρ w us hargs hA.rel hA.size).mono fun e w' hR=>?_
 obtain⟨ρ',v',rfl,hst,hw',_,hv⟩:=hR
 refine⟨v',v,M,ρ',rfl,mU hA hst hw' rfl hA.next (Nat.le_refl _) (fun b x hx=>?_),hv,hQ⟩
 rcases hA.blk b x hx with h | ⟨c,rfl,_⟩
 ·exact .inl h
 ·exact .inr ⟨c,rfl,hx⟩
abbrev By (b:UInt8) : AV:=N .u8 (b.toNat:Int)
def BY:Enc UInt8:=⟨1,fun b=>[By b],fun _=>rfl,fun _=>rfl⟩
theorem Zv (s:List UInt8) : BY.row s=s.map By:=by
 induction s with
 | nil=>rfl
 | cons b s ih=>rw[Enc.lI,ih]; rfl
def ES:Enc (List UInt8):=⟨1,fun s=>[St s],fun _=>rfl,fun _=>rfl⟩
def INT:Enc Int:=⟨1,fun n=>[N .i64 n],fun _=>rfl,fun _=>rfl⟩
def bn:Enc Nat:=⟨1,fun n=>[N .u64 (n:Int)],fun _=>rfl,fun _=>rfl⟩
theorem Ml (s:List Nat) : bn.row s=s.map (fun(s:Nat)=>N .u64 (s:Int)):=by
 induction s with
 | nil=>rfl
 | cons b s ih=>rw[Enc.lI,ih]; rfl
section
variable {α:Type} {E:Enc α} {M M' : RM} {v:AV} {xs:List α}
theorem Sl.Gd (h:Sl E M v xs) {i:Nat} (j:Int) (hi:i<xs.length) (hsz:E.size=1:=by rfl) (hj:j=(i:Int):=by rfl) :
  ∃ b o,b<M.next∧b∈aI v∧(∀ (kd:IntKind) (K:AV→Prop),ah v (N kd j) 1 K=K (.ptr b o))∧∀ x,E.cells xs[i]=[x]→M.cell b o=some x:=by
 obtain⟨b,o,h1,h2,h3,h4⟩:=Sl.at h 1 j hi hsz hj
 exact⟨b,o,h1,h2,h3,fun x hx=>vZ h4 (by rw[hx]; rfl)⟩
structure Rw (E:Enc α) (M:RM) (b:Nat) (opn:Bool) (el:Nat) (xs:List α) : Prop where
 heap:M.heap b=some (.row (E.row xs) opn el 0)
 lt:b<M.next
theorem Rw.sl {b el:Nat} {p:Bool} {cap:Cap} (h:Rw E M b p el xs) : Sl E M (.slc b 0 xs.length cap) xs:=by
 refine .slc _ _ _ _ _ h.lt ?_
 rw[RM.dF h.heap (by rw[E.eu]; omega),List.drop_zero,← E.eu,List.take_length]
theorem Rw.keep {b el:Nat} {p:Bool} {bs:List Nat} (h:Rw E M b p el xs) (hk:ag bs M M') (hb:b ∉ bs) : Rw E M' b p el xs :=
 ⟨hk.aK h.heap h.lt hb,Nat.lt_of_lt_of_le h.lt hk.next⟩
theorem Rw.new {el:Nat} {p:Bool} (M:RM) (xs:List α) : Rw E (M.push (.row (E.row xs) p el 0)) M.next p el xs :=
 ⟨RM.aQ _,by simp[RM.push]⟩
theorem Rw.load {b el:Nat} {p:Bool} (h:Rw E M b p el xs) {i:Nat} (hi:i<xs.length) : M.loads b (i * E.size) E.size=some (E.cells xs[i]):=by
 have hsum:i * E.size + E.size≤xs.length * E.size:=by rw[← Nat.succ_mul]; exact Nat.mul_le_mul_right _ hi
 rw[RM.dF h.heap (by rw[E.eu]; exact hsum),E.Ns hi]
theorem Rw.az {b el:Nat} {p:Bool} (h:Rw E M b p el xs) {i:Nat} (hi:i<xs.length) (hsz:E.size=1:=by rfl) {x:AV} (hx:E.cells xs[i]=[x]:=by rfl) : M.cell b i=some x:=by
 have:=h.load hi
 rw[hsz,Nat.mul_one] at this
 exact vZ this (by rw[hx]; rfl)
end
@[go_sem] theorem afp (el:Nat) (s:List UInt8) (K:RB→(Nat→AV)→Prop) : SL el (St s) K=K (.row (BY.row s) true el 0) (fun b=>.slc b 0 s.length (.op 1)):=by
 rw[Zv]
 apply propext; unfold SL
 constructor
 ·rintro⟨s',h,hk⟩; cases h; exact hk
 ·intro hk; exact⟨s,rfl,hk⟩
def afE (b:UInt8) : UInt8:=if 65≤b.toNat∧b.toNat≤90 then b + 32 else b
def low (s:List UInt8) : List UInt8:=s.map afE
structure oD (n:Nat) (bs:List Nat) (M M' : RM) : Prop where
 base:M'.base=M.base
 next:M.next≤M'.next
 heap:∀ c,c<n→c ∉ bs→M'.heap c=M.heap c
theorem oD.refl (n:Nat) (bs:List Nat) (M:RM) : oD n bs M M:=⟨rfl,Nat.le_refl _,fun _ _ _=>rfl⟩
theorem oD.trans {n:Nat} {bs:List Nat} {M M1 M2:RM} (h:oD n bs M M1) (k:oD n bs M1 M2) : oD n bs M M2 :=
 ⟨k.base.trans h.base,Nat.le_trans h.next k.next,fun c h1 h2=>(k.heap c h1 h2).trans (h.heap c h1 h2)⟩
theorem ag.to {bs cs:List Nat} {n:Nat} {M M' : RM} (h:ag bs M M') (hn:n≤M.next) (hb:∀ b∈bs,n≤b∨b∈cs) : oD n cs M M' :=
 ⟨h.base,h.next,fun c h1 h2=>h.heap c (Nat.lt_of_lt_of_le h1 hn) (fun hm=>by rcases hb c hm with h3 | h3; omega; exact h2 h3)⟩
theorem ag.acd {bs cs:List Nat} {n:Nat} {M0 M M' : RM} (h:ag bs M0 M) (k:oD n cs M M') (hn:M0.next≤n) (hc:∀ c∈cs,M0.next≤c∨c∈bs) : ag bs M0 M' :=
 ⟨k.base.trans h.base,Nat.le_trans h.next k.next,fun c h1 h2=>by
  rw[k.heap c (Nat.lt_of_lt_of_le h1 hn) (fun hm=>by rcases hc c hm with h3 | h3; omega; exact h2 h3),h.heap c h1 h2]⟩
theorem oD.aK {n:Nat} {bs:List Nat} {M M' : RM} (h:oD n bs M M') {b:Nat} {x:RB} (hh:M.heap b=some x) (hlt:b<n) (hb:b ∉ bs) : M'.heap b=some x:=by rw[h.heap b hlt hb,hh]
theorem Own.same {M M' : RM} {n el size n0:Nat} {v:AV} {cs:List AV} (h:Own M n0 el size v cs n) (hn:M'.next=M.next) (hb:∀ c∈aI v,M'.heap c=M.heap c) (hbase:M'.base=M.base) : Own M' n0 el size v cs n:=by
 cases h with
 | nil=>exact .nil
 | ex0 b o h1 h2 h3=>exact .ex0 b o h1 (by omega) (by simpa [RM.Jj,hb b (by simp[aI]),RM.lo,hbase] using h3)
 | op b n cs h1 h2 h3 h4=>exact .op b n cs h1 (by omega) (by rw[hb b (by simp[aI]),h3]) h4
theorem Own.one {M:RM} {n el size n0:Nat} {v:AV} {cs:List AV} (h:Own M n0 el size v cs n) : oneCell v=true:=by
 cases h <;> rfl
def YM (B:Base) (c:ai) : Prop:=∀ {M:RM} {Q:ak},M.base=B→Q (Bo true) M→c [] M Q
theorem Own.cells {M:RM} {n el size n0:Nat} {v:AV} {cs:List AV} (h:Own M n0 el size v cs n) : v.cells=[v]:=by
 cases h <;> rfl
section
variable {P:Program} {ρ:Ren} {M:RM} {w w' : World}
theorem bO.below {base:Base} {A:AW} (h:bO P base ρ A w) (hb:Below w.heap.size w w') (hn:base.n≤w.heap.size) : bO P base ρ A w' where
 dom b i hbi:=⟨(h.dom b i hbi).1,Nat.lt_of_lt_of_le (h.dom b i hbi).2 hb.size⟩
 blk b i x hbi hx:=let ⟨o,ho,hr⟩:=h.blk b i x hbi hx; ⟨o,by rw[hb.block _ (h.dom b i hbi).2]; exact ho,hr⟩
 sep:=h.sep
 top:=h.top
 lo:=h.lo
 inv:=base.low w w' (fun c hc=>hb.block c (Nat.lt_of_lt_of_le hc hn)) h.inv
theorem Step.of_below {base n:Nat} (hb:Below w.heap.size w w') (hn:base≤w.heap.size) : Step base n ρ w ρ w' where
 os:=hb.os
 tape:=hb.tape
 output:=hb.output
 size:=hb.size
 frame c hc _:=hb.block c hc
 ext _ _:=rfl
 fresh b i h:=.inl ⟨b,i,h,rfl⟩
 low c hc:=hb.block c (Nat.lt_of_lt_of_le hc hn)
theorem After.below (h:dU P ρ M w) (hb:Below w.heap.size w w') : After P M ρ w M ρ w':=by
 obtain⟨A,hA⟩:=h
 refine mU hA (Step.of_below hb hA.size) (hA.rel.below hb hA.size) rfl hA.next (Nat.le_refl _) fun b x hx=>?_
 rcases hA.blk b x hx with h | ⟨c,rfl,_⟩
 ·exact .inl h
 ·exact .inr ⟨c,rfl,hx⟩
end
structure q8 (α:Type) where
 size:Nat
 rel:RM→List AV→α→(Nat→Prop)→Prop
 len:∀ {M cs a S},rel M cs a S→cs.length=size
 one:∀ {M cs a S},rel M cs a S→cs.all oneCell=true
 mono:∀ {M cs a S S'},rel M cs a S→(∀ b,S b→S' b)→rel M cs a S'
 lt:∀ {M cs a S},rel M cs a S→rel M cs a (fun b=>S b∧b<M.next)
 keep:∀ {M M' cs a S bs},rel M cs a S→ag bs M M'→(∀ b∈bs,¬ S b)→rel M' cs a S
def Enc.A8 {α:Type} (E:Enc α) : q8 α where
 size:=E.size
 rel _ cs a _:=cs=E.cells a
 len h:=by subst h; exact E.len _
 one h:=by subst h; exact E.one _
 mono h _:=h
 lt h:=h
 keep h _ _:=h
inductive dY {α:Type} (R:q8 α) (M:RM) (S:Nat→Prop) : List AV→List α→Prop
 | nil:dY R M S [] []
 | cons {cs ds:List AV} {a:α} {xs:List α} : R.rel M cs a S→dY R M S ds xs→dY R M S (cs++ds) (a :: xs)
section
variable {α:Type} {R:q8 α} {M M' : RM} {S S' : Nat→Prop} {cs ds:List AV} {xs ys:List α} {a:α}
theorem dY.len (h:dY R M S cs xs) : cs.length=xs.length * R.size:=by
 induction h with
 | nil=>simp
 | cons h1 _ ih=>rw[List.length_append,R.len h1,ih,List.length_cons,Nat.succ_mul,Nat.add_comm]
theorem dY.one (h:dY R M S cs xs) : cs.all oneCell=true:=by
 induction h with
 | nil=>rfl
 | cons h1 _ ih=>rw[List.all_append,R.one h1,ih]; rfl
theorem dY.mono (h:dY R M S cs xs) (hs:∀ b,S b→S' b) : dY R M S' cs xs:=by
 induction h with
 | nil=>exact .nil
 | cons h1 _ ih=>exact .cons (R.mono h1 hs) ih
theorem dY.lt (h:dY R M S cs xs) : dY R M (fun b=>S b∧b<M.next) cs xs:=by
 induction h with
 | nil=>exact .nil
 | cons h1 _ ih=>exact .cons (R.lt h1) ih
theorem dY.keep {bs:List Nat} (h:dY R M S cs xs) (hk:ag bs M M') (hb:∀ b∈bs,¬ S b) : dY R M' S cs xs:=by
 induction h with
 | nil=>exact .nil
 | cons h1 _ ih=>exact .cons (R.keep h1 hk hb) ih
theorem dY.append (h:dY R M S cs xs) (k:dY R M S ds ys) : dY R M S (cs++ds) (xs++ys):=by
 induction h with
 | nil=>exact k
 | cons h1 _ ih=>rw[List.append_assoc]; exact .cons h1 ih
theorem dY.single (h:R.rel M cs a S) : dY R M S cs [a]:=by
 have:=dY.cons h .nil
 simpa using this
theorem dY.get (h:dY R M S cs xs) : ∀ {i:Nat} (hi:i<xs.length),R.rel M ((cs.drop (i * R.size)).take R.size) xs[i] S:=by
 induction h with
 | nil=>intro i hi; simp at hi
 | cons h1 h2 ih =>
   rename_i c1 d1 a1 x1
   intro i hi
   cases i with
   | zero =>
     rw[Nat.zero_mul,List.drop_zero,List.take_append_of_le_length (by rw[R.len h1]; exact Nat.le_refl _),List.take_of_length_le (by rw[R.len h1]; exact Nat.le_refl _)]
     exact h1
   | succ i =>
     rw[Nat.succ_mul,Nat.add_comm,← List.drop_drop,List.drop_left' (R.len h1)]
     exact ih (by simpa using hi)
theorem dY.take (h:dY R M S cs xs) : ∀ (k:Nat),dY R M S (cs.take (k * R.size)) (xs.take k):=by
 induction h with
 | nil=>intro k; simp; exact .nil
 | cons h1 h2 ih =>
   intro k
   cases k with
   | zero=>simp; exact .nil
   | succ k =>
     rw[Nat.succ_mul,Nat.add_comm,List.take_append,List.take_of_length_le (by rw[R.len h1]; omega),R.len h1,Nat.add_sub_cancel_left]
     exact .cons h1 (ih k)
theorem dY.drop (h:dY R M S cs xs) : ∀ (k:Nat),dY R M S (cs.drop (k * R.size)) (xs.drop k):=by
 induction h with
 | nil=>intro k; simp; exact .nil
 | cons h1 h2 ih =>
   intro k
   cases k with
   | zero=>simp; exact .cons h1 h2
   | succ k =>
     rw[Nat.succ_mul,Nat.add_comm,← List.drop_drop,List.drop_left' (R.len h1)]
     exact ih k
theorem dY.cells {E:Enc α} : ∀ {cs:List AV} {xs:List α},dY E.A8 M S cs xs→cs=E.row xs
 | _,_,.nil=>rfl
 | _,_,.cons h1 h2=>by rw[Enc.lI,dY.cells h2]; rw[show _=_ from h1]
theorem dY.of_cells {E:Enc α} : ∀ (xs:List α),dY E.A8 M S (E.row xs) xs
 | []=>.nil
 | x :: xs=>by rw[Enc.lI]; exact .cons rfl (dY.of_cells xs)
def fG (R:q8 α) (M:RM) (v:AV) (xs:List α) (S:Nat→Prop) : Prop :=
 ∃ cs,aR M R.size v cs xs.length∧(∀ b∈aI v,S b)∧dY R M S cs xs
theorem aR.lt {size n:Nat} {v:AV} (h:aR M size v cs n) : ∀ b∈aI v,b<M.next:=by
 cases h with
 | nil=>intro b hb; simp[aI] at hb
 | emp=>intro b hb; simp[aI] at hb
 | slc b o n cap cs hb _=>intro c hc; simp[aI] at hc; omega
theorem aR.one {size n:Nat} {v:AV} (h:aR M size v cs n) : oneCell v=true:=by
 cases h <;> rfl
theorem aR.cells {size n:Nat} {v:AV} (h:aR M size v cs n) : v.cells=[v]:=by
 cases h <;> rfl
variable {v:AV}
theorem fG.mono (h:fG R M v xs S) (hs:∀ b,S b→S' b) : fG R M v xs S':=let ⟨cs,h1,h2,h3⟩:=h; ⟨cs,h1,fun b hb=>hs b (h2 b hb),h3.mono hs⟩
theorem fG.lt (h:fG R M v xs S) : fG R M v xs (fun b=>S b∧b<M.next):=let ⟨cs,h1,h2,h3⟩:=h; ⟨cs,h1,fun b hb=>⟨h2 b hb,h1.lt b hb⟩,h3.lt⟩
theorem fG.keep {bs:List Nat} (h:fG R M v xs S) (hk:ag bs M M') (hb:∀ b∈bs,¬ S b) : fG R M' v xs S :=
 let ⟨cs,h1,h2,h3⟩:=h; ⟨cs,h1.keep hk (fun b hv hbs=>hb b hbs (h2 b hv)),h2,h3.keep hk hb⟩
theorem fG.len (h:fG R M v xs S) {K:AV→Prop} : bQ v K=K (N .i64 xs.length):=let ⟨cs,h1,_,_⟩:=h; h1.len
theorem fG.one (h:fG R M v xs S) : oneCell v=true:=let ⟨cs,h1,_,_⟩:=h; h1.one
theorem fG.cells (h:fG R M v xs S) : v.cells=[v]:=let ⟨cs,h1,_,_⟩:=h; h1.cells
theorem fG.nil:fG R M bB [] S:=⟨[],.nil,by simp[aI],.nil⟩
theorem fG.sl {E:Enc α} (h:fG E.A8 M v xs S) : Sl E M v xs:=by
 obtain⟨cs,h1,h2,h3⟩:=h
 rw[h3.cells] at h1
 exact h1
theorem fG.XU {E:Enc α} (h:Sl E M v xs) (hs:∀ b∈aI v,S b) : fG E.A8 M v xs S:=⟨_,h,hs,dY.of_cells xs⟩
theorem fG.at (h:fG R M v xs S) {i:Nat} (sz:Nat) (j:Int) (hi:i<xs.length) (hsz:R.size=sz:=by rfl) (hj:j=(i:Int):=by rfl) :
  ∃ b o cs,b<M.next∧b∈aI v∧(∀ (kd:IntKind) (K:AV→Prop),ah v (N kd j) sz K=K (.ptr b o))∧M.loads b o sz=some cs∧R.rel M cs xs[i] S:=by
 subst hsz hj
 obtain⟨cs,h1,h2,h3⟩:=h
 obtain⟨b,o,cap,rfl,hb,hl⟩:=h1.pos (by omega)
 have hsum:i * R.size + R.size≤xs.length * R.size:=by rw[← Nat.succ_mul]; exact Nat.mul_le_mul_right _ hi
 refine⟨b,o + i * R.size,(cs.drop (i * R.size)).take R.size,hb,by simp[aI],fun kd K=>?_, ?_,h3.get hi⟩
 ·rw[nV]
  simp only[Int.toNat_natCast]
  exact propext ⟨fun h=>h.2.2,fun h=>⟨by omega,by omega,h⟩⟩
 ·rw[tZ hl (i * R.size) R.size hsum]
def q8.slice (R:q8 α) : q8 (List α) where
 size:=1
 rel M cs xs S:=∃ v,cs=[v]∧fG R M v xs S
 len h:=by obtain⟨v,rfl,_⟩:=h; rfl
 one h:=by obtain⟨v,rfl,h⟩:=h; simp[h.one]
 mono h hs:=by obtain⟨v,rfl,h⟩:=h; exact⟨v,rfl,h.mono hs⟩
 lt h:=by obtain⟨v,rfl,h⟩:=h; exact⟨v,rfl,h.lt⟩
 keep h hk hb:=by obtain⟨v,rfl,h⟩:=h; exact⟨v,rfl,h.keep hk hb⟩
def nk (R:q8 α) (M:RM) (base el:Nat) (v:AV) (xs:List α) (S:Nat→Prop) : Prop :=
 ∃ cs,Own M base el R.size v cs xs.length∧dY R M S cs xs
theorem nk.nil {base el:Nat} : nk R M base el bB [] S:=⟨[],.nil,.nil⟩
theorem nk.mono {base el:Nat} (h:nk R M base el v xs S) (hs:∀ b,S b→S' b) : nk R M base el v xs S':=let ⟨cs,h1,h2⟩:=h; ⟨cs,h1,h2.mono hs⟩
theorem nk.lt {base el:Nat} (h:nk R M base el v xs S) : nk R M base el v xs (fun b=>S b∧b<M.next):=let ⟨cs,h1,h2⟩:=h; ⟨cs,h1,h2.lt⟩
theorem nk.keep {base el:Nat} {bs:List Nat} (h:nk R M base el v xs S) (hk:ag bs M M') (hb:∀ b∈bs,¬ S b) (hv:∀ b∈aI v,b ∉ bs) : nk R M' base el v xs S :=
 let ⟨cs,h1,h2⟩:=h; ⟨cs,h1.keep hk hv,h2.keep hk hb⟩
theorem nk.len {base el:Nat} (h:nk R M base el v xs S) {K:AV→Prop} : bQ v K=K (N .i64 xs.length):=let ⟨cs,h1,_⟩:=h; h1.il.len
theorem nk.blk {base el:Nat} (h:nk R M base el v xs S) : ∀ b∈aI v,base≤b∧b<M.next:=let ⟨cs,h1,_⟩:=h; h1.blk
theorem nk.slD {base el:Nat} (h:nk R M base el v xs S) (hs:∀ b,base≤b→b<M.next→S b) : fG R M v xs S :=
 let ⟨cs,h1,h2⟩:=h; ⟨cs,h1.il,fun b hb=>hs b (h1.blk b hb).1 (h1.blk b hb).2,h2⟩
theorem nk.cells {base el:Nat} (h:nk R M base el v xs S) : v.cells=[v]:=let ⟨cs,h1,_⟩:=h; h1.cells
theorem nk.one {base el:Nat} (h:nk R M base el v xs S) : oneCell v=true:=let ⟨cs,h1,_⟩:=h; h1.one
theorem nk.app {base T bytes:Nat} {zs:List AV} {K:ak} (ho:nk R M base T v xs S) (ha:R.rel M cs a S) (hb:base≤M.next) (hs:1≤R.size)
  (hd:∀ b∈aI v,¬ S b) (hS:∀ b,S b→b<M.next)
  (hn:(xs.length + 1) * bytes≤140737488355328) (hn2:xs.length + 1≤140737488355328)
  (hK:∀ v' M',nk R M' base T v' (xs++[a]) S→ag (aI v) M M'→M.next≤M'.next→(v'=v∨∀ b∈aI v',M.next≤b)→(∀ b∈aI v',¬ S b)→K v' M') :
  appW T R.size bytes zs false v (.slc M.next 0 1 (.ex 1)) (M.push (.row cs false T 0)) K:=by
 obtain⟨ds,h1,h2⟩:=ho
 have hk:ag [] M (M.push (.row cs false T 0)):=(ag.refl _ _).push _
 have hl:=R.len ha
 have hnl:nK (M.push (.row cs false T 0)) R.size zs false (.slc M.next 0 1 (.ex 1))=some (1,cs):=by
  simp only[nK,Nat.one_mul]
  rw[RM.dF (RM.aQ _) (by omega),List.drop_zero,← hl,List.take_length]
 refine zJ (h1.keep hk (by simp)) (Nat.le_trans hb hk.next) hs hnl (by rw[hl,Nat.one_mul]) (R.one ha) hn hn2 ?_
 intro v' M' q1 q2 q3 q4
 have kk:ag (aI v) M M':=(hk.mono (by simp)).trans q2
 refine hK v' M' ⟨_,by simpa using q1, ?_⟩ kk (Nat.le_trans hk.next q3) (q4.imp id fun h b hb=>Nat.le_trans hk.next (h b hb)) ?_
 ·exact(h2.keep kk hd).append (dY.single (R.keep ha kk hd))
 ·rcases q4 with rfl | q4
  ·exact hd
  ·intro b hb hSb
   have:=q4 b hb
   have:=hS b hSb
   simp only[RM.push] at *
   omega
end
section
variable {M M' : RM} {b i n e f:Nat} {l:List AV} {p:Bool} {x:AV}
theorem aA {K:AV→Prop} (h:M.heap b=some (.row l p e f)) (hx:l[i]?=some x) : az M (.ptr b i) K=K x:=by
 rw[gL,RM.cell_of h,hx]; simp
theorem bS {K:AV→Prop} (h:M.heap b=some (.row l p e f)) (hn:l.length=n) : av M (.ptr b 0) n K=K (.agg l):=by
 rw[dQ,RM.RZ h]
 have:wX (some l) 0 n=some l:=by simp[wX,← hn]
 rw[this]; simp
theorem dV {K:RM→Prop} (h:M.heap b=some (.row l p e 0)) (hi:i<l.length) (hc:x.cells=[x]) (h1:oneCell x=true) : aC M (.ptr b i) x 1 K=K (M.put b (.row (l.set i x) p e 0)):=by
 rw[yX,hc,RM.wO h,qm (by simp only[List.length_cons,List.length_nil]; omega) (Nat.zero_le _) (by simp[h1])]
 have:l.take i++[x]++l.drop (i + 1)=l.set i x:=by
  rw[List.set_eq_take_append_cons_drop,if_pos hi]; simp
 simp[this]
theorem wW {K:RM→Prop} (l' : List AV) (h:M.heap b=some (.row l p e 0)) (hi:i<l.length) (hc:x.cells=[x]) (h1:oneCell x=true) (hl:l.set i x=l') : aC M (.ptr b i) x 1 K=K (M.put b (.row l' p e 0)):=by
 rw[dV h hi hc h1,hl]
theorem bJ {K:AV→Prop} : aJ (.ptr b 0) n K=K (.ptr b n):=by rw[aP,Nat.zero_add]
theorem dh {K:RM→Prop} (h:M.heap b=some (.row l p e 0)) (hn:x.cells.length=n) (hl:l.length=n) (h1:x.cells.all oneCell=true) : aC M (.ptr b 0) x n K=K (M.put b (.row x.cells p e 0)):=by
 rw[yX,RM.wO h,PG (by rw[hn,hl]) h1]
 simp[hn]
theorem mV {c:Nat} {y z:RB} (h:M.heap b=some y) (hb:b≠c) : (M.put c z).heap b=some y:=by
 simp only[RM.put]; rw[if_neg hb]; exact h
theorem aN (y:RB) : (M.put b y).heap b=some y:=RM.vO _ _
theorem iV {y z:RB} (h:M.heap b=some y) (hb:b<M.next) : (M.push z).heap b=some y:=by
 simp only[RM.push]; rw[if_neg (by omega)]; exact h
theorem qy (y:RB) : (M.push y).next=M.next + 1:=rfl
theorem gJ (c:Nat) (y:RB) : (M.put c y).next=M.next:=rfl
theorem ag.new {bs:List Nat} (h:ag bs M M') {b:Nat} (y:RB) (hb:M.next≤b) : ag bs M (M'.put b y):=h.put y (.inl hb)
end
variable {M:RM}
theorem fo {a:AV} {l:List AV} {K:AV→Prop} : dm (.tup (a :: l)) 0 K=K a:=by rw[QS]; simp
theorem fu {a b:AV} {l:List AV} {K:AV→Prop} : dm (.tup (a :: b :: l)) 1 K=K b:=by rw[QS]; simp
theorem cO {p q:Prop} : au (Bo true) p q=p:=by simp[Tq]
theorem bz {p q:Prop} : au (Bo false) p q=q:=by simp[Tq]
theorem aD {b:Bool} {p q:Prop} (h1:b=true→p) (h2:b=false→q) : au (Bo b) p q:=⟨h1,h2⟩
theorem cB {f g:ak→Prop} {k:ak} : aj (Bo true) true f g k=f k:=rfl
theorem iE {f g:ak→Prop} {k:ak} : aj (Bo false) false f g k=f k:=rfl
theorem mF {f g:ak→Prop} {k:ak} : aj (Bo true) false f g k=g k:=rfl
theorem bI {f g:ak→Prop} {k:ak} : aj (Bo false) true f g k=g k:=rfl
theorem iK {f g:KR→Prop} {k:KR} : ae (Bo true) true f g k=f k:=rfl
theorem AY {f g:KR→Prop} {k:KR} : ae (Bo false) false f g k=f k:=rfl
theorem FI {f g:KR→Prop} {k:KR} : ae (Bo true) false f g k=g k:=rfl
theorem jd {f g:KR→Prop} {k:KR} : ae (Bo false) true f g k=g k:=rfl
theorem DN {w:Bool} {f g:ak→Prop} {k:ak} : aj .undef w f g k=g k:=rfl
theorem QB {w:Bool} {f g:KR→Prop} {k:KR} : ae .undef w f g k=g k:=rfl
theorem dN {a b:AV} {K:AV→Prop} : aL (Bo true) a b K=K a:=by rw[Qz]; rfl
theorem cz {a b:AV} {K:AV→Prop} : aL (Bo false) a b K=K b:=by rw[Qz]; rfl
theorem aR.known {size:Nat} {v:AV} {cs:List AV} {n:Nat} (h:aR M size v cs n) : known v=true:=by
 cases h <;> rfl
theorem dJ {t:TypeId} {cs:List AV} {K:RB→(Nat→AV)→Prop} (h1:cs.all oneCell=true) (h2:1≤cs.length) : gz t (.agg cs) K=K (.row cs false t 0) (fun b=>.ptr b 0):=by
 unfold gz
 exact propext ⟨fun h=>h.2.2,fun h=>⟨h1,h2,h⟩⟩
theorem adg {x y a b:AV} (h1:known x=true) (h2:x.cells=[x]) (h3:known y=true) (h4:y.cells=[y]) : Bj [a,b] [(0,1,x),(1,1,y)]=some [x,y]:=by
 simp[Bj,h1,h2,h3,h4]
def q8.pre {α β:Type} (E:Enc α) (R:q8 β) : q8 (α × β) where
 size:=E.size + R.size
 rel M cs a S:=∃ ds,cs=E.cells a.1++ds∧R.rel M ds a.2 S
 len h:=by obtain⟨ds,rfl,h⟩:=h; rw[List.length_append,E.len,R.len h]
 one h:=by obtain⟨ds,rfl,h⟩:=h; rw[List.all_append,E.one,R.one h]; rfl
 mono h hs:=by obtain⟨ds,rfl,h⟩:=h; exact⟨ds,rfl,R.mono h hs⟩
 lt h:=by obtain⟨ds,rfl,h⟩:=h; exact⟨ds,rfl,R.lt h⟩
 keep h hk hb:=by obtain⟨ds,rfl,h⟩:=h; exact⟨ds,rfl,R.keep h hk hb⟩
def q8.post {α β:Type} (R:q8 α) (E:Enc β) : q8 (α × β) where
 size:=R.size + E.size
 rel M cs a S:=∃ ds,cs=ds++E.cells a.2∧R.rel M ds a.1 S
 len h:=by obtain⟨ds,rfl,h⟩:=h; rw[List.length_append,E.len,R.len h]
 one h:=by obtain⟨ds,rfl,h⟩:=h; rw[List.all_append,E.one,R.one h]; rfl
 mono h hs:=by obtain⟨ds,rfl,h⟩:=h; exact⟨ds,rfl,R.mono h hs⟩
 lt h:=by obtain⟨ds,rfl,h⟩:=h; exact⟨ds,rfl,R.lt h⟩
 keep h hk hb:=by obtain⟨ds,rfl,h⟩:=h; exact⟨ds,rfl,R.keep h hk hb⟩
def q8.map {α β:Type} (R:q8 α) (g:β→α) : q8 β where
 size:=R.size
 rel M cs a S:=R.rel M cs (g a) S
 len h:=R.len h
 one h:=R.one h
 mono h hs:=R.mono h hs
 lt h:=R.lt h
 keep h hk hb:=R.keep h hk hb
end Go.Ab
set_option maxRecDepth 10000
namespace Go.Ab.ay
open Go Go.Ab
def wH (c:ai) : Prop:=∀ {M:RM} {x y:Nat} {Q:ak},Q (Bo (decide (x<y))) M→c [N .u64 (x:Int),N .u64 (y:Int)] M Q
theorem KM {M:RM} {x:Nat} {Q:ak} (h:Q (Bo false) M) : qE (N .u64 (x:Int)) M Q:=by
 unfold qE
 rw[iT,bne_self_eq_false]; exact h
theorem Uy {M:RM} {x:Nat} {Q:ak} (h:Q (Bo false) M) : sK (N .u64 (x:Int)) M Q:=by
 unfold sK
 rw[iT,bne_self_eq_false]; exact h
def WE (c:ai) : Prop:=∀ {M:RM} {x:Nat} {Q:ak},Q (Bo false) M→c [N .u64 (x:Int)] M Q
theorem Yk {cn:ai} (hn:WE cn) : wH fun args M Q=>∃ a0 a1,args=[a0,a1]∧xN cn a0 a1 M Q:=by
 intro M x y Q hQ
 refine⟨_,_,rfl, ?_⟩
 unfold xN
 simp only[iN]
 refine hn ?_
 rw[bI]
 dsimp only
 rw[cz,iE,dD]
 dsimp only
 rw[cz,show decide ((x:Int)<(y:Int))=decide (x<y) by simp]
 exact hQ
def Asc (xs:List Nat) : Prop:=xs.Pairwise (· < ·)
def below (n:Nat) (xs:List Nat) : Nat:=(xs.takeWhile (fun x=>decide (x<n))).length
theorem below_le (n:Nat) (xs:List Nat) : below n xs≤xs.length:=by
 unfold below
 induction xs with
 | nil=>simp
 | cons x xs ih =>
   rw[List.takeWhile_cons]
   split <;> simp <;> omega
theorem Asc.lt {xs:List Nat} (h:Asc xs) {i j:Nat} (hij:i<j) (hj:j<xs.length) : xs[i]'(by omega)<xs[j]:=List.pairwise_iff_getElem.1 h i j (by omega) hj hij
theorem EA {n:Nat} : ∀ {xs:List Nat} {i:Nat},i≤xs.length→(∀ k (hk:k<xs.length),k<i→xs[k]<n)→(∀ (hi:i<xs.length),n≤xs[i])→below n xs=i
 | [],i,h,_,_=>by simp at h; subst h; rfl
 | x :: xs,0,_,_,h2=>by
   have:=h2 (by simp)
   simp at this
   unfold below
   rw[List.takeWhile_cons,if_neg (by simp; omega)]; rfl
 | x :: xs,i + 1,h,h1,h2=>by
   have hx:=h1 0 (by simp) (by omega)
   have:=EA (n:=n) (xs:=xs) (i:=i) (by simpa using h) (fun k hk hki=>by have:=h1 (k + 1) (by simp; omega) (by omega); simpa using this) (fun hi=>by have:=h2 (by simp; omega); simpa using this)
   unfold below at *
   rw[List.takeWhile_cons,if_pos (by simpa using hx),List.length_cons,this]
theorem Pj {n:Nat} {xs:List Nat} (ha:Asc xs) : (n∈xs↔∃ h:below n xs<xs.length,xs[below n xs]=n):=by
 constructor
 ·intro hm
  obtain⟨i,hi,he⟩:=List.getElem_of_mem hm
  have hb:below n xs=i:=EA (by omega) (fun k hk hki=>by have:=ha.lt hki hi; omega) (fun _=>by omega)
  exact⟨by omega,by simp only[hb]; exact he⟩
 ·rintro⟨h,he⟩
  rw[← he]; exact List.getElem_mem h
theorem Ra {n:Nat} : ∀ {xs:List Nat} {k:Nat} (hk:k<xs.length),k<below n xs→xs[k]<n
 | x :: xs,k,hk,h=>by
   unfold below at h
   rw[List.takeWhile_cons] at h
   split at h
   ·rename_i hx
    cases k with
    | zero=>simpa using hx
    | succ k=>exact Ra (xs:=xs) (k:=k) (by simpa using hk) (by unfold below; simpa using h)
   ·simp at h
theorem QN {n:Nat} : ∀ {xs:List Nat} (h:below n xs<xs.length),n≤xs[below n xs]
 | x :: xs,h=>by
   unfold below at *
   rw[List.takeWhile_cons] at h
   simp only[List.takeWhile_cons]
   by_cases hx:x<n
   ·simp only[hx,decide_true,if_true,List.length_cons] at h ⊢
    exact QN (xs:=xs) (by unfold below; omega)
   ·simp only[hx,decide_false,Bool.false_eq_true,if_false,List.length_nil,List.getElem_cons_zero]
    omega
def Ha (c:ai) : Prop:=∀ {M:RM} {v:AV} {xs:List Nat} {n:Nat} {Q:ak},Sl bn M v xs→xs.length≤1000000→Asc xs→Q (.tup [N .i64 ((below n xs:Nat) : Int),Bo (decide (n∈xs))]) M→c [v,N .u64 (n:Int)] M Q
theorem half (i j:Nat) (h:i + j<9223372036854775808) : N .i64 (IntKind.i64.wrap (Tj .u64 (IntKind.u64.wrap (IntKind.i64.wrap ((i:Int) + (j:Int)))) 1))=N .i64 (((i + j) / 2:Nat) : Int):=by
 rw[show IntKind.i64.wrap ((i:Int) + (j:Int))=((i + j:Nat) : Int) by rw[aS (by omega) (by omega)]; rfl]
 rw[show IntKind.u64.wrap (((i + j:Nat) : Int))=((i + j:Nat) : Int) by unfold IntKind.wrap; simp[IntKind.bits,IntKind.signed]; omega]
 rw[show(1:Int)=((1:Nat) : Int) from rfl,JE _ _ _ (by decide)]
 rw[show((i + j:Nat) / 2 ^ 1)=(i + j) / 2 by simp]
 rw[aS (by omega) (by omega)]
theorem Ut {cl cn:ai} (hl:wH cl) (hn:WE cn) : Ha fun args M Q=>∃ a0 a1,args=[a0,a1]∧nE cl cn a0 a1 M Q:=by
 intro M v xs n Q hv hxl ha hQ
 refine⟨_,_,rfl, ?_⟩
 unfold nE
 simp only[iN]
 rw[aR.len hv]
 refine aG (fun m ys M3=>M3=M∧∃ i j:Nat,m=j - i∧ys=[N .i64 (i:Int),N .i64 (j:Int)]∧i≤j∧j≤xs.length∧(∀ k (hk:k<xs.length),k<i→xs[k]<n)∧(∀ k (hk:k<xs.length),j≤k→n≤xs[k])) _
  ⟨rfl,0,xs.length,rfl,rfl,Nat.zero_le _,Nat.le_refl _,by omega,by omega⟩ ?_
 rintro next m ys M3 hnext ⟨rfl,i,j,rfl,rfl,hij,hj,h1,h2⟩
 dsimp only[aa]
 rw[dD]
 refine aD (fun hlt=>?_) (fun hge=>?_)
 ·have hlt:i<j:=by simpa using hlt
  have hh:(i + j) / 2<j:=by omega
  have hh2:i≤(i + j) / 2:=by omega
  rw[cZ,jQ,Hy]
  refine⟨by omega, ?_⟩
  rw[jQ,half i j (by omega)]
  have hm:(i + j) / 2<xs.length:=by omega
  obtain⟨b,o,_,_,hidx,hc⟩:=Sl.Gd (E:=bn) hv (((i + j) / 2:Nat) : Int) hm
  have hc:=hc _ rfl
  rw[hidx,gL]
  refine⟨_,hc, ?_⟩
  refine hl ?_
  refine aD (fun h=>?_) (fun h=>?_)
  ·have h:xs[(i + j) / 2]<n:=by simpa using h
   rw[cZ,fZ (by omega)]
   refine hnext _ _ _ (by omega) ⟨rfl,(i + j) / 2 + 1,j,rfl,rfl,by omega,hj,fun k hk hki=>?_,h2⟩
   rcases Nat.lt_or_ge k ((i + j) / 2) with h3 | h3
   ·have:=ha.lt h3 hm; omega
   ·have:k=(i + j) / 2:=by omega
    subst this; exact h
  ·have h:n≤xs[(i + j) / 2]:=by simp at h; omega
   refine hnext _ _ _ (by omega) ⟨rfl,i,(i + j) / 2,rfl,rfl,by omega,by omega,h1,fun k hk hki=>?_⟩
   rcases Nat.lt_or_ge ((i + j) / 2) k with h3 | h3
   ·have:=ha.lt h3 hk; omega
   ·have:k=(i + j) / 2:=by omega
    subst this; exact h
 ·have hij:i=j:=by simp at hge; omega
  subst hij
  have hb:below n xs=i:=EA hj h1 (fun hi=>h2 i hi (Nat.le_refl _))
  rw[hb] at hQ
  rw[dD]
  by_cases hi:i<xs.length
  ·obtain⟨b,o,_,_,hidx,hc⟩:=Sl.Gd (E:=bn) hv (i:Int) hi
   have hc:=hc _ rfl
   have hm:decide (n∈xs)=(xs[i] == n):=by
    have:=Pj (n:=n) ha
    simp only[hb] at this
    by_cases h:xs[i]=n
    ·rw[decide_eq_true (this.2 ⟨hi,h⟩)]; simp[h]
    ·rw[decide_eq_false (fun hm=>h (this.1 hm).2)]; simp[h]
   rw[hm] at hQ
   rw[show decide ((i:Int)<(xs.length:Int))=true by simpa using hi,cB,hidx,gL]
   refine⟨_,hc, ?_⟩
   rw[bV,show(((xs[i] : Nat) : Int) == (n:Int))=(xs[i] == n) by
    by_cases h:xs[i]=n
    ·simp[h]
    ·have:((xs[i] : Int) == (n:Int))=false:=by simp; omega
     rw[this]; simp[h]]
   dsimp only
   cases he:xs[i] == n with
   | true =>
     rw[he] at hQ
     simp only[DN,cB,mF,bI,iE,dN,cz]
     exact hQ
   | false =>
     rw[he] at hQ
     rw[iE,hidx,gL]
     refine⟨_,hc, ?_⟩
     refine hn ?_
     simp only[DN,cB,mF,bI,iE,dN,cz]
     exact hQ
  ·have hm:decide (n∈xs)=false:=by
    refine decide_eq_false fun h=>?_
    have:=(Pj (n:=n) ha).1 h
    simp only[hb] at this
    exact hi this.1
   rw[hm] at hQ
   rw[show decide ((i:Int)<(xs.length:Int))=false by simp; omega]
   simp only[DN,cB,mF,bI,iE,dN,cz]
   exact hQ
theorem yO {M:RM} {b bx o ox dn sn k e:Nat} {l vs:List AV} {p:Bool} {cap adB:Cap} {K:ak} (hd:M.heap b=some (.row l p e 0)) (hk:Nat.min sn dn=k) (hk0:k≠0) (hl:M.loads bx ox k=some vs) (ho:o + k≤l.length) (hall:vs.all oneCell=true) :
  Ba 1 (.slc b o dn cap) (.slc bx ox sn adB) M K=K (N .i64 (k:Int)) (M.put b (.row (l.take o++vs++l.drop (o + k)) p e 0)):=by
 have hvs:=Gh hl
 have hst:M.stores b o vs=some (M.put b (.row (l.take o++vs++l.drop (o + k)) p e 0)):=by
  rw[RM.wO hd,qm (by omega) (Nat.zero_le _) hall,hvs]; rfl
 have:KL 1 (.slc b o dn cap) (.slc bx ox sn adB) M=some (N .i64 (k:Int),M.put b (.row (l.take o++vs++l.drop (o + k)) p e 0)):=by
  unfold KL
  simp only[BO,hk,if_neg hk0,firstM,Nat.mul_one,hl,hst]
 unfold Ba
 rw[this]
 apply propext
 constructor
 ·rintro⟨v,M',h,hK⟩; cases h; exact hK
 ·intro hK; exact⟨_,_,rfl,hK⟩
theorem uG {size b o n c at' : Nat} (h:at'≤n) (hc:n≤c) (hne:at'≠c) : bZ size (.slc b o n (.ex c)) (some (N .i64 (at' : Int))) none none=some (.slc b (o + at' * size) (n - at') (.ex (c - at'))):=by
 simp only[bZ,bnd]
 simp[h,hc,Ne.symm hne]
theorem Lf {size b o n c at' : Nat} (h:at'≤c) (hc:c≠0) : bZ size (.slc b o n (.ex c)) none (some (N .i64 (at' : Int))) none=some (.slc b o at' (.ex c)):=by
 simp only[bZ,bnd]
 simp[h,hc]
theorem pX {size b o n at' : Nat} (h:at'<n) : bZ size (.slc b o n (.op size)) (some (N .i64 (at' : Int))) none none=some (.slc b (o + at' * size) (n - at') (.op size)):=by
 simp only[bZ,bnd]
 simp[Nat.le_of_lt h]
 omega
theorem aex {A B D:List AV} {X:AV} {k m:Nat} (hA:A.length=k) (hB:B.length=m) : (A++X :: B).take (k + 1)++D++(A++X :: B).drop (k + 1 + m)=A++X :: D:=by
 subst hA; subst hB
 have e:A++X :: B=(A++[X])++B:=by simp
 rw[e,List.take_left' (by simp),List.drop_of_length_le (by simp; omega)]
 simp
def lT:AV→Prop
 | .slc _ _ n (.ex c)=>n≤c
 | .slc _ _ _ (.op e)=>e=1
 | _=>True
def eX (k x:Nat) (xs:List Nat) : List Nat:=xs.take k++x :: xs.drop k
theorem Et {k x:Nat} {xs:List Nat} (h:k≤xs.length) : (eX k x xs).length=xs.length + 1:=by
 simp[eX]; omega
def abw (c:ai) : Prop:=∀ {M:RM} {ba oa na bb ob nb ea eb:Nat} {ca cb:Cap} {la lb:List AV} {opb:Bool} {Q:ak},ba≠bb→M.heap ba=some (.row la false ea 0)→M.heap bb=some (.row lb opb eb 0)→oa + 1≤la.length→1≤lb.length→Q (Bo false) M→c [.slc ba oa na ca,.slc bb ob nb cb] M Q
theorem tq {i:Nat} (h:i<9223372036854775807) : IntKind.wrap .i64 ((i:Int) + ((1:Nat) : Int))=((i + 1:Nat) : Int):=fZ h
theorem qp (k:Nat) : (bU [N .u64 0] k).length=k∧(bU [N .u64 0] k).all oneCell=true:=by
 induction k with
 | zero=>exact⟨rfl,rfl⟩
 | succ k ih=>exact⟨by simp[bU,ih.1],by simp[bU,ih.2,Re]⟩
theorem Zp {M:RM} {b bx T n c k x ex:Nat} {xs:List Nat} {co cr:ai} {Q:ak} (hov:abw co) (hn:n=xs.length) (hnl:n≤1000000) (hc:n≤c) (hk:k<n)
  (hb:M.heap b=some (.row (bn.row xs++List.replicate (c - n) .top) true T 0)) (hbl:b<M.next) (hx:M.heap bx=some (.row [N .u64 (x:Int)] false ex 0)) (hxl:bx<M.next) (hne:bx≠b)
  (hQ:∀ v' M',Sl bn M' v' (eX k x xs)→lT v'→(∀ c∈aI v',c=b∨M.next≤c)→ag [b] M M'→Q v' M') : mI T co cr (.slc b 0 n (.ex c)) (N .i64 (k:Int)) (.slc bx 0 1 (.ex 1)) M Q:=by
 have hrow:(bn.row xs).length=n:=by rw[Enc.eu,hn]; simp[bn]
 have abU:(bn.row xs++List.replicate (c - n) AV.top).length=c:=by simp[hrow]; omega
 unfold mI
 rw[uG (by omega) hc (by omega),dO,mM,bV,show((((1:Nat) : Int)) == 0)=false from rfl,bz,mM,bV,
  show(((k:Int)) == (n:Int))=false by simp; omega,bz,cZ,tq (by omega),acE,iQ]
 have hxo:M.loads bx 0 1=some [N .u64 (x:Int)]:=by rw[RM.dF hx (by simp)]; rfl
 have hold:M.loads b k (n - k)=some ((bn.row xs).drop k):=by
  rw[RM.dF hb (by omega),List.drop_append_of_le_length (by omega),List.take_append_of_le_length (by simp[hrow]),List.take_of_length_le (by simp[hrow])]
 have hall:=bn.tQ xs
 have hins:bn.row (eX k x xs)=(bn.row xs).take k++N .u64 (x:Int) :: (bn.row xs).drop k:=by
  have h1:=bn.vB xs k
  have h2:=bn.vC xs k
  simp only[show bn.size=1 from rfl,Nat.mul_one] at h1 h2
  rw[h1,h2,eX,Enc.uu,Enc.lI]; rfl
 have hinl:(eX k x xs).length=n + 1:=by rw[Et (by omega),hn]
 have htl:((bn.row xs).take k).length=k:=by simp[hrow]; omega
 have hdl:((bn.row xs).drop k).length=n - k:=by simp[hrow]
 refine aD (fun hg=>?_) (fun hg=>?_)
 ·have hcn:c=n:=by simp at hg; omega
  subst hcn
  rw[Nat.sub_self,List.replicate_zero,List.append_nil] at hb
  rw[Lf (by omega) (by omega),dO,cZ,tq (by omega),eT,
   show IntKind.wrap .i64 (((c + 1:Nat) : Int) - (k:Int))=((c + 1 - k:Nat) : Int) by rw[aS (by omega) (by omega)]; omega]
  have hr0:=qp (c + 1 - k)
  refine⟨c + 1 - k,bU [N .u64 0] (c + 1 - k),by simp[nK],by omega,by omega,.slc M.next 0 (c + 1) (.op 1),M.push (.row ((bn.row xs).take k++bU [N .u64 0] (c + 1 - k)) true T 0), ?_, ?_⟩
  ·have hl0:M.loads b 0 (k * 1)=some ((bn.row xs).take k):=by rw[RM.dF hb (by omega)]; simp
   simp only[sW,if_neg (show ¬ c + 1 - k=0 by omega),if_neg (show ¬ k + (c + 1 - k)≤c by omega),hl0]
   have h1:(((bn.row xs).take k)++bU [N .u64 0] (c + 1 - k)).all oneCell=true:=by
    rw[List.all_append,hr0.2,Bool.and_true,List.all_eq_true]
    exact fun y hy=>List.all_eq_true.1 hall y (List.mem_of_mem_take hy)
   rw[if_pos ⟨by omega,by omega,h1⟩,show k + (c + 1 - k)=c + 1 by omega]
  ·have hnew:(M.push (.row ((bn.row xs).take k++bU [N .u64 0] (c + 1 - k)) true T 0)).heap M.next=some (.row ((bn.row xs).take k++bU [N .u64 0] (c + 1 - k)) true T 0):=RM.aQ _
   have kp:ag [] M (M.push (.row ((bn.row xs).take k++bU [N .u64 0] (c + 1 - k)) true T 0)):=(ag.refl _ _).push _
   have hb1:=kp.aK hb hbl (by simp)
   have hx1:=kp.loads hxl (by simp) (o:=0) (k:=1)
   rw[hxo] at hx1
   have hn1:(M.push (.row ((bn.row xs).take k++bU [N .u64 0] (c + 1 - k)) true T 0)).next=M.next + 1:=rfl
   generalize M.push (.row ((bn.row xs).take k++bU [N .u64 0] (c + 1 - k)) true T 0)=M1 at *
   have agN:((bn.row xs).take k++bU [N .u64 0] (c + 1 - k)).length=c + 1:=by rw[List.length_append,htl,hr0.1]; omega
   dsimp only
   rw[pX (by omega),dO,yO (k:=1) hnew (by simp[Nat.min_def]; omega) (by omega) hx1 (by rw[agN]; omega) rfl,cZ,tq (by omega),
    pX (by omega),dO,dO]
   simp only[Nat.mul_one,Nat.zero_add]
   have aeD:((bn.row xs).take k++bU [N .u64 0] (c + 1 - k)).take k++[N .u64 (x:Int)]++((bn.row xs).take k++bU [N .u64 0] (c + 1 - k)).drop (k + 1)=(bn.row xs).take k++N .u64 (x:Int) :: bU [N .u64 0] (c - k):=by
    rw[List.take_append_of_le_length (by omega),List.take_of_length_le (by omega),← List.drop_drop,List.drop_left' htl,show c + 1 - k=(c - k) + 1 by omega,bU]
    simp
   rw[aeD]
   have aeE:(M1.put M.next (.row ((bn.row xs).take k++N .u64 (x:Int) :: bU [N .u64 0] (c - k)) true T 0)).heap M.next=some (.row ((bn.row xs).take k++N .u64 (x:Int) :: bU [N .u64 0] (c - k)) true T 0):=aN _
   have hb2:=mV (z:=.row ((bn.row xs).take k++N .u64 (x:Int) :: bU [N .u64 0] (c - k)) true T 0) hb1 (show b≠M.next by omega)
   have kp2:ag [] M (M1.put M.next (.row ((bn.row xs).take k++N .u64 (x:Int) :: bU [N .u64 0] (c - k)) true T 0)):=kp.new _ (Nat.le_refl _)
   have hn2:(M1.put M.next (.row ((bn.row xs).take k++N .u64 (x:Int) :: bU [N .u64 0] (c - k)) true T 0)).next=M.next + 1:=hn1
   generalize M1.put M.next (.row ((bn.row xs).take k++N .u64 (x:Int) :: bU [N .u64 0] (c - k)) true T 0)=M2 at *
   have hr1:=qp (c - k)
   have aeZ:M2.loads b k (c - k)=some ((bn.row xs).drop k):=by
    rw[RM.dF hb2 (by omega),List.take_of_length_le (by simp[hrow])]
   have afD:((bn.row xs).take k++N .u64 (x:Int) :: bU [N .u64 0] (c - k)).length=c + 1:=by rw[List.length_append,htl,List.length_cons,hr1.1]; omega
   have Wq:((bn.row xs).drop k).all oneCell=true:=by
    rw[List.all_eq_true]; exact fun y hy=>List.all_eq_true.1 hall y (List.mem_of_mem_drop hy)
   rw[yO (k:=c - k) aeE (by simp[Nat.min_def]) (by omega) aeZ (by rw[afD]; omega) Wq]
   have hrow3:((bn.row xs).take k++N .u64 (x:Int) :: bU [N .u64 0] (c - k)).take (k + 1)++(bn.row xs).drop k++((bn.row xs).take k++N .u64 (x:Int) :: bU [N .u64 0] (c - k)).drop (k + 1 + (c - k))=bn.row (eX k x xs):=by
    rw[aex htl hr1.1,hins]
   rw[hrow3]
   refine hQ _ _ ?_ rfl (fun d hd=>.inr (by simp[aI] at hd; omega)) ((kp2.new _ (Nat.le_refl _)).mono (by simp))
   have:Rw bn (M2.put M.next (.row (bn.row (eX k x xs)) true T 0)) M.next true T (eX k x xs):=⟨aN _,by rw[gJ]; omega⟩
   have h4:=this.sl (cap:=.op 1)
   rw[hinl] at h4
   exact h4
 ·have hcn:n + 1≤c:=by simp at hg; omega
  rw[cZ,tq (by omega),Lf (by omega) (by omega),dO,cZ,tq (by omega),uG (by omega) (by omega) (by omega),dO]
  simp only[Nat.zero_add,Nat.mul_one]
  refine hov hne hx hb (by simp) (by rw[abU]; omega) ?_
  rw[bu,Bool.not_false,cO,cZ,tq (by omega),uG (by omega) (by omega) (by omega),dO,uG (by omega) (by omega) (by omega),dO]
  simp only[Nat.zero_add,Nat.mul_one]
  have Wq:((bn.row xs).drop k).all oneCell=true:=by
   rw[List.all_eq_true]; exact fun y hy=>List.all_eq_true.1 hall y (List.mem_of_mem_drop hy)
  rw[yO (k:=n - k) hb (by simp[Nat.min_def]; omega) (by omega) hold (by rw[abU]; omega) Wq]
  have hsplit:bn.row xs=(bn.row xs).take k++(bn.row xs).drop k:=(List.take_append_drop _ _).symm
  obtain⟨y,D,hD⟩ : ∃ y D,(bn.row xs).drop k=y :: D:=by
   cases h:(bn.row xs).drop k with
   | nil=>rw[h] at hdl; simp at hdl; omega
   | cons y D=>exact⟨y,D,rfl⟩
  obtain⟨R,hR⟩ : ∃ R,List.replicate (c - n) AV.top=.top :: R∧R.length=c - n - 1:=⟨List.replicate (c - n - 1) AV.top,by rw[show c - n=(c - n - 1) + 1 by omega,List.replicate_succ]; simp,by simp⟩
  generalize hA:(bn.row xs).take k=A at *
  have hDl:D.length + 1=n - k:=by rw[hD] at hdl; simpa using hdl
  have ae0:(bn.row xs++List.replicate (c - n) AV.top).take (k + 1)++(bn.row xs).drop k++(bn.row xs++List.replicate (c - n) AV.top).drop (k + 1 + (n - k))=A++y :: (y :: D++R):=by
   have hX:bn.row xs=A++y :: D:=by rw[hsplit,hD]
   rw[hD,hX,hR.1]
   have e1:A++y :: D++AV.top :: R=(A++[y])++(D++AV.top :: R):=by simp
   have e2:A++y :: D++AV.top :: R=(A++y :: D++[AV.top])++R:=by simp
   have d1:(A++y :: D++AV.top :: R).drop (k + 1 + (n - k))=R:=by rw[e2,List.drop_left' (by simp; omega)]
   have d2:(A++y :: D++AV.top :: R).take (k + 1)=A++[y]:=by rw[e1,List.take_left' (by simp[htl])]
   rw[d1,d2]
   simp
  rw[ae0]
  have hb2:(M.put b (.row (A++y :: (y :: D++R)) true T 0)).heap b=some (.row (A++y :: (y :: D++R)) true T 0):=aN _
  have kp:ag [b] M (M.put b (.row (A++y :: (y :: D++R)) true T 0)):=(ag.refl _ _).put _ (.inr (by simp))
  have hx2:=kp.loads hxl (by simp[hne]) (o:=0) (k:=1)
  rw[hxo] at hx2
  have hn2:(M.put b (.row (A++y :: (y :: D++R)) true T 0)).next=M.next:=rfl
  generalize M.put b (.row (A++y :: (y :: D++R)) true T 0)=M2 at *
  have hl2:(A++y :: (y :: D++R)).length=c:=by simp[htl,hR.2]; omega
  rw[dO,yO (k:=1) hb2 (by simp[Nat.min_def]; omega) (by omega) hx2 (by rw[hl2]; omega) rfl]
  have hrow2:(A++y :: (y :: D++R)).take k++[N .u64 (x:Int)]++(A++y :: (y :: D++R)).drop (k + 1)=bn.row (eX k x xs)++R:=by
   rw[hins,hD,List.take_left' htl,show(A++y :: (y :: D++R)).drop (k + 1)=y :: D++R by
    rw[show A++y :: (y :: D++R)=(A++[y])++(y :: D++R) by simp,List.drop_left' (by simp[htl])]]
   simp
  rw[hrow2]
  refine hQ _ _ ?_ (show n + 1≤c from hcn) (fun d hd=>.inl (by simpa [aI] using hd)) (kp.put _ (.inr (by simp)))
  rw[← hinl]
  refine .slc _ _ _ _ _ (by rw[gJ,hn2]; exact hbl) ?_
  have hil:(bn.row (eX k x xs)).length=n + 1:=by rw[Enc.eu,hinl]; simp[bn]
  show RM.loads _ b 0 ((eX k x xs).length * 1)=_
  rw[Nat.mul_one,hinl,RM.dF (aN _) (by rw[List.length_append,hil]; omega),List.drop_zero,List.take_append_of_le_length (by omega),List.take_of_length_le (by omega)]
end Go.Ab.ay
