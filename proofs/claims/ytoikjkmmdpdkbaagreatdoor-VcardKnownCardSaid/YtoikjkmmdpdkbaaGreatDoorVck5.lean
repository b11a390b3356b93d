/- Part 5 of the ground of the proofs of this seat (texts WSha to R27). By an AI agent. -/
import Derived.Test.YtoikjkmmdpdkbaaGreatDoorVck4
import Derived.Lib.Fold
import Derived.KernelRfl
import Derived.HandedShaped
set_option maxRecDepth 100000
set_option linter.unusedVariables false
set_option linter.unusedSimpArgs false
namespace Go.Ab.Sha
open Go Go.Ab
def zX (p1:Nat) (p2:aj) (p3:Nat) (p4:aj) (p5:Nat) (p6 p7:aj) (p8:Nat) (a0:AV) (M0:RM) (Q:ai) : Prop:=aU (.row [(N .u8 0),(N .u8 0),(N .u8 0),(N .u8 0),(N .u8 0),(N .u8 0),(N .u8 0),(N .u8 0),(N .u8 0),(N .u8 0),(N .u8 0),(N .u8 0),(N .u8 0),(N .u8 0),(N .u8 0),(N .u8 0),(N .u8 0),(N .u8 0),(N .u8 0),(N .u8 0),(N .u8 0),(N .u8 0),(N .u8 0),(N .u8 0),(N .u8 0),(N .u8 0),(N .u8 0),(N .u8 0),(N .u8 0),(N .u8 0),(N .u8 0),(N .u8 0)] false p1 0) (fun c=>.ptr c 0) M0 fun u v=>p2 [] v fun vf w=>aU (.row [(N .u32 0),(N .u32 0),(N .u32 0),(N .u32 0),(N .u32 0),(N .u32 0),(N .u32 0),(N .u32 0),(N .u32 0),(N .u32 0),(N .u32 0),(N .u32 0),(N .u32 0),(N .u32 0),(N .u32 0),(N .u32 0),(N .u32 0),(N .u32 0),(N .u32 0),(N .u32 0),(N .u32 0),(N .u32 0),(N .u32 0),(N .u32 0),(N .u32 0),(N .u32 0),(N .u32 0),(N .u32 0),(N .u32 0),(N .u32 0),(N .u32 0),(N .u32 0),(N .u32 0),(N .u32 0),(N .u32 0),(N .u32 0),(N .u32 0),(N .u32 0),(N .u32 0),(N .u32 0),(N .u32 0),(N .u32 0),(N .u32 0),(N .u32 0),(N .u32 0),(N .u32 0),(N .u32 0),(N .u32 0),(N .u32 0),(N .u32 0),(N .u32 0),(N .u32 0),(N .u32 0),(N .u32 0),(N .u32 0),(N .u32 0),(N .u32 0),(N .u32 0),(N .u32 0),(N .u32 0),(N .u32 0),(N .u32 0),(N .u32 0),(N .u32 0)] false p3 0) (fun c=>.ptr c 0) w fun l x=>aA x l vf 64 fun B=>p4 [] B fun vg G=>aU (.row [(N .u32 0),(N .u32 0),(N .u32 0),(N .u32 0),(N .u32 0),(N .u32 0),(N .u32 0),(N .u32 0)] false p5 0) (fun c=>.ptr c 0) G fun h I=>aA I h vg 8 fun L=>dz a0 fun vh=>af .quo vh (N .i64 64) fun vi=>af .mul vi (N .i64 64) fun t=>bz (fun W i r=>af .lss (ag i 0) t fun vj=>au vj ( af .add (ag i 0) (N .i64 64) fun vl=>bL (jy 1 a0 (some (ag i 0)) (some vl) none) fun vm=>p6 [h,vm,l] r fun wo O=>af .add (ag i 0) (N .i64 64) fun vk=>W [vk] O) ( bL (jy 1 a0 (some t) none none) fun vn=>p7 [vn] r fun vo P=>dV p8 1 [(N .u8 0)] [(0,1,(N .u8 128))] fun vb S=>aU vb S P fun vp R=>appW p8 1 1 [(N .u8 0)] false vo vp R fun vq y=>bz (fun X m n=>dz (ag m 0) fun vr=>af .rem vr (N .i64 64) fun vs=>af .neq vs (N .i64 56) fun vt=>au vt ( dV p8 1 [(N .u8 0)] [(0,1,(N .u8 0))] fun vc U=>aU vc U n fun vu z=>appW p8 1 1 [(N .u8 0)] false (ag m 0) vu z fun vv A=>X [vv] A) ( bz (fun Y d o=>af .lss (ag d 1) (N .i64 8) fun vw=>au vw ( dz a0 fun vx=>oh .u64 vx fun vy=>af .mul vy (N .u64 8) fun vz=>af .mul (N .i64 8) (ag d 1) fun v0=>af .sub (N .i64 56) v0 fun v1=>oH .shr vz v1 fun v2=>oh .u8 v2 fun v3=>dV p8 1 [(N .u8 0)] [(0,1,v3)] fun vd V=>aU vd V o fun v4 C=>appW p8 1 1 [(N .u8 0)] false (ag d 0) v4 C fun v5 D=>af .add (ag d 1) (N .i64 1) fun v6=>Y [v5,v6] D) ( bz (fun Z j p=>dz (ag d 0) fun v7=>af .lss (ag j 0) v7 fun v8=>au v8 ( af .add (ag j 0) (N .i64 64) fun wa=>bL (jy 1 (ag d 0) (some (ag j 0)) (some wa) none) fun wb=>p6 [h,wb,l] p fun wp E=>af .add (ag j 0) (N .i64 64) fun v9=>Z [v9] E) ( aU (.row [(N .u8 0),(N .u8 0),(N .u8 0),(N .u8 0),(N .u8 0),(N .u8 0),(N .u8 0),(N .u8 0),(N .u8 0),(N .u8 0),(N .u8 0),(N .u8 0),(N .u8 0),(N .u8 0),(N .u8 0),(N .u8 0),(N .u8 0),(N .u8 0),(N .u8 0),(N .u8 0),(N .u8 0),(N .u8 0),(N .u8 0),(N .u8 0),(N .u8 0),(N .u8 0),(N .u8 0),(N .u8 0),(N .u8 0),(N .u8 0),(N .u8 0),(N .u8 0)] false p1 0) (fun c=>.ptr c 0) p fun s F=>bz (fun va e g=>af .lss (ag e 0) (N .i64 32) fun wc=>au wc ( af .quo (ag e 0) (N .i64 4) fun wd=>dJ h wd 8 1 fun we=>ak g we fun wf=>af .rem (ag e 0) (N .i64 4) fun wg=>af .mul (N .i64 8) wg fun wh=>af .sub (N .i64 24) wh fun wi=>oH .shr wf wi fun wj=>oh .u8 wj fun wk=>dJ s (ag e 0) 32 1 fun wl=>aA g wl wk 1 fun H=>af .add (ag e 0) (N .i64 1) fun wm=>va [wm] H) ( aI g s 32 fun wn=>aA g u wn 32 fun q=>aI q u 32 fun ve=>Q ve q)) [(N .i64 0)] F)) [(N .i64 0)] o)) [(ag m 0),(N .i64 0)] n)) [vq] y)) [(N .i64 0)] L
def Bl (p1 p2:Nat) (a0:AV) (M0:RM) (Q:ai) : Prop:=mD p1 a0 fun n j=>aU n j M0 fun p e=>aI e p 32 fun y=>bz (fun m c d=>af .lss (ag c 1) (N .i64 32) fun z=>au z ( En y (ag c 1) 32 fun g=>oH .shr g (N .u64 4) fun q=>di (St [48,49,50,51,52,53,54,55,56,57,97,98,99,100,101,102]) q fun r=>af .and g (N .u8 15) fun s=>di (St [48,49,50,51,52,53,54,55,56,57,97,98,99,100,101,102]) s fun t=>dV p2 2 [(N .u8 0)] [(0,1,r),(1,1,t)] fun o l=>Og o l d fun u h A=>appW p2 1 1 [(N .u8 0)] false (ag c 0) u h fun v i=>af .add (ag c 1) (N .i64 1) fun w=>m [v,w] i) ( tT d (ag c 0) fun x=>Q x d)) [(.sc (.slice none 0 0)),(N .i64 0)] e
def nP (p1:Nat) (M0:RM) (Q:ai) : Prop:=aU (.row [(N .u32 0),(N .u32 0),(N .u32 0),(N .u32 0),(N .u32 0),(N .u32 0),(N .u32 0),(N .u32 0),(N .u32 0),(N .u32 0),(N .u32 0),(N .u32 0),(N .u32 0),(N .u32 0),(N .u32 0),(N .u32 0),(N .u32 0),(N .u32 0),(N .u32 0),(N .u32 0),(N .u32 0),(N .u32 0),(N .u32 0),(N .u32 0),(N .u32 0),(N .u32 0),(N .u32 0),(N .u32 0),(N .u32 0),(N .u32 0),(N .u32 0),(N .u32 0),(N .u32 0),(N .u32 0),(N .u32 0),(N .u32 0),(N .u32 0),(N .u32 0),(N .u32 0),(N .u32 0),(N .u32 0),(N .u32 0),(N .u32 0),(N .u32 0),(N .u32 0),(N .u32 0),(N .u32 0),(N .u32 0),(N .u32 0),(N .u32 0),(N .u32 0),(N .u32 0),(N .u32 0),(N .u32 0),(N .u32 0),(N .u32 0),(N .u32 0),(N .u32 0),(N .u32 0),(N .u32 0),(N .u32 0),(N .u32 0),(N .u32 0),(N .u32 0)] false p1 0) (fun g=>.ptr g 0) M0 fun d e=>dB [(N .u32 0),(N .u32 0),(N .u32 0),(N .u32 0),(N .u32 0),(N .u32 0),(N .u32 0),(N .u32 0),(N .u32 0),(N .u32 0),(N .u32 0),(N .u32 0),(N .u32 0),(N .u32 0),(N .u32 0),(N .u32 0),(N .u32 0),(N .u32 0),(N .u32 0),(N .u32 0),(N .u32 0),(N .u32 0),(N .u32 0),(N .u32 0),(N .u32 0),(N .u32 0),(N .u32 0),(N .u32 0),(N .u32 0),(N .u32 0),(N .u32 0),(N .u32 0),(N .u32 0),(N .u32 0),(N .u32 0),(N .u32 0),(N .u32 0),(N .u32 0),(N .u32 0),(N .u32 0),(N .u32 0),(N .u32 0),(N .u32 0),(N .u32 0),(N .u32 0),(N .u32 0),(N .u32 0),(N .u32 0),(N .u32 0),(N .u32 0),(N .u32 0),(N .u32 0),(N .u32 0),(N .u32 0),(N .u32 0),(N .u32 0),(N .u32 0),(N .u32 0),(N .u32 0),(N .u32 0),(N .u32 0),(N .u32 0),(N .u32 0),(N .u32 0)] [(0,1,(N .u32 1116352408)),(1,1,(N .u32 1899447441)),(2,1,(N .u32 3049323471)),(3,1,(N .u32 3921009573)),(4,1,(N .u32 961987163)),(5,1,(N .u32 1508970993)),(6,1,(N .u32 2453635748)),(7,1,(N .u32 2870763221)),(8,1,(N .u32 3624381080)),(9,1,(N .u32 310598401)),(10,1,(N .u32 607225278)),(11,1,(N .u32 1426881987)),(12,1,(N .u32 1925078388)),(13,1,(N .u32 2162078206)),(14,1,(N .u32 2614888103)),(15,1,(N .u32 3248222580)),(16,1,(N .u32 3835390401)),(17,1,(N .u32 4022224774)),(18,1,(N .u32 264347078)),(19,1,(N .u32 604807628)),(20,1,(N .u32 770255983)),(21,1,(N .u32 1249150122)),(22,1,(N .u32 1555081692)),(23,1,(N .u32 1996064986)),(24,1,(N .u32 2554220882)),(25,1,(N .u32 2821834349)),(26,1,(N .u32 2952996808)),(27,1,(N .u32 3210313671)),(28,1,(N .u32 3336571891)),(29,1,(N .u32 3584528711)),(30,1,(N .u32 113926993)),(31,1,(N .u32 338241895)),(32,1,(N .u32 666307205)),(33,1,(N .u32 773529912)),(34,1,(N .u32 1294757372)),(35,1,(N .u32 1396182291)),(36,1,(N .u32 1695183700)),(37,1,(N .u32 1986661051)),(38,1,(N .u32 2177026350)),(39,1,(N .u32 2456956037)),(40,1,(N .u32 2730485921)),(41,1,(N .u32 2820302411)),(42,1,(N .u32 3259730800)),(43,1,(N .u32 3345764771)),(44,1,(N .u32 3516065817)),(45,1,(N .u32 3600352804)),(46,1,(N .u32 4094571909)),(47,1,(N .u32 275423344)),(48,1,(N .u32 430227734)),(49,1,(N .u32 506948616)),(50,1,(N .u32 659060556)),(51,1,(N .u32 883997877)),(52,1,(N .u32 958139571)),(53,1,(N .u32 1322822218)),(54,1,(N .u32 1537002063)),(55,1,(N .u32 1747873779)),(56,1,(N .u32 1955562222)),(57,1,(N .u32 2024104815)),(58,1,(N .u32 2227730452)),(59,1,(N .u32 2361852424)),(60,1,(N .u32 2428436474)),(61,1,(N .u32 2756734187)),(62,1,(N .u32 3204031479)),(63,1,(N .u32 3329325298))] fun i=>aA e d i 64 fun c=>aI c d 64 fun h=>Q h c
def vK (p1:Nat) (M0:RM) (Q:ai) : Prop:=aU (.row [(N .u32 0),(N .u32 0),(N .u32 0),(N .u32 0),(N .u32 0),(N .u32 0),(N .u32 0),(N .u32 0)] false p1 0) (fun g=>.ptr g 0) M0 fun d e=>dB [(N .u32 0),(N .u32 0),(N .u32 0),(N .u32 0),(N .u32 0),(N .u32 0),(N .u32 0),(N .u32 0)] [(0,1,(N .u32 1779033703)),(1,1,(N .u32 3144134277)),(2,1,(N .u32 1013904242)),(3,1,(N .u32 2773480762)),(4,1,(N .u32 1359893119)),(5,1,(N .u32 2600822924)),(6,1,(N .u32 528734635)),(7,1,(N .u32 1541459225))] fun i=>aA e d i 8 fun c=>aI c d 8 fun h=>Q h c
def nC (p1:Nat) (p2:aj) (p3:Nat) (a0 a1 a2:AV) (M0:RM) (Q:ai) : Prop:=aU (.row [(N .u32 0),(N .u32 0),(N .u32 0),(N .u32 0),(N .u32 0),(N .u32 0),(N .u32 0),(N .u32 0),(N .u32 0),(N .u32 0),(N .u32 0),(N .u32 0),(N .u32 0),(N .u32 0),(N .u32 0),(N .u32 0),(N .u32 0),(N .u32 0),(N .u32 0),(N .u32 0),(N .u32 0),(N .u32 0),(N .u32 0),(N .u32 0),(N .u32 0),(N .u32 0),(N .u32 0),(N .u32 0),(N .u32 0),(N .u32 0),(N .u32 0),(N .u32 0),(N .u32 0),(N .u32 0),(N .u32 0),(N .u32 0),(N .u32 0),(N .u32 0),(N .u32 0),(N .u32 0),(N .u32 0),(N .u32 0),(N .u32 0),(N .u32 0),(N .u32 0),(N .u32 0),(N .u32 0),(N .u32 0),(N .u32 0),(N .u32 0),(N .u32 0),(N .u32 0),(N .u32 0),(N .u32 0),(N .u32 0),(N .u32 0),(N .u32 0),(N .u32 0),(N .u32 0),(N .u32 0),(N .u32 0),(N .u32 0),(N .u32 0),(N .u32 0)] false p1 0) (fun vc=>.ptr vc 0) M0 fun i vg=>bz (fun vn j m=>af .lss (ag j 0) (N .i64 16) fun xz=>au xz ( af .mul (N .i64 4) (ag j 0) fun x0=>bg a1 x0 1 fun x1=>ak m x1 fun x2=>oh .u32 x2 fun x3=>oH .shl x3 (N .u64 24) fun x4=>af .mul (N .i64 4) (ag j 0) fun x5=>af .add x5 (N .i64 1) fun x6=>bg a1 x6 1 fun x7=>ak m x7 fun x8=>oh .u32 x8 fun x9=>oH .shl x9 (N .u64 16) fun ya=>af .or x4 ya fun yb=>af .mul (N .i64 4) (ag j 0) fun yc=>af .add yc (N .i64 2) fun yd=>bg a1 yd 1 fun ye=>ak m ye fun yf=>oh .u32 yf fun yg=>oH .shl yg (N .u64 8) fun yh=>af .or yb yh fun yi=>af .mul (N .i64 4) (ag j 0) fun yj=>af .add yj (N .i64 3) fun yk=>bg a1 yk 1 fun yl=>ak m yl fun ym=>oh .u32 ym fun yn=>af .or yi yn fun yo=>dJ i (ag j 0) 64 1 fun yp=>aA m yp yo 1 fun vh=>af .add (ag j 0) (N .i64 1) fun yq=>vn [yq] vh) ( bz (fun vo l h=>af .lss (ag l 0) (N .i64 64) fun yr=>au yr ( af .sub (ag l 0) (N .i64 15) fun yt=>dJ i yt 64 1 fun yu=>ak h yu fun vd=>af .sub (ag l 0) (N .i64 2) fun yv=>dJ i yv 64 1 fun yw=>ak h yw fun ve=>af .sub (ag l 0) (N .i64 16) fun yx=>dJ i yx 64 1 fun t=>ak h t fun u=>oH .shr vd (N .u64 3) fun y5=>af .sub (ag l 0) (N .i64 7) fun y8=>dJ i y8 64 1 fun v=>ak h v fun w=>oH .shr ve (N .u64 10) fun zh=>p2 [vd,(N .i64 7)] h fun y2 X=>ak X t fun y1=>(y1=u∧ak X v fun zc=>(zc=w∧p2 [vd,(N .i64 18)] X fun y3 Z=>ak Z t fun y0=>(y0=u∧ak Z v fun zb=>(zb=w∧af .xor y2 y3 fun y4=>af .xor y4 y5 fun y6=>af .add u y6 fun y7=>af .add y7 w fun zd=>p2 [ve,(N .i64 17)] Z fun ze va=>ak va t fun yz=>(yz=u∧ak va v fun za=>(za=w∧p2 [ve,(N .i64 19)] va fun zf vb=>ak vb t fun yy=>(yy=u∧ak vb v fun y9=>(y9=w∧af .xor ze zf fun zg=>af .xor zg zh fun zi=>af .add zd zi fun zj=>dJ i (ag l 0) 64 1 fun zk=>aA vb zk zj 1 fun vm=>af .add (ag l 0) (N .i64 1) fun ys=>vo [ys] vm))))))))) ( mE a0 fun vr=>aI h vr 8 fun vs=>aU (.row [(N .u32 0),(N .u32 0),(N .u32 0),(N .u32 0),(N .u32 0),(N .u32 0),(N .u32 0),(N .u32 0)] false p3 0) (fun vc=>.ptr vc 0) h fun c vi=>aA vi c vs 8 fun vj=>bz (fun vp W d=>af .lss (ag W 0) (N .i64 64) fun vt=>au vt ( dJ c (N .i64 4) 8 1 fun vu=>ak d vu fun p=>dJ c (N .i64 0) 8 1 fun vv=>ak d vv fun q=>dJ c (N .i64 7) 8 1 fun y=>ak d y fun z=>dJ c (N .i64 5) 8 1 fun A=>ak d A fun B=>af .and p B fun v8=>ER p fun v9=>dJ c (N .i64 6) 8 1 fun C=>ak d C fun D=>af .and v9 D fun wd=>af .xor v8 wd fun we=>mE a2 fun wg=>dJ wg (ag W 0) 64 1 fun E=>ak d E fun F=>dJ i (ag W 0) 64 1 fun G=>ak d G fun H=>p2 [p,(N .i64 6)] d fun vz n=>ak n y fun vy=>(vy=z∧ak n A fun v7=>(v7=B∧ak n C fun wc=>(wc=D∧ak n E fun wj=>(wj=F∧ak n G fun wn=>(wn=H∧p2 [p,(N .i64 11)] n fun v0 o=>ak o y fun vx=>(vx=z∧ak o A fun v6=>(v6=B∧ak o C fun wb=>(wb=D∧ak o E fun wi=>(wi=F∧ak o G fun wm=>(wm=H∧af .xor vz v0 fun v1=>p2 [p,(N .i64 25)] o fun v2 e=>ak e y fun vw=>(vw=z∧ak e A fun v5=>(v5=B∧ak e C fun wa=>(wa=D∧ak e E fun wh=>(wh=F∧ak e G fun wl=>(wl=H∧af .xor v1 v2 fun v3=>af .add z v3 fun v4=>af .add v4 we fun wf=>af .add wf F fun wk=>af .add wk H fun vf=>dJ c (N .i64 1) 8 1 fun I=>ak e I fun L=>af .and q L fun ww=>dJ c (N .i64 2) 8 1 fun O=>ak e O fun P=>af .and q P fun w0=>af .xor ww w0 fun w1=>dJ c (N .i64 1) 8 1 fun R=>ak e R fun S=>dJ c (N .i64 2) 8 1 fun U=>ak e U fun V=>af .and S V fun w8=>af .xor w1 w8 fun w9=>p2 [q,(N .i64 2)] e fun wo r=>ak r I fun wv=>(wv=L∧ak r O fun wz=>(wz=P∧ak r R fun w4=>(w4=S∧ak r U fun w7=>(w7=V∧p2 [q,(N .i64 13)] r fun wp s=>ak s I fun wu=>(wu=L∧ak s O fun wy=>(wy=P∧ak s R fun w3=>(w3=S∧ak s U fun w6=>(w6=V∧af .xor wo wp fun wq=>p2 [q,(N .i64 22)] s fun wr g=>ak g I fun wt=>(wt=L∧ak g O fun wx=>(wx=P∧ak g R fun w2=>(w2=S∧ak g U fun w5=>(w5=V∧af .xor wq wr fun ws=>af .add ws w9 fun xa=>af .add vf xa fun xb=>dJ c (N .i64 1) 8 1 fun xc=>ak g xc fun xd=>dJ c (N .i64 2) 8 1 fun xe=>ak g xe fun xf=>dJ c (N .i64 3) 8 1 fun xg=>ak g xg fun xh=>af .add xh vf fun xi=>dJ c (N .i64 5) 8 1 fun xj=>ak g xj fun xk=>dJ c (N .i64 6) 8 1 fun xl=>ak g xl fun xm=>dB [(N .u32 0),(N .u32 0),(N .u32 0),(N .u32 0),(N .u32 0),(N .u32 0),(N .u32 0),(N .u32 0)] [(0,1,xb),(1,1,q),(2,1,xd),(3,1,xf),(4,1,xi),(5,1,p),(6,1,xk),(7,1,xm)] fun xn=>aA g c xn 8 fun vk=>af .add (ag W 0) (N .i64 1) fun xo=>vp [xo] vk)))))))))))))))))))))))))))) ( aI d c 8 fun xp=>bz (fun vq x Y=>af .lss (ag x 0) (N .i64 8) fun xq=>au xq ( En xp (ag x 0) 8 fun xr=>mE a0 fun xs=>dJ xs (ag x 0) 8 1 fun xt=>ak Y xt fun xu=>af .add xu xr fun xv=>mE a0 fun xw=>dJ xw (ag x 0) 8 1 fun xx=>aA Y xx xv 1 fun vl=>af .add (ag x 0) (N .i64 1) fun xy=>vq [xy] vl) ( Q (.tup []) Y)) [(N .i64 0)] d)) [(N .i64 0)] vj)) [(N .i64 16)] m)) [(N .i64 0)] vg
def xX (p1:aj) (a0 a1:AV) (M0:RM) (Q:ai) : Prop:=NY a1 fun d=>p1 [a0,d] M0 fun e c=>Q e c
def iM (a0 a1:AV) (M0:RM) (Q:ai) : Prop:=oh .u64 a1 fun i=>af .and i (N .u64 31) fun c=>oH .shl a0 c fun d=>af .sub (N .u64 32) c fun e=>oH .shr a0 e fun g=>af .or d g fun h=>Q h M0
set_option maxRecDepth 10000
def fw:Enc Int:=⟨1,fun n=>[N .u32 n],fun _=>rfl,fun _=>rfl⟩
theorem pq (xs:List Int) : fw.row xs=xs.map (N .u32):=by
 induction xs with
 | nil=>rfl
 | cons x xs ih=>rw[Enc.jw,ih]; rfl
theorem ja (xs:List Int) : (fw.row xs).length=xs.length:=by rw[pq,List.length_map]
def gF (a b:Int) : Int:=IntKind.u32.wrap (a + b)
def nz (x n:Int) : Int:=EX .u32 (tu .u32 x n) (JP .u32 x (32 - n))
def Jg (a b c:Int) : Int:=zW .u32 (zW .u32 a b) c
def WC (x:Int) : Int:=Jg (nz x 7) (nz x 18) (tu .u32 x 3)
def Xa (x:Int) : Int:=Jg (nz x 17) (nz x 19) (tu .u32 x 10)
def Xj (x:Int) : Int:=zW .u32 4294967295 x
def Wu (e f g:Int) : Int:=zW .u32 (xK .u32 e f) (xK .u32 (Xj e) g)
def WY (a b c:Int) : Int:=zW .u32 (zW .u32 (xK .u32 a b) (xK .u32 a c)) (xK .u32 b c)
def QY (b:Str) (i:Nat) : Int:=EX .u32 (EX .u32 (EX .u32 (JP .u32 (IntKind.u32.wrap ((b.getD (4 * i) 0).toNat:Int)) 24) (JP .u32 (IntKind.u32.wrap ((b.getD (4 * i + 1) 0).toNat:Int)) 16)) (JP .u32 (IntKind.u32.wrap ((b.getD (4 * i + 2) 0).toNat:Int)) 8)) (IntKind.u32.wrap ((b.getD (4 * i + 3) 0).toNat:Int))
def Nz (l:List Int) (i:Nat) : Int:=gF (gF (gF (l.getD (i - 16) 0) (WC (l.getD (i - 15) 0))) (l.getD (i - 7) 0)) (Xa (l.getD (i - 2) 0))
def sched (b:Str) : Nat→List Int
 | 0=>[]
 | i + 1=>sched b i++[if i<16 then QY b i else Nz (sched b i) i]
theorem nD (b:Str) : ∀ i,(sched b i).length=i
 | 0=>rfl
 | i + 1=>by rw[sched,List.length_append,nD b i]; rfl
def Ut (v:List Int) (k w:Int) : List Int:=match v with
 | [a,b,c,d,e,f,g,h] =>
   [gF (gF (gF (gF (gF h (Jg (nz e 6) (nz e 11) (nz e 25))) (Wu e f g)) k) w) (gF (Jg (nz a 2) (nz a 13) (nz a 22)) (WY a b c)),a,b,c,
    gF d (gF (gF (gF (gF h (Jg (nz e 6) (nz e 11) (nz e 25))) (Wu e f g)) k) w),e,f,g]
 | _=>v
def yD (k w:List Int) (h:List Int) : Nat→List Int
 | 0=>h
 | i + 1=>Ut (yD k w h i) (k.getD i 0) (w.getD i 0)
theorem eight {l:List Int} (h:l.length=8) : ∃ a b c d e f g i,l=[a,b,c,d,e,f,g,i]:=by
 rcases l with _ | ⟨a,_ | ⟨b,_ | ⟨c,_ | ⟨d,_ | ⟨e,_ | ⟨f,_ | ⟨g,_ | ⟨i,_ | ⟨j,l⟩⟩⟩⟩⟩⟩⟩⟩⟩ <;> first | (simp at h; done) | exact⟨_,_,_,_,_,_,_,_,rfl⟩ | (simp at h; omega)
theorem Td {v:List Int} (h:v.length=8) (k w:Int) : (Ut v k w).length=8:=by
 obtain⟨a,b,c,d,e,f,g,i,rfl⟩:=eight h
 rfl
theorem CV (k w:List Int) {h:List Int} (hl:h.length=8) : ∀ i,(yD k w h i).length=8
 | 0=>hl
 | i + 1=>Td (CV k w hl i) _ _
def qd (h k:List Int) (b:Str) : List Int:=List.zipWith gF h (yD k (sched b 64) h 64)
theorem MP {h:List Int} (k:List Int) (b:Str) (hl:h.length=8) : (qd h k b).length=8:=by
 unfold qd; rw[List.length_zipWith,CV k _ hl,hl]; rfl
section
variable {M:RM} {b T:Nat} {ws:List Int}
theorem sw (h:M.heap b=some (.row (fw.row ws) false T 0)) {i:Nat} (hi:i<ws.length) {K:AV→Prop} : ak M (.ptr b i) K=K (N .u32 (ws.getD i 0)):=by
 refine az h ?_
 rw[pq,List.getElem?_map,List.getElem?_eq_getElem hi]
 simp[List.getD,hi]
theorem Ae (h:M.heap b=some (.row (fw.row ws) false T 0)) {i:Nat} (hi:i<ws.length) (x:Int) {K:RM→Prop} : aA M (.ptr b i) (N .u32 x) 1 K=K (M.put b (.row (fw.row (ws.set i x)) false T 0)):=by
 refine bK _ h (by rw[ja]; exact hi) rfl rfl ?_
 rw[pq,pq,List.map_set]
theorem iI {k:IntKind} {j:Int} {i len:Nat} (hj:j=(i:Int)) (hi:i<len) {K:AV→Prop} : dJ (.ptr b 0) (N k j) len 1 K=K (.ptr b i):=by
 subst hj
 rw[Qo]
 simp only[Int.toNat_natCast,Nat.mul_one,Nat.zero_add]
 exact propext ⟨fun h=>h.2.2,fun h=>⟨by omega,by omega,h⟩⟩
end
theorem set_mid {l:List Int} {n:Nat} {x z:Int} (hn:0<n) : (l++List.replicate n z).set l.length x=(l++[x])++List.replicate (n - 1) z:=by
 obtain⟨m,rfl⟩ : ∃ m,n=m + 1:=⟨n - 1,by omega⟩
 rw[List.replicate_succ,List.set_append_right _ _ (Nat.le_refl _),Nat.sub_self]
 simp
theorem Ov {l r:List Int} {i:Nat} (h:i<l.length) : (l++r).getD i 0=l.getD i 0:=by simp[List.getD,List.getElem?_append_left h]
theorem Hq (b:Str) {i:Nat} (hi:i<64) : (sched b i++List.replicate (64 - i) 0).set i (if i<16 then QY b i else Nz (sched b i) i)=sched b (i + 1)++List.replicate (64 - (i + 1)) 0:=by
 have:=set_mid (l:=sched b i) (n:=64 - i) (x:=if i<16 then QY b i else Nz (sched b i) i) (z:=0) (by omega)
 rw[nD] at this
 rw[this,sched]
 congr 2
def turns:List Int:=[2,6,7,11,13,17,18,19,22,25]
def Nk (kd:IntKind) (c:aj) : Prop:=∀ {M:RM} {x n:Int} {Q:ai},n∈turns→Q (N .u32 (nz x n)) M→c [N .u32 x,N kd n] M Q
def Qq (c:aj) : Prop:=∀ {M:RM} {x n:Int} {Q:ai},n∈turns→Q (N .u32 (nz x n)) M→c [N .u32 x,N .i64 (IntKind.i64.wrap (0 - n))] M Q
theorem P8:∀ n∈turns,xK .u64 (IntKind.u64.wrap (IntKind.i64.wrap (0 - n))) 31=32 - n:=by decide +kernel
theorem OO:∀ n∈turns,IntKind.u64.wrap (32 - (32 - n))=n∧IntKind.u64.wrap (32 - n)=32 - n∧0≤n∧0≤32 - n:=by decide +kernel
theorem Ro (k:IntKind) (a b:Int) : EX k a b=EX k b a:=by unfold EX; rw[BitVec.or_comm]
theorem QQ:Qq fun args M Q=>∃ a0 a1,args=[a0,a1]∧iM a0 a1 M Q:=by
 intro M x n Q hn hQ
 refine⟨_,_,rfl, ?_⟩
 unfold iM
 obtain⟨h1,h2,h3,h4⟩:=OO n hn
 rw[qg,kE,P8 n hn,Bz]
 refine⟨h4, ?_⟩
 rw[lN,h1,rO]
 refine⟨h3, ?_⟩
 rw[iZ,Ro]
 exact hQ
theorem PN {c:aj} (hc:Qq c) : Nk .i64 fun args M Q=>∃ a0 a1,args=[a0,a1]∧xX c a0 a1 M Q:=by
 intro M x n Q hn hQ
 refine⟨_,_,rfl, ?_⟩
 unfold xX
 rw[U9]
 exact hc hn hQ
end Go.Ab.Sha
namespace Go.Ab.Sha
open Go Go.Ab Go.Ab.Sm
theorem Ms {i:Nat} (hi:i<1000) {K:AV→Prop} : af .mul (N .i64 4) (N .i64 (i:Int)) K=K (N .i64 ((4 * i:Nat) : Int)):=by
 rw[sI,eD (by omega) (by omega)]; rfl
theorem oW {i:Nat} (j:Nat) (hi:i<1000000000) (hj:j<1000) {K:AV→Prop} {n:Int} (hn:n=(j:Int)) : af .add (N .i64 (i:Int)) (N .i64 n) K=K (N .i64 ((i + j:Nat) : Int)):=by
 subst hn; exact addN (by omega)
theorem NS {i:Nat} (j:Nat) (hi:i<1000000000) (hj:j≤i) {K:AV→Prop} {n:Int} (hn:n=(j:Int)) : af .sub (N .i64 (i:Int)) (N .i64 n) K=K (N .i64 ((i - j:Nat) : Int)):=by
 subst hn; exact UQ hj (by omega)
theorem Dp {i:Nat} (j:Nat) {K:AV→Prop} {n:Int} (hn:n=(j:Int)) : af .lss (N .i64 (i:Int)) (N .i64 n) K=K (Bo (decide (i<j))):=by
 subst hn; exact kU
theorem Bs.IC {M:RM} {v:AV} {b:Str} (h:Bs M v b) {i:Nat} (hi:i<b.length) {K:AV→Prop} : (bg v (N .i64 (i:Int)) 1 fun t=>ak M t K)=K (By (b.getD i 0)):=by
 rw[h.read hi]; simp[List.getD,hi]
theorem QZ {h v:List Int} {j:Nat} (hj:j<8) (hh:h.length=8) (hv:v.length=8) :
  ((List.zipWith gF h v).take j++h.drop j).set j (gF (h.getD j 0) (v.getD j 0))=(List.zipWith gF h v).take (j + 1)++h.drop (j + 1):=by
 have hz:(List.zipWith gF h v).length=8:=by rw[List.length_zipWith,hh,hv]; rfl
 have h1:((List.zipWith gF h v).take j).length=j:=by rw[List.length_take]; omega
 have h2:h.drop j=h[j] :: h.drop (j + 1):=List.drop_eq_getElem_cons (by omega)
 rw[h2,List.set_append_right _ _ (by omega),h1,Nat.sub_self,List.set_cons_zero,List.take_succ_eq_append_getElem (by omega),List.append_assoc]
 congr 1
 rw[List.getElem_zipWith]
 simp[List.getD,show j<h.length by omega,show j<v.length by omega]
theorem SX {h v:List Int} {j:Nat} (hj:j<8) (hh:h.length=8) (hv:v.length=8) : ((List.zipWith gF h v).take j++h.drop j).getD j 0=h.getD j 0:=by
 have hz:(List.zipWith gF h v).length=8:=by rw[List.length_zipWith,hh,hv]; rfl
 have h1:((List.zipWith gF h v).take j).length=j:=by rw[List.length_take]; omega
 simp[List.getD,List.getElem?_append_right (show((List.zipWith gF h v).take j).length≤j by omega),h1]
theorem Ta {h v:List Int} {j:Nat} (hj:j≤8) (hh:h.length=8) (hv:v.length=8) : ((List.zipWith gF h v).take j++h.drop j).length=8:=by
 rw[List.length_append,List.length_take,List.length_drop,List.length_zipWith,hh,hv]; omega
theorem mf {cs:List AV} {rest:List (Nat × Nat × AV)} {off:Nat} {k:IntKind} {n:Int} (h:off<cs.length) : kZ cs ((off,1,N k n) :: rest)=kZ (cs.set off (N k n)) rest:=by
 rw[kZ,if_pos ⟨rfl,rfl,by omega⟩,List.set_eq_take_append_cons_drop,if_pos h,List.append_assoc]
 rfl
theorem VC {a b c d e f g h:Int} : kZ [N .u32 0,N .u32 0,N .u32 0,N .u32 0,N .u32 0,N .u32 0,N .u32 0,N .u32 0] [(0,1,N .u32 a),(1,1,N .u32 b),(2,1,N .u32 c),(3,1,N .u32 d),(4,1,N .u32 e),(5,1,N .u32 f),(6,1,N .u32 g),(7,1,N .u32 h)]=some (fw.row [a,b,c,d,e,f,g,h]):=by
 rw[mf (by decide)]
 simp only[List.set]
 rw[mf (by simp)]
 simp only[List.set]
 rw[mf (by simp)]
 simp only[List.set]
 rw[mf (by simp)]
 simp only[List.set]
 rw[mf (by simp)]
 simp only[List.set]
 rw[mf (by simp)]
 simp only[List.set]
 rw[mf (by simp)]
 simp only[List.set]
 rw[mf (by simp)]
 simp only[List.set]
 rfl
def Nr (TK TS:Nat) (c:aj) : Prop:=∀ {M:RM} {sb kb:Nat} {bv:AV} {h k:List Int} {b:Str} {Q:ai},M.heap sb=some (.row (fw.row h) false TS 0)→sb<M.next→h.length=8 →
 M.heap kb=some (.row (fw.row k) false TK 0)→kb<M.next→kb≠sb→k.length=64→Bs M bv b→b.length=64 →
 (∀ M',ae [sb] M M'→M'.heap sb=some (.row (fw.row (qd h k b)) false TS 0)→Q (.tup []) M')→c [.ptr sb 0,bv,.ptr kb 0] M Q
theorem Pz {TK TS:Nat} {ct:aj} (ht:Nk .i64 ct) : Nr TK TS fun args M Q=>∃ a0 a1 a2,args=[a0,a1,a2]∧nC TK ct TS a0 a1 a2 M Q:=by
 intro M sb kb bv h k b Q hs hsl hhl hk hkl hks hkn hb hbl hQ
 refine⟨_,_,_,rfl, ?_⟩
 unfold nC
 rw[aF]
 have k0:ae [] M (M.push (.row (fw.row (List.replicate 64 0)) false TK 0)):=(ae.refl _ _).push _
 have n0:(M.push (.row (fw.row (List.replicate 64 0)) false TK 0)).heap M.next=some (.row (fw.row (sched b 0++List.replicate (64 - 0) 0)) false TK 0):=by simp[RM.push,sched]
 have l0:M.next<(M.push (.row (fw.row (List.replicate 64 0)) false TK 0)).next:=by simp[RM.push]
 show bz _ _ (M.push (.row (fw.row (List.replicate 64 0)) false TK 0))
 generalize M.push (.row (fw.row (List.replicate 64 0)) false TK 0)=M0 at *
 refine aR (fun m ys M3=>∃ i:Nat,m=16 - i∧ys=[N .i64 (i:Int)]∧i≤16∧ae [] M M3∧M.next<M3.next∧M3.heap M.next=some (.row (fw.row (sched b i++List.replicate (64 - i) 0)) false TK 0)) _
  ⟨0,rfl,rfl,by omega,k0,l0,n0⟩ ?_
 rintro next m ys M3 hnext ⟨i,rfl,rfl,hi,k3,l3,n3⟩
 simp only[iF]
 rw[Dp 16 (by rfl)]
 have hb3:=hb.keep k3 (by simp)
 refine bi (fun hc=>?_) fun hc=>?_
 ·have Qr:i<16:=of_decide_eq_true hc
  rw[Ms (by omega),hb3.IC (by omega),By,qg,Bz]
  refine⟨by decide, ?_⟩
  rw[Ms (by omega),oW 1 (by omega) (by omega) (by rfl),hb3.IC (by omega),By,qg,Bz]
  refine⟨by decide, ?_⟩
  rw[iZ,Ms (by omega),oW 2 (by omega) (by omega) (by rfl),hb3.IC (by omega),By,qg,Bz]
  refine⟨by decide, ?_⟩
  rw[iZ,Ms (by omega),oW 3 (by omega) (by omega) (by rfl),hb3.IC (by omega),By,qg,iZ,iI rfl (by omega)]
  have e:=Hq b (i:=i) (by omega)
  rw[if_pos Qr] at e
  have hlen:(sched b i++List.replicate (64 - i) 0).length=64:=by rw[List.length_append,nD,List.length_replicate]; omega
  rw[Ae n3 (by omega),oW 1 (by omega) (by omega) (by rfl)]
  refine hnext _ _ _ (by omega) ⟨i + 1,rfl,rfl,by omega,k3.new _ (Nat.le_refl _),l3, ?_⟩
  rw[ay,← e]
  rfl
 have Qr:i=16:=by have:=of_decide_eq_false hc; omega
 subst Qr
 clear hnext
 refine aR (fun m ys M4=>∃ i:Nat,m=64 - i∧ys=[N .i64 (i:Int)]∧16≤i∧i≤64∧ae [] M M4∧M.next<M4.next∧M4.heap M.next=some (.row (fw.row (sched b i++List.replicate (64 - i) 0)) false TK 0)) _
  ⟨16,rfl,rfl,by omega,by omega,k3,l3,n3⟩ ?_
 rintro next m ys M4 hnext ⟨i,rfl,rfl,hi0,hi,k4,l4,n4⟩
 simp only[iF]
 rw[Dp 64 (by rfl)]
 refine bi (fun hc=>?_) fun hc=>?_
 ·have Dy:i<64:=of_decide_eq_true hc
  have hlen:(sched b i++List.replicate (64 - i) 0).length=64:=by rw[List.length_append,nD,List.length_replicate]; omega
  have ld:∀ (j:Nat),j<i→∀ {K:AV→Prop},ak M4 (.ptr M.next j) K=K (N .u32 ((sched b i).getD j 0)):=fun j hj K=>by
   rw[sw n4 (by omega),Ov (by rw[nD]; exact hj)]
  have L15:∀ {K:AV→Prop},ak M4 (.ptr M.next (i - 15)) K=K (N .u32 ((sched b i).getD (i - 15) 0)):=ld _ (by omega)
  have L2:∀ {K:AV→Prop},ak M4 (.ptr M.next (i - 2)) K=K (N .u32 ((sched b i).getD (i - 2) 0)):=ld _ (by omega)
  have L16:∀ {K:AV→Prop},ak M4 (.ptr M.next (i - 16)) K=K (N .u32 ((sched b i).getD (i - 16) 0)):=ld _ (by omega)
  have L7:∀ {K:AV→Prop},ak M4 (.ptr M.next (i - 7)) K=K (N .u32 ((sched b i).getD (i - 7) 0)):=ld _ (by omega)
  rw[NS 15 (by omega) (by omega) (by rfl),iI rfl (by omega),L15,NS 2 (by omega) (by omega) (by rfl),iI rfl (by omega),L2,NS 16 (by omega) (by omega) (by rfl),iI rfl (by omega),L16,rO]
  refine⟨by decide, ?_⟩
  rw[NS 7 (by omega) (by omega) (by rfl),iI rfl (by omega),L7,rO]
  refine⟨by decide, ?_⟩
  refine ht (by decide) ?_
  rw[L16]; refine⟨rfl, ?_⟩
  rw[L7]; refine⟨rfl, ?_⟩
  refine ht (by decide) ?_
  rw[L16]; refine⟨rfl, ?_⟩
  rw[L7]; refine⟨rfl, ?_⟩
  rw[iL,iL,ed,ed]
  refine ht (by decide) ?_
  rw[L16]; refine⟨rfl, ?_⟩
  rw[L7]; refine⟨rfl, ?_⟩
  refine ht (by decide) ?_
  rw[L16]; refine⟨rfl, ?_⟩
  rw[L7]; refine⟨rfl, ?_⟩
  rw[iL,iL,ed,iI rfl (by omega)]
  have e:=Hq b (i:=i) (by omega)
  rw[if_neg (by omega)] at e
  rw[Ae n4 (by omega),oW 1 (by omega) (by omega) (by rfl)]
  refine hnext _ _ _ (by omega) ⟨i + 1,rfl,rfl,by omega,by omega,k4.new _ (Nat.le_refl _),l4, ?_⟩
  rw[ay,← e]
  rfl
 have Dy:i=64:=by have:=of_decide_eq_false hc; omega
 subst Dy
 clear hnext
 rw[Nat.sub_self,List.replicate_zero,List.append_nil] at n4
 have hwl:=nD b 64
 generalize hwe:sched b 64=w at *
 have hs4:=k4.ax hs hsl (by simp)
 have hk4:=k4.ax hk hkl (by simp)
 rw[jr,aM hs4 (by rw[ja,hhl]),aF]
 have n5:(M4.push (.row [N .u32 0,N .u32 0,N .u32 0,N .u32 0,N .u32 0,N .u32 0,N .u32 0,N .u32 0] false TS 0)).heap M4.next=some (.row [N .u32 0,N .u32 0,N .u32 0,N .u32 0,N .u32 0,N .u32 0,N .u32 0,N .u32 0] false TS 0):=by simp[RM.push]
 rw[Ac n5 (by rw[ja,hhl]) (by rfl) (fw.jR h)]
 have k5:ae [] M4 ((M4.push (.row [N .u32 0,N .u32 0,N .u32 0,N .u32 0,N .u32 0,N .u32 0,N .u32 0,N .u32 0] false TS 0)).put M4.next (.row (fw.row h) false TS 0)):=((ae.refl _ _).push _).new _ (Nat.le_refl _)
 have n5' : ((M4.push (.row [N .u32 0,N .u32 0,N .u32 0,N .u32 0,N .u32 0,N .u32 0,N .u32 0,N .u32 0] false TS 0)).put M4.next (.row (fw.row h) false TS 0)).heap M4.next=some (.row (fw.row (yD k w h 0)) false TS 0):=ay _
 have l5:M4.next<((M4.push (.row [N .u32 0,N .u32 0,N .u32 0,N .u32 0,N .u32 0,N .u32 0,N .u32 0,N .u32 0] false TS 0)).put M4.next (.row (fw.row h) false TS 0)).next:=by simp[RM.push,RM.put]
 generalize (M4.push (.row [N .u32 0,N .u32 0,N .u32 0,N .u32 0,N .u32 0,N .u32 0,N .u32 0,N .u32 0] false TS 0)).put M4.next (.row (fw.row h) false TS 0)=M5 at *
 refine aR (fun m ys M6=>∃ i:Nat,m=64 - i∧ys=[N .i64 (i:Int)]∧i≤64∧ae [] M4 M6∧M4.next<M6.next∧M6.heap M4.next=some (.row (fw.row (yD k w h i)) false TS 0)) _
  ⟨0,rfl,rfl,by omega,k5,l5,n5'⟩ ?_
 rintro next m ys M6 hnext ⟨i,rfl,rfl,hi,k6,l6,n6⟩
 simp only[iF]
 rw[Dp 64 (by rfl)]
 have hs6:=k6.ax hs4 (Nat.lt_of_lt_of_le hsl k4.next) (by simp)
 have hk6:=k6.ax hk4 (Nat.lt_of_lt_of_le hkl k4.next) (by simp)
 have n46:=k6.ax n4 l4 (by simp)
 have hrl:=CV k w hhl i
 refine bi (fun hc=>?_) fun hc=>?_
 ·have Dy:i<64:=of_decide_eq_true hc
  have hstep:yD k w h (i + 1)=Ut (yD k w h i) (k.getD i 0) (w.getD i 0):=rfl
  obtain⟨va,vb,vc,vd,ve,vf,vg,vh,hv⟩:=eight hrl
  rw[hv] at n6 hstep
  have hrow:fw.row [va,vb,vc,vd,ve,vf,vg,vh]=[N .u32 va,N .u32 vb,N .u32 vc,N .u32 vd,N .u32 ve,N .u32 vf,N .u32 vg,N .u32 vh]:=rfl
  rw[hrow] at n6
  have I:∀ (j:Nat),j<8→∀ {K:AV→Prop},dJ (.ptr M4.next 0) (N .i64 (j:Int)) 8 1 K=K (.ptr M4.next j):=fun j hj K=>iI rfl hj
  have I0:∀ {K:AV→Prop},dJ (.ptr M4.next 0) (N .i64 0) 8 1 K=K (.ptr M4.next 0):=I 0 (by omega)
  have I1:∀ {K:AV→Prop},dJ (.ptr M4.next 0) (N .i64 1) 8 1 K=K (.ptr M4.next 1):=I 1 (by omega)
  have I2:∀ {K:AV→Prop},dJ (.ptr M4.next 0) (N .i64 2) 8 1 K=K (.ptr M4.next 2):=I 2 (by omega)
  have I3:∀ {K:AV→Prop},dJ (.ptr M4.next 0) (N .i64 3) 8 1 K=K (.ptr M4.next 3):=I 3 (by omega)
  have I4:∀ {K:AV→Prop},dJ (.ptr M4.next 0) (N .i64 4) 8 1 K=K (.ptr M4.next 4):=I 4 (by omega)
  have I5:∀ {K:AV→Prop},dJ (.ptr M4.next 0) (N .i64 5) 8 1 K=K (.ptr M4.next 5):=I 5 (by omega)
  have I6:∀ {K:AV→Prop},dJ (.ptr M4.next 0) (N .i64 6) 8 1 K=K (.ptr M4.next 6):=I 6 (by omega)
  have I7:∀ {K:AV→Prop},dJ (.ptr M4.next 0) (N .i64 7) 8 1 K=K (.ptr M4.next 7):=I 7 (by omega)
  have L0:∀ {K:AV→Prop},ak M6 (.ptr M4.next 0) K=K (N .u32 va):=az n6 rfl
  have L1:∀ {K:AV→Prop},ak M6 (.ptr M4.next 1) K=K (N .u32 vb):=az n6 rfl
  have L2:∀ {K:AV→Prop},ak M6 (.ptr M4.next 2) K=K (N .u32 vc):=az n6 rfl
  have L3:∀ {K:AV→Prop},ak M6 (.ptr M4.next 3) K=K (N .u32 vd):=az n6 rfl
  have L4:∀ {K:AV→Prop},ak M6 (.ptr M4.next 4) K=K (N .u32 ve):=az n6 rfl
  have L5:∀ {K:AV→Prop},ak M6 (.ptr M4.next 5) K=K (N .u32 vf):=az n6 rfl
  have L6:∀ {K:AV→Prop},ak M6 (.ptr M4.next 6) K=K (N .u32 vg):=az n6 rfl
  have L7:∀ {K:AV→Prop},ak M6 (.ptr M4.next 7) K=K (N .u32 vh):=az n6 rfl
  have Ik:∀ {K:AV→Prop},dJ (.ptr kb 0) (N .i64 (i:Int)) 64 1 K=K (.ptr kb i):=iI rfl Dy
  have Iw:∀ {K:AV→Prop},dJ (.ptr M.next 0) (N .i64 (i:Int)) 64 1 K=K (.ptr M.next i):=iI rfl Dy
  have Lk:∀ {K:AV→Prop},ak M6 (.ptr kb i) K=K (N .u32 (k.getD i 0)):=sw hk6 (by omega)
  have Lw:∀ {K:AV→Prop},ak M6 (.ptr M.next i) K=K (N .u32 (w.getD i 0)):=sw n46 (by omega)
  simp only[I0,I1,I2,I3,I4,I5,I6,I7,L0,L1,L2,L3,L4,L5,L6,L7,jr,Ik,Iw,Lk,Lw,kE,iZ,iL,ed,nu,true_and]
  refine ht (by decide) ?_
  simp only[I0,I1,I2,I3,I4,I5,I6,I7,L0,L1,L2,L3,L4,L5,L6,L7,jr,Ik,Iw,Lk,Lw,kE,iZ,iL,ed,nu,true_and]
  refine ht (by decide) ?_
  simp only[I0,I1,I2,I3,I4,I5,I6,I7,L0,L1,L2,L3,L4,L5,L6,L7,jr,Ik,Iw,Lk,Lw,kE,iZ,iL,ed,nu,true_and]
  refine ht (by decide) ?_
  simp only[I0,I1,I2,I3,I4,I5,I6,I7,L0,L1,L2,L3,L4,L5,L6,L7,jr,Ik,Iw,Lk,Lw,kE,iZ,iL,ed,nu,true_and]
  refine ht (by decide) ?_
  simp only[I0,I1,I2,I3,I4,I5,I6,I7,L0,L1,L2,L3,L4,L5,L6,L7,jr,Ik,Iw,Lk,Lw,kE,iZ,iL,ed,nu,true_and]
  refine ht (by decide) ?_
  simp only[I0,I1,I2,I3,I4,I5,I6,I7,L0,L1,L2,L3,L4,L5,L6,L7,jr,Ik,Iw,Lk,Lw,kE,iZ,iL,ed,nu,true_and]
  refine ht (by decide) ?_
  simp only[I0,I1,I2,I3,I4,I5,I6,I7,L0,L1,L2,L3,L4,L5,L6,L7,jr,Ik,Iw,Lk,Lw,kE,iZ,iL,ed,nu,true_and]
  rw[iG]
  refine⟨_,VC, ?_⟩
  rw[Ac n6 (by rw[ja]; rfl) (by rfl) (fw.jR _),show(IntKind.i64.wrap ((i:Int) + 1))=((i + 1:Nat) : Int) from lG (by omega)]
  refine hnext _ _ _ (by omega) ⟨i + 1,rfl,rfl,by omega,k6.new _ (Nat.le_refl _),l6, ?_⟩
  rw[ay,hstep]
  rfl
 have Dy:i=64:=by have:=of_decide_eq_false hc; omega
 subst Dy
 clear hnext
 have hbf:qd h k b=List.zipWith gF h (yD k w h 64):=by
  unfold qd
  rw[hwe]
 rw[hbf] at hQ
 generalize yD k w h 64=v at *
 rw[aM n6 (by rw[ja,hrl])]
 have k46:=k4.trans k6
 refine aR (fun m ys M7=>∃ j:Nat,m=8 - j∧ys=[N .i64 (j:Int)]∧j≤8∧ae [sb] M M7∧M7.heap sb=some (.row (fw.row ((List.zipWith gF h v).take j++h.drop j)) false TS 0)) _
  ⟨0,rfl,rfl,by omega,k46.mono (by simp),by rw[List.take_zero,List.drop_zero]; exact hs6⟩ ?_
 rintro next m ys M7 hnext ⟨j,rfl,rfl,hj,k7,s7⟩
 simp only[iF]
 rw[Dp 8 (by rfl)]
 refine bi (fun hc=>?_) fun hc=>?_
 ·have hj8:j<8:=of_decide_eq_true hc
  rw[He]
  refine⟨by omega,by omega,N .u32 (v.getD j 0), ?_, ?_⟩
  ·rw[Int.toNat_natCast,pq,List.getElem?_map,List.getElem?_eq_getElem (by omega)]
   simp[List.getD,show j<v.length by omega]
  have hl7:=Ta (v:=v) (Nat.le_of_lt hj8) hhl hrl
  rw[jr,iI rfl hj8,sw s7 (by omega),ed,jr,iI rfl hj8,Ae s7 (by omega),oW 1 (by omega) (by omega) (by rfl)]
  refine hnext _ _ _ (by omega) ⟨j + 1,rfl,rfl,by omega,k7.put _ (.inr (by simp)), ?_⟩
  rw[ay,SX hj8 hhl hrl,← QZ hj8 hhl hrl]
  rfl
 ·have hj8:j=8:=by have:=of_decide_eq_false hc; omega
  subst hj8
  refine hQ M7 k7 ?_
  rw[s7,List.drop_of_length_le (by omega),List.append_nil,List.take_of_length_le (by rw[List.length_zipWith]; omega)]
end Go.Ab.Sha
set_option maxRecDepth 100000
namespace Go.Ab.Dot
open Go Go.Ab
def uo (p1:Nat) (a0:AV) (M0:RM) (Q:ai) : Prop:=gD false 2 a0 (.sc (.slice none 0 0)) fun h=>au h ( Q (.sc (.slice none 0 0)) M0) ( dV p1 0 [(N .u8 0)] [] fun g e=>aU g e M0 fun i c=>appW p1 1 1 [(N .u8 0)] false i a0 c fun j d=>Q j d)
end Go.Ab.Dot
set_option maxRecDepth 10000
namespace Go.Ab.Sha
open Go Go.Ab Go.Ab.Sm
def kW:List Int:=[1116352408,1899447441,3049323471,3921009573,961987163,1508970993,2453635748,2870763221,3624381080,310598401,607225278,1426881987,1925078388,2162078206,2614888103,3248222580,3835390401,4022224774,264347078,604807628,770255983,1249150122,1555081692,1996064986,2554220882,2821834349,2952996808,3210313671,3336571891,3584528711,113926993,338241895,666307205,773529912,1294757372,1396182291,1695183700,1986661051,2177026350,2456956037,2730485921,2820302411,3259730800,3345764771,3516065817,3600352804,4094571909,275423344,430227734,506948616,659060556,883997877,958139571,1322822218,1537002063,1747873779,1955562222,2024104815,2227730452,2361852424,2428436474,2756734187,3204031479,3329325298]
def hW:List Int:=[1779033703,3144134277,1013904242,2773480762,1359893119,2600822924,528734635,1541459225]
theorem Ey:kW.length=64:=by decide
theorem Jl:hW.length=8:=by decide
def dD (k:List Int) : Nat→List Int→Str→List Int
 | 0,h,_=>h
 | n + 1,h,m=>dD k n (qd h k (m.take 64)) (m.drop 64)
theorem pR {k:List Int} : ∀ {n:Nat} {h:List Int} {m:Str},h.length=8→(dD k n h m).length=8
 | 0,h,m,hl=>hl
 | n + 1,h,m,hl=>pR (n:=n) (h:=qd h k (m.take 64)) (m:=m.drop 64) (MP k _ hl)
theorem uP {k:List Int} : ∀ {a n:Nat} {h:List Int} {m:Str},dD k (a + n) h m=dD k n (dD k a h m) (m.drop (64 * a))
 | 0,n,h,m=>by rw[Nat.zero_add]; rfl
 | a + 1,n,h,m=>by
   rw[Nat.add_right_comm,dD,dD,uP (a:=a),List.drop_drop,show 64 + 64 * a=64 * (a + 1) by omega]
theorem Bu {k:List Int} {n:Nat} {h:List Int} {m:Str} : dD k (n + 1) h m=qd (dD k n h m) k ((m.drop (64 * n)).take 64):=by rw[uP]; rfl
theorem Ck {k:List Int} : ∀ {n:Nat} {h:List Int} {m p:Str},64 * n≤m.length→dD k n h (m++p)=dD k n h m
 | 0,h,m,p,_=>rfl
 | n + 1,h,m,p,hl=>by
   rw[dD,dD,List.take_append_of_le_length (by omega),List.drop_append_of_le_length (by omega),Ck (by rw[List.length_drop]; omega)]
def GZ (n:Int) : UInt8:=UInt8.ofNat (n % 256).toNat
theorem U8 (n:Int) : IntKind.u8.wrap n=n % 256:=by
 simp only[IntKind.wrap,IntKind.bits,IntKind.signed,IntKind.max,IntKind.min]
 simp
theorem LK (n:Int) : N .u8 (IntKind.u8.wrap n)=By (GZ n):=by
 have:((GZ n).toNat:Int)=n % 256:=by
  unfold GZ
  rw[UInt8.toNat_ofNat']
  have h1:0≤n % 256:=Int.emod_nonneg _ (by decide)
  have h2:n % 256<256:=Int.emod_lt_of_pos _ (by decide)
  rw[Nat.mod_eq_of_lt (by omega)]
  omega
 rw[By,this,U8]
def zp (L:Nat) : Nat:=(119 - L % 64) % 64
def qy (L:Nat) : Str:=(List.range 8).map fun i=>GZ (tu .u64 ((8 * L:Nat) : Int) ((56 - 8 * i:Nat) : Int))
def Dq (L:Nat) : Str:=128 :: (List.replicate (zp L) 0++qy L)
def mo (h:List Int) : Str:=(List.range 32).map fun i=>GZ (tu .u32 (h.getD (i / 4) 0) ((24 - 8 * (i % 4) : Nat) : Int))
theorem Ja (h:List Int) : (mo h).length=32:=by simp[mo]
def FI (b:Str) : Str:=mo (dD kW ((b.length + 9 + zp b.length) / 64) hW (b++Dq b.length))
theorem JS (b:Str) : (FI b).length=32:=Ja _
theorem Po (b:Str) : dD kW ((b.length + 9 + zp b.length) / 64) hW (b++Dq b.length) =
  dD kW ((b.length - b.length / 64 * 64 + 9 + zp b.length) / 64) (dD kW (b.length / 64) hW b) (b.drop (b.length / 64 * 64)++Dq b.length):=by
 have e:(b.length + 9 + zp b.length) / 64=b.length / 64 + (b.length - b.length / 64 * 64 + 9 + zp b.length) / 64:=by omega
 rw[e,uP,Ck (by omega),List.drop_append_of_le_length (by omega),Nat.mul_comm 64]
def partsOf:Nat→List Int→List (Nat × Nat × AV)
 | _,[]=>[]
 | i,x :: xs=>(i,1,N .u32 x) :: partsOf (i + 1) xs
theorem CG:∀ (xs pre:List Int),kZ (fw.row (pre++List.replicate xs.length 0)) (partsOf pre.length xs)=some (fw.row (pre++xs))
 | [],pre=>by simp[partsOf,kZ]
 | x :: xs,pre=>by
   have h:=CG xs (pre++[x])
   rw[List.length_append,List.length_singleton] at h
   rw[partsOf,mf (by rw[ja]; simp),show pre++x :: xs=pre++[x]++xs by simp,← h]
   congr 1
   rw[pq,pq,show(N .u32 x)=(fun n=>N .u32 n) x from rfl,← List.map_set,set_mid (by simp)]
   simp
theorem GN {T n:Nat} {xs:List Int} {M:RM} {K:AV→RM→Prop} (hn:xs.length=n) (hK:∀ M',ae [] M M'→K (.agg (fw.row xs)) M') :
  aU (.row (fw.row (List.replicate n 0)) false T 0) (fun b=>.ptr b 0) M fun t0 M1=>dB (fw.row (List.replicate n 0)) (partsOf 0 xs) fun t1=>aA M1 t0 t1 n fun M2=>aI M2 t0 n fun res=>K res M2:=by
 subst hn
 rw[aF,iG]
 refine⟨_,CG xs [], ?_⟩
 have n1:(M.push (.row (fw.row (List.replicate xs.length 0)) false T 0)).heap M.next=some (.row (fw.row (List.replicate xs.length 0)) false T 0):=by simp[RM.push]
 rw[List.nil_append,Ac n1 (by rw[ja]) (by rw[ja,List.length_replicate]) (fw.jR _),aM (ay _) (by rw[ja])]
 exact hK _ (((ae.refl _ _).push _).new _ (Nat.le_refl _))
def vS (xs:List Int) (c:aj) : Prop:=∀ {M:RM} {Q:ai},(∀ M',ae [] M M'→Q (.agg (fw.row xs)) M')→c [] M Q
theorem FV {T:Nat} : vS kW fun args M Q=>args=[]∧nP T M Q:=by
 intro M Q hQ
 refine⟨rfl, ?_⟩
 unfold nP
 exact GN (xs:=kW) (n:=64) Ey hQ
theorem Ob {T:Nat} : vS hW fun args M Q=>args=[]∧vK T M Q:=by
 intro M Q hQ
 refine⟨rfl, ?_⟩
 unfold vK
 exact GN (xs:=hW) (n:=8) Jl hQ
def KF (T:Nat) (c:aj) : Prop:=∀ {M:RM} {v:AV} {s:Str} {Q:ai},Sl BY M v s→s.length≤1000000000→(∀ v' M',Ow BY M' M.next T v' s→ae [] M M'→Q v' M')→c [v] M Q
theorem NT {T:Nat} : KF T fun args M Q=>∃ a0,args=[a0]∧Go.Ab.Dot.uo T a0 M Q:=by
 intro M v s Q hv hl hQ
 refine⟨_,rfl, ?_⟩
 unfold Go.Ab.Dot.uo
 rcases dK.wS hv false with⟨rfl,he⟩ | ⟨hne,he⟩
 ·rw[he,show(!false)=true from rfl,eQ]
  have:s=[]:=by
   unfold Sl at hv
   cases s with
   | nil=>rfl
   | cons x s=>generalize hcs:BY.row (x :: s)=cs at *; generalize hn:(x :: s).length=n at *; cases hv; cases hcs
  subst this
  exact hQ aC M .nil (ae.refl _ _)
 ·rw[he,dU,VH]
  simp only[aF]
  have k1:ae [] M (M.push (.row [] false T 0)):=(ae.refl _ _).push _
  refine Gb (E:=BY) (Ow.lit BY M) (by simp[RM.push]) (by decide) (dK.keep hv k1 (by simp)) (by simp; omega) (by simp; omega) fun v7 M7 o7 k7 _ _=>?_
  refine hQ v7 M7 (by simpa using o7) ?_
  refine ae.own k1 k7 (fun b hb=>?_)
  simp[aD] at hb; omega
theorem QA {L i:Nat} (hi:i<8) : (qy L).take (i + 1)=(qy L).take i++[GZ (tu .u64 ((8 * L:Nat) : Int) ((56 - 8 * i:Nat) : Int))]:=by
 have hl:i<(qy L).length:=by simp[qy]; exact hi
 rw[List.take_succ_eq_append_getElem hl]
 simp[qy]
theorem QF {d:Str} {n i:Nat} {x:UInt8} (hi:i<n) (hd:d.length=n) (hx:d[i]?=some x) : (d.take i++List.replicate (n - i) 0).set i x=d.take (i + 1)++List.replicate (n - (i + 1)) 0:=by
 have hl:(d.take i).length=i:=by rw[List.length_take]; omega
 have hx' : d[i]'(by omega)=x:=by rw[List.getElem?_eq_getElem (by omega)] at hx; exact Option.some.inj hx
 obtain⟨m,hm⟩ : ∃ m,n - i=m + 1:=⟨n - i - 1,by omega⟩
 rw[hm,List.replicate_succ,List.set_append_right _ _ (by omega),hl,Nat.sub_self,List.set_cons_zero,List.take_succ_eq_append_getElem (by omega),hx',List.append_assoc,show n - (i + 1)=m by omega]
 rfl
def Rh (c:aj) : Prop:=∀ {M:RM} {v:AV} {b:Str} {Q:ai},Bs M v b→b.length≤100000000→(∀ M',ae [] M M'→Q (.agg (BY.row (FI b))) M')→c [v] M Q
theorem Qu {T32 TK TS T8:Nat} {cc cf ct cl:aj} (hc:vS kW cc) (hf:vS hW cf) (ht:Nr TK TS ct) (hcl:KF T8 cl) : Rh fun args M Q=>∃ a0,args=[a0]∧zX T32 cc TK cf TS ct cl T8 a0 M Q:=by
 intro M v b Q hv hl hQ
 refine⟨_,rfl, ?_⟩
 unfold zX
 rw[aF]
 have k1:ae [] M (M.push (.row (BY.row (List.replicate 32 0)) false T32 0)):=(ae.refl _ _).push _
 have n1:(M.push (.row (BY.row (List.replicate 32 0)) false T32 0)).heap M.next=some (.row (BY.row (List.replicate 32 0)) false T32 0):=by simp[RM.push]
 have l1:M.next<(M.push (.row (BY.row (List.replicate 32 0)) false T32 0)).next:=by simp[RM.push]
 show cc _ (M.push (.row (BY.row (List.replicate 32 0)) false T32 0)) _
 generalize M.push (.row (BY.row (List.replicate 32 0)) false T32 0)=M1 at *
 refine hc fun M2 k2=>?_
 have zz:∀ n,(fw.row (List.replicate n 0)).length=n:=fun n=>by rw[ja,List.length_replicate]
 refine RG (K:=fun t XU=>_) (z:=fw.row (List.replicate 64 0)) 64 (zz 64) (by rw[ja,Ey]) (fw.jR _) fun M3 k3 n3 l3=>?_
 refine hf fun M4 k4=>?_
 refine RG (K:=fun t XU=>_) (z:=fw.row (List.replicate 8 0)) 8 (zz 8) (by rw[ja,Jl]) (fw.jR _) fun M5 k5 n5 l5=>?_
 have hk34:=k4.next
 have hk23:=k3.next
 have k35:ae [] M3 M5:=k4.trans k5
 have n35:=k35.ax n3 l3 (by simp)
 have l35:M2.next<M5.next:=Nat.lt_of_lt_of_le l3 k35.next
 have k05:ae [] M M5:=k1.trans (k2.trans (k3.trans k35))
 have k25:ae [] M2 M5:=k3.trans k35
 have n15:=(k2.trans k25).ax n1 l1 (by simp)
 have l15:M.next<M5.next:=Nat.lt_of_lt_of_le l1 (k2.trans k25).next
 have hl1:M.next<M2.next:=Nat.lt_of_lt_of_le l1 k2.next
 have hne:M2.next≠M4.next:=by omega
 have hv5:=hv.keep k05 (by simp)
 have XA:=hv.lt
 have hvn:∀ x∈aD v,x ∉ [M4.next]:=fun x hx hm=>by have:=XA x hx; simp at hm; omega
 rw[hv5.len,Ki]
 refine⟨by decide, ?_⟩
 have e1:IntKind.i64.wrap ((b.length:Int).tdiv 64)=((b.length / 64:Nat) : Int):=by
  rw[show(b.length:Int).tdiv 64=((b.length / 64:Nat) : Int) by rw[Int.natCast_ediv]; exact Int.tdiv_eq_ediv_of_nonneg (by omega)]
  exact eD (by omega) (by omega)
 rw[e1,sI,show IntKind.i64.wrap (((b.length / 64:Nat) : Int) * 64)=((b.length / 64 * 64:Nat) : Int) by rw[eD (by omega) (by omega)]; omega]
 generalize hwe:b.length / 64=q at *
 have hq:q * 64≤b.length∧b.length<q * 64 + 64:=by omega
 refine aR (fun m ys M6=>∃ j:Nat,m=q - j∧ys=[N .i64 ((j * 64:Nat) : Int)]∧j≤q∧ae [M4.next] M5 M6∧M6.heap M4.next=some (.row (fw.row (dD kW j hW b)) false TS 0)) _
  ⟨0,rfl,rfl,by omega,ae.refl _ _,n5⟩ ?_
 rintro next m ys M6 hnext ⟨j,rfl,rfl,hj,k6,n6⟩
 simp only[iF]
 have l6:M4.next<M6.next:=Nat.lt_of_lt_of_le l5 k6.next
 have n36:=k6.ax n35 l35 (by simp; omega)
 have l36:M2.next<M6.next:=Nat.lt_of_lt_of_le l35 k6.next
 have hv6:=hv5.keep k6 hvn
 have Rj:(dD kW j hW b).length=8:=pR Jl
 rw[kU]
 refine bi (fun hc=>?_) fun hc=>?_
 ·have hjq:j<q:=by have:=of_decide_eq_true hc; omega
  rw[oW 64 (by omega) (by omega) (by rfl)]
  refine hv6.sub (IK _ _ _) (IK _ _ _) (by omega) (by omega) fun v7 h7 hs7=>?_
  rw[show j * 64 + 64 - j * 64=64 by omega] at h7
  refine ht n6 l6 Rj n36 l36 hne Ey h7 (by rw[List.length_take,List.length_drop]; omega) fun M7 k7 n7=>?_
  rw[oW 64 (by omega) (by omega) (by rfl),show j * 64 + 64=(j + 1) * 64 by omega]
  refine hnext _ _ _ (by omega) ⟨j + 1,rfl,rfl,by omega,k6.trans k7, ?_⟩
  rw[Bu,Nat.mul_comm 64]
  exact n7
 have hjq:j=q:=by have:=of_decide_eq_false hc; omega
 subst hjq
 clear hnext
 refine hv6.sub (IK _ _ _) (W9 _) (by omega) (Nat.le_refl _) fun v7 h7 hs7=>?_
 rw[List.take_of_length_le (by simp)] at h7
 have hdl:(b.drop (j * 64)).length=b.length - j * 64:=List.length_drop
 refine hcl h7.sl (by omega) fun v8 M8 o8 k8=>?_
 rw[iR (by rfl) (by rfl) (by rfl),aF]
 refine nG (E:=BY) (a:=(128:UInt8)) o8 k8.next (by decide) (by omega) (by omega) fun v9 M9 o9 k9 _ _=>?_
 have k69:ae [] M6 M9:=ae.own k8 k9 (fun x hx=>(Own.blk o8 x hx).1)
 have hzp:zp b.length<64:=Nat.mod_lt _ (by decide)
 have hz:(b.length - j * 64 + 1 + zp b.length) % 64=56:=by unfold zp; omega
 refine aR (fun m ys M10=>∃ (i:Nat) (rv:AV),m=zp b.length - i∧ys=[rv]∧i≤zp b.length∧ae [] M6 M10∧Ow BY M10 M6.next T8 rv (b.drop (j * 64)++128 :: List.replicate i 0)) _
  ⟨0,v9,rfl,rfl,by omega,k69,o9⟩ ?_
 rintro next m ys M10 hnext ⟨i,rv,rfl,rfl,hi,k10,o10⟩
 simp only[iF]
 have hrl:(b.drop (j * 64)++128 :: List.replicate i 0).length=b.length - j * 64 + 1 + i:=by simp; omega
 rw[dK.len (Own.sD o10),hrl,Kh]
 refine⟨by decide, ?_⟩
 rw[show(((b.length - j * 64 + 1 + i:Nat) : Int)).tmod 64=(((b.length - j * 64 + 1 + i) % 64:Nat) : Int) by rw[Int.natCast_emod]; exact Int.tmod_eq_emod_of_nonneg (by omega),fP]
 refine bi (fun hc=>?_) fun hc=>?_
 ·have hne:(b.length - j * 64 + 1 + i) % 64≠56:=fun e=>by rw[e] at hc; cases hc
  have hlt:i<zp b.length:=by
   rcases Nat.lt_or_ge i (zp b.length) with h | h
   ·exact h
   ·have:i=zp b.length:=by omega
    subst this; exact absurd hz hne
  rw[iR (by rfl) (by rfl) (by rfl),aF]
  refine nG (E:=BY) (a:=(0:UInt8)) o10 k10.next (by decide) (by omega) (by omega) fun v11 M11 o11 k11 _ _=>?_
  refine hnext _ _ _ (by omega) ⟨i + 1,v11,rfl,rfl,by omega,ae.own k10 k11 (fun x hx=>(Own.blk o10 x hx).1), ?_⟩
  have e:b.drop (j * 64)++128 :: List.replicate (i + 1) 0=b.drop (j * 64)++128 :: List.replicate i 0++[0]:=by rw[List.replicate_succ']; simp
  rw[e]; exact o11
 have hi56:(b.length - j * 64 + 1 + i) % 64=56:=by
  have:((((b.length - j * 64 + 1 + i) % 64:Nat) : Int) != 56)=false:=hc
  have:=bne_eq_false_iff_eq.1 this
  omega
 have hiz:i=zp b.length:=by omega
 subst hiz
 clear hnext
 generalize hpre:b.drop (j * 64)++128 :: List.replicate (zp b.length) 0=P at *
 refine aR (fun m ys M11=>∃ (i:Nat) (rv:AV),m=8 - i∧ys=[rv,N .i64 (i:Int)]∧i≤8∧ae [] M6 M11∧Ow BY M11 M6.next T8 rv (P++(qy b.length).take i)) _
  ⟨0,rv,rfl,rfl,by omega,k10,by rw[List.take_zero,List.append_nil]; exact o10⟩ ?_
 rintro next m ys M11 hnext ⟨i,rv2,rfl,rfl,hi,k11,o11⟩
 simp only[iF,G5]
 have XK:=hv6.keep k11 (by simp)
 have hll:((qy b.length).take i).length=i:=by rw[List.length_take]; simp[qy]; omega
 have hpl:(P++(qy b.length).take i).length=b.length - j * 64 + 1 + zp b.length + i:=by rw[List.length_append,hrl,hll]
 rw[Dp 8 (by rfl)]
 refine bi (fun hc=>?_) fun hc=>?_
 ·have hi8:i<8:=of_decide_eq_true hc
  rw[XK.len,qg,CF (by omega) (by omega),sI,CF (by omega) (by omega),sI,eD (by omega) (by omega),lN,eD (by omega) (by omega),rO]
  refine⟨by omega, ?_⟩
  rw[qg,show((b.length:Int) * 8)=((8 * b.length:Nat) : Int) by omega,show(56 - 8 * (i:Int))=((56 - 8 * i:Nat) : Int) by omega,LK,iR (by rfl) (by rfl) (by rfl),aF]
  refine nG (E:=BY) (a:=GZ (tu .u64 ((8 * b.length:Nat) : Int) ((56 - 8 * i:Nat) : Int))) o11 k11.next (by decide) (by omega) (by omega) fun v12 M12 o12 k12 _ _=>?_
  rw[oW 1 (by omega) (by omega) (by rfl)]
  refine hnext _ _ _ (by omega) ⟨i + 1,v12,rfl,rfl,by omega,ae.own k11 k12 (fun x hx=>(Own.blk o11 x hx).1), ?_⟩
  rw[QA hi8,← List.append_assoc]
  exact o12
 have hi8:i=8:=by have:=of_decide_eq_false hc; omega
 subst hi8
 clear hnext
 rw[List.take_of_length_le (by simp[qy])] at o11 hpl
 have hfull:P++qy b.length=b.drop (j * 64)++Dq b.length:=by rw[← hpre]; simp[Dq]
 rw[hfull] at o11 hpl
 have hrest:(b.drop (j * 64)++Dq b.length).length=b.length - j * 64 + 9 + zp b.length:=by rw[hpl]; omega
 generalize hRe:b.drop (j * 64)++Dq b.length=R at *
 have hmod:(b.length - j * 64 + 9 + zp b.length) % 64=0:=by omega
 obtain⟨n,hn⟩ : ∃ n,b.length - j * 64 + 9 + zp b.length=64 * n:=⟨(b.length - j * 64 + 9 + zp b.length) / 64,by omega⟩
 rw[hn] at hrest
 have Xh:=Bs.own o11
 have n11:=k11.ax n6 l6 (by simp)
 have n311:=k11.ax n36 l36 (by simp)
 have l11:M4.next<M11.next:=Nat.lt_of_lt_of_le l6 k11.next
 have TR:M2.next<M11.next:=Nat.lt_of_lt_of_le l36 k11.next
 generalize hH:dD kW j hW b=H at *
 have hrn:∀ x∈aD rv2,x ∉ [M4.next]:=fun x hx hm=>by
  have:=(Own.blk o11 x hx).1
  simp at hm; omega
 refine aR (fun m ys M12=>∃ i:Nat,m=n - i∧ys=[N .i64 ((i * 64:Nat) : Int)]∧i≤n∧ae [M4.next] M11 M12∧M12.heap M4.next=some (.row (fw.row (dD kW i H R)) false TS 0)) _
  ⟨0,rfl,rfl,by omega,ae.refl _ _,n11⟩ ?_
 rintro next m ys M12 hnext ⟨i,rfl,rfl,hi,k12,n12⟩
 simp only[iF]
 have l12:M4.next<M12.next:=Nat.lt_of_lt_of_le l11 k12.next
 have n312:=k12.ax n311 TR (by simp; omega)
 have WO:M2.next<M12.next:=Nat.lt_of_lt_of_le TR k12.next
 have Ug:=Xh.keep k12 hrn
 rw[Ug.len,kU]
 refine bi (fun hc=>?_) fun hc=>?_
 ·have hin:i<n:=by have:=of_decide_eq_true hc; omega
  rw[oW 64 (by omega) (by omega) (by rfl)]
  refine Ug.sub (IK _ _ _) (IK _ _ _) (by omega) (by omega) fun v13 h13 hs13=>?_
  rw[show i * 64 + 64 - i * 64=64 by omega] at h13
  refine ht n12 l12 (pR Rj) n312 WO hne Ey h13 (by rw[List.length_take,List.length_drop]; omega) fun M13 k13 n13=>?_
  rw[oW 64 (by omega) (by omega) (by rfl),show i * 64 + 64=(i + 1) * 64 by omega]
  refine hnext _ _ _ (by omega) ⟨i + 1,rfl,rfl,by omega,k12.trans k13, ?_⟩
  rw[Bu,Nat.mul_comm 64]
  exact n13
 have hin:i=n:=by have:=of_decide_eq_false hc; omega
 subst hin
 clear hnext
 have XD:FI b=mo (dD kW i H R):=by
  unfold FI
  rw[Po,hwe,hRe,hH,hn,Nat.mul_div_cancel_left _ (by decide)]
 have hF:(dD kW i H R).length=8:=pR Rj
 generalize dD kW i H R=F at *
 have hdF:=Ja F
 rw[aF]
 have Rs:ae [M4.next] M5 M12:=k6.trans ((k11.mono (by simp)).trans k12)
 have n112:=Rs.ax n15 l15 (by simp; omega)
 have X0:M.next<M12.next:=Nat.lt_of_lt_of_le l15 Rs.next
 have k14:ae [] M12 (M12.push (.row (BY.row (List.replicate 32 0)) false T32 0)):=(ae.refl _ _).push _
 have n14:(M12.push (.row (BY.row (List.replicate 32 0)) false T32 0)).heap M12.next=some (.row (BY.row ((mo F).take 0++List.replicate (32 - 0) 0)) false T32 0):=by simp[RM.push]
 have l14:M12.next<(M12.push (.row (BY.row (List.replicate 32 0)) false T32 0)).next:=by simp[RM.push]
 show bz _ _ (M12.push (.row (BY.row (List.replicate 32 0)) false T32 0))
 generalize M12.push (.row (BY.row (List.replicate 32 0)) false T32 0)=M14 at *
 refine aR (fun m ys M15=>∃ i:Nat,m=32 - i∧ys=[N .i64 (i:Int)]∧i≤32∧ae [] M12 M15∧M12.next<M15.next∧M15.heap M12.next=some (.row (BY.row ((mo F).take i++List.replicate (32 - i) 0)) false T32 0)) _
  ⟨0,rfl,rfl,by omega,k14,l14,n14⟩ ?_
 rintro next m ys M15 hnext ⟨i',rfl,rfl,hi',k15,XL,n15'⟩
 simp only[iF]
 have WE:=k15.ax n12 l12 (by simp)
 rw[Dp 32 (by rfl)]
 refine bi (fun hc=>?_) fun hc=>?_
 ·have AX:i'<32:=of_decide_eq_true hc
  rw[Ki]
  refine⟨by decide, ?_⟩
  rw[show IntKind.i64.wrap (((i' : Nat) : Int).tdiv 4)=((i' / 4:Nat) : Int) by
   rw[show((i' : Nat) : Int).tdiv 4=((i' / 4:Nat) : Int) by rw[Int.natCast_ediv]; exact Int.tdiv_eq_ediv_of_nonneg (by omega)]
   exact eD (by omega) (by omega)]
  rw[iI rfl (by omega),sw WE (by omega),Kh]
  refine⟨by decide, ?_⟩
  rw[show(((i' : Nat) : Int)).tmod 4=((i' % 4:Nat) : Int) by rw[Int.natCast_emod]; exact Int.tmod_eq_emod_of_nonneg (by omega),sI,eD (by omega) (by omega),lN,eD (by omega) (by omega),rO]
  refine⟨by omega, ?_⟩
  rw[qg,LK,iI rfl AX,show(24 - 8 * ((i' % 4:Nat) : Int))=((24 - 8 * (i' % 4) : Nat) : Int) by omega]
  have hget:(mo F)[i']?=some (GZ (tu .u32 (F.getD (i' / 4) 0) ((24 - 8 * (i' % 4) : Nat) : Int))):=by
   simp[mo,AX]
  have hset:=QF AX hdF hget
  have hrow15:((mo F).take i'++List.replicate (32 - i') 0).length=32:=by rw[List.length_append,List.length_take,List.length_replicate]; omega
  rw[bK (BY.row ((mo F).take (i' + 1)++List.replicate (32 - (i' + 1)) 0)) n15' (by rw[tN]; omega) rfl rfl (by rw[← hset,qj,qj,List.map_set]),oW 1 (by omega) (by omega) (by rfl)]
  exact hnext _ _ _ (by omega) ⟨i' + 1,rfl,rfl,by omega,k15.new _ (Nat.le_refl _),XL,ay _⟩
 ·have AX:i'=32:=by have:=of_decide_eq_false hc; omega
  subst AX
  have e:(mo F).take 32++List.replicate (32 - 32) 0=mo F:=by rw[List.take_of_length_le (by omega)]; simp
  rw[e] at n15'
  have n115:=k15.ax n112 X0 (by simp)
  rw[aM n15' (by rw[tN,hdF]),Ac n115 (by rw[tN,hdF]) (by rw[tN,List.length_replicate]) (BY.jR _),aM (ay _) (by rw[tN,hdF]),← XD]
  have QS:ae [M4.next] M M12:=(k05.mono (by simp)).trans Rs
  have Vp:ae [] M M12:=⟨QS.base,QS.next,fun x hx _=>QS.heap x hx (by simp; omega)⟩
  exact hQ _ ((Vp.trans k15).new _ (Nat.le_refl _))
theorem Oy {p:UInt8→Bool} (h:(List.range 256).all (fun n=>p (UInt8.ofNat n))=true) (x:UInt8) : p x=true:=by
 have:=List.all_eq_true.1 h x.toNat (List.mem_range.2 x.toNat_lt)
 simpa using this
abbrev QR:Str:=[48,49,50,51,52,53,54,55,56,57,97,98,99,100,101,102]
def hx (n:Nat) : UInt8:=QR.getD n 0
def xB (d:Str) : Str:=d.flatMap fun x=>[hx (x.toNat / 16),hx (x.toNat % 16)]
theorem Jp (d:Str) : (xB d).length=2 * d.length:=by
 induction d with
 | nil=>rfl
 | cons x d ih=>unfold xB at ih ⊢; rw[List.flatMap_cons,List.length_append,ih,List.length_cons]; simp; omega
theorem OD (d:Str) {i:Nat} (h:i<d.length) : xB (d.take (i + 1))=xB (d.take i)++[hx (d[i].toNat / 16),hx (d[i].toNat % 16)]:=by
 rw[List.take_succ_eq_append_getElem h]
 unfold xB
 rw[List.flatMap_append]
 simp
def Yf (x:UInt8) : Bool:=tu .u8 (x.toNat:Int) 4 == ((x.toNat / 16:Nat) : Int)
def Ye (x:UInt8) : Bool:=xK .u8 (x.toNat:Int) 15 == ((x.toNat % 16:Nat) : Int)
theorem TE:∀ x,Yf x=true:=Oy (by decide +kernel)
theorem SG:∀ x,Ye x=true:=Oy (by decide +kernel)
theorem VN (x:UInt8) : tu .u8 (x.toNat:Int) 4=((x.toNat / 16:Nat) : Int):=eq_of_beq (TE x)
theorem VS (x:UInt8) : xK .u8 (x.toNat:Int) 15=((x.toNat % 16:Nat) : Int):=eq_of_beq (SG x)
theorem RZ {n:Nat} (h:n<16) {k:IntKind} {K:AV→Prop} : di (St QR) (N k (n:Int)) K=K (By (hx n)):=by
 rw[BO (by show n<16; exact h)]
 have:QR[n]'(by show n<16; exact h)=hx n:=by
  unfold hx
  rw[List.getD_eq_getElem?_getD,List.getElem?_eq_getElem (by show n<16; exact h)]; rfl
 rw[this]
theorem VW {T:Nat} {a b z:AV} {K:RB→(Nat→AV)→Prop} (ha:a.cells=[a]) (hb:b.cells=[b]) (ha1:oneCell a=true) (hb1:oneCell b=true) :
  dV T 2 [z] [(0,1,a),(1,1,b)] K=K (.row [a,b] false T 0) (fun b=>.slc b 0 2 (.ex 2)):=by
 have:qP (mi [z] 2) [(0,1,a),(1,1,b)]=some [a,b]:=by simp[qP,mi,ha,hb,ha1,hb1]
 apply propext; unfold dV
 constructor
 ·rintro⟨l,h,hk⟩; rw[this] at h; cases h; exact hk
 ·intro hk; exact⟨_,this,hk⟩
theorem Tf {M:RM} {base T:Nat} {v:AV} {xs:Str} {x y:UInt8} {zs:List AV} {K:ai} (ho:Ow BY M base T v xs) (hb:base≤M.next) (hn:xs.length≤1000000000)
  (hK:∀ v' M',Ow BY M' base T v' (xs++[x,y])→ae (aD v) M M'→K v' M') :
  appW T 1 1 zs false v (.slc M.next 0 2 (.ex 2)) (M.push (.row [By x,By y] false T 0)) K:=by
 have hk:ae [] M (M.push (.row (BY.row [x,y]) false T 0)):=(ae.refl _ _).push _
 refine Gb (E:=BY) (ys:=[x,y]) (Own.keep ho hk (by simp)) (Nat.le_trans hb hk.next) (by decide) (Sl.new [x,y]) (by simp; omega) (by simp; omega) fun v' M' h1 h2 _ _=>?_
 exact hK v' M' h1 ((hk.mono (by simp)).trans h2)
def Oi (c:aj) : Prop:=∀ {M:RM} {d:Str} {Q:ai},d.length=32→(∀ M',ae [] M M'→Q (St (xB d)) M')→c [.agg (BY.row d)] M Q
theorem U2 {d:Str} {i:Nat} (h:i<d.length) : (BY.row d)[i]?=some (By d[i]):=by rw[qj,List.getElem?_map,List.getElem?_eq_getElem h]; rfl
theorem OX {T32 T8:Nat} : Oi fun args M Q=>∃ a0,args=[a0]∧Bl T32 T8 a0 M Q:=by
 intro M d Q hd hQ
 refine⟨_,rfl, ?_⟩
 unfold Bl
 rw[ic (BY.jR d) (by rw[tN]; omega),aF]
 have k0:ae [] M (M.push (.row (BY.row d) false T32 0)):=(ae.refl _ _).push _
 have n0:(M.push (.row (BY.row d) false T32 0)).heap M.next=some (.row (BY.row d) false T32 0):=by simp[RM.push]
 generalize M.push (.row (BY.row d) false T32 0)=M0 at *
 rw[aM n0 (by rw[tN,hd])]
 refine aR (fun m ys M3=>∃ (i:Nat) (ov:AV),m=32 - i∧ys=[ov,N .i64 (i:Int)]∧i≤32∧ae [] M M3∧Ow BY M3 M.next T8 ov (xB (d.take i))) _ ⟨0,aC,rfl,rfl,by omega,k0,.nil⟩ ?_
 rintro next m ys M3 hnext ⟨i,ov,rfl,rfl,hi,k3,o3⟩
 simp only[iF,G5]
 rw[Dp 32 (by rfl)]
 refine bi (fun hc=>?_) fun hc=>?_
 ·have AX:i<32:=of_decide_eq_true hc
  have hid:i<d.length:=by omega
  have hlt:=Ie d[i]
  rw[He]
  refine⟨by omega,by omega,By d[i],by rw[Int.toNat_natCast]; exact U2 hid, ?_⟩
  rw[By,rO]
  refine⟨by decide, ?_⟩
  rw[VN,RZ (by omega),kE,VS,RZ (by omega),VW rfl rfl rfl rfl,LU]
  have hhl:=Jp (d.take i)
  have htl:(d.take i).length=i:=by rw[List.length_take]; omega
  refine Tf o3 k3.next (by omega) fun v4 M4 o4 k4=>?_
  rw[oW 1 (by omega) (by omega) (by rfl)]
  refine hnext _ _ _ (by omega) ⟨i + 1,v4,rfl,rfl,by omega,ae.own k3 k4 (fun x hx=>(Own.blk o3 x hx).1), ?_⟩
  rw[OD d hid]; exact o4
 ·have AX:i=32:=by have:=of_decide_eq_false hc; omega
  subst AX
  rw[List.take_of_length_le (by omega)] at o3
  rw[Sl.str (Own.sD o3)]
  exact hQ M3 k3
def dY (b:Str) : Str:=xB (FI b)
theorem Hr (b:Str) : (dY b).length=64:=by unfold dY; rw[Jp,JS]
end Go.Ab.Sha
namespace Go.Ab.Vc
open Go Go.Ab Go.Ab.Vl Go.Ab.Sm
theorem RP {α:Type} {R:jk α} {M:RM} {v:AV} {xs:List α} {S:Nat→Prop} (h:bD R M v xs S) (hc:Kw R.size v) (h0:0<xs.length) {K:AV→Prop}
  (hK:∀ v',bD R M v' (xs.drop 1) S→K v') : bL (jy R.size v (some (N .i64 1)) none none) K:=by
 obtain⟨cs,h1,h2,h3⟩:=h
 have hl:=h3.len
 have h3':=h3.drop 1
 have hlen:(xs.drop 1).length=xs.length - 1:=by simp
 generalize hn:xs.length=n at h1
 cases h1 with
 | nil=>omega
 | emp=>omega
 | slc b o _ cap cs hb hld =>
   have hp:=Fa hld (1 * R.size) ((n - 1) * R.size) (by rw[← Nat.add_mul]; exact Nat.mul_le_mul_right _ (by omega))
   have hcs:(cs.drop (1 * R.size)).take ((n - 1) * R.size)=cs.drop (1 * R.size):=by
    apply List.take_of_length_le
    rw[List.length_drop,hl,hn,Nat.sub_mul]; omega
   rw[hcs] at hp
   have b1:bnd 0 (some (N .i64 (1:Int)))=some 1:=rfl
   have b2:∀ k,bnd k none=some k:=fun _=>rfl
   have mk:∀ cap',bD R M (.slc b (o + 1 * R.size) (n - 1) cap') (xs.drop 1) S:=fun cap'=>⟨_,by rw[hlen,hn]; exact .slc _ _ _ _ _ hb hp,fun x hx=>h2 x hx,h3'⟩
   have zero:n=1→∀ {w:AV},(∀ x∈aD w,S x)→dK M R.size w [] 0→bD R M w (xs.drop 1) S:=by
    intro e w hw hr
    have:xs.drop 1=[]:=List.drop_eq_nil_of_le (by omega)
    rw[this]
    exact⟨[],hr,hw,.nil⟩
   have hSb:S b:=h2 b (by simp[aD])
   cases cap with
   | ex c =>
     have hc:n≤c:=hc
     by_cases e:c=1
     ·subst e
      refine⟨.slc b o 0 (.ex 0),by simp only[jy,b1,b2]; rw[if_pos ⟨by omega,by omega⟩]; simp,hK _ (zero (by omega) (fun x hx=>by simp[aD] at hx; subst hx; exact hSb) (.slc _ _ _ _ _ hb ?_))⟩
      have:=Fa hld 0 0 (by omega)
      simpa using this
     ·exact⟨_,by simp only[jy,b1,b2]; rw[if_pos ⟨by omega,by omega⟩,if_neg e],hK _ (mk _)⟩
   | op esz =>
     have hc:esz=R.size:=hc
     subst hc
     by_cases e:n≤1
     ·exact⟨.emp b,by simp only[jy,b1,b2]; simp[e]; omega,hK _ (zero (by omega) (fun x hx=>by simp[aD] at hx) (.emp _))⟩
     ·exact⟨_,by simp only[jy,b1,b2]; simp only[and_true]; rw[if_pos ⟨by omega,by omega⟩,if_neg e],hK _ (mk _)⟩
def EF (x:Li) : Bool:=decide (x.1.n=MF) && decide (x.1.g=[])
def Oq (B:Base) (c:aj) : Prop:=∀ {M:RM} {v:AV} {ls:List Li} {S:Nat→Prop} {all:Str} {Q:ai},bD gP M v ls S→ls.length≤200000→all.length≤100000000→(∀ M',ae [] M M'→Q (St (nT Sha.dY ls all)) M')→c [v,St all] M Q
theorem Pb {B:Base} {TL TU:Nat} {cs ch:aj} (hs:Sha.Rh cs) (hh:Sha.Oi ch) : Oq B fun args M Q=>∃ a0 a1,args=[a0,a1]∧oC TL TU cs ch a0 a1 M Q:=by
 intro M v ls S all Q hv hlen hal hQ
 refine⟨_,_,rfl, ?_⟩
 unfold oC
 simp only[dH,dI]
 have hf:nT Sha.dY ls all=match ls.find? EF with
  | some x=>if 1≤x.1.v.length∧x.1.v.length≤64 then x.1.v else[99,45]++(Sha.dY all).take 16
  | none=>[99,45]++(Sha.dY all).take 16:=rfl
 rw[hf] at hQ
 refine bN (fun ys M'=>ae [] M M'∧nT Sha.dY ls all=[99,45]++(Sha.dY all).take 16) ?_ ?_
 ·rintro ys M1 ⟨k1,he⟩
  rw[hf] at he
  rw[he] at hQ
  rw[qp,aF]
  have k2:ae [] M1 (M1.push (.row (BY.row all) true TU 0)):=(ae.refl _ _).push _
  have o2:Ow BY (M1.push (.row (BY.row all) true TU 0)) M1.next TU (.slc M1.next 0 all.length (.op 1)) all:=.op _ _ _ (Nat.le_refl _) (by simp[RM.push]) (RM.aQ _) (by simp[BY,Enc.fu])
  generalize M1.push (.row (BY.row all) true TU 0)=M2 at *
  refine hs (Sha.Bs.own o2) hal fun M3 k3=>?_
  refine hh (Sha.JS all) fun M4 k4=>?_
  have h64:(Sha.xB (Sha.FI all)).length=64:=Sha.Hr all
  rw[show(N .i64 (16:Int))=N .i64 ((16:Nat) : Int) from rfl,gm (by omega),dG,bM]
  refine⟨by simp; omega, ?_⟩
  exact hQ M4 (((k1.trans k2).trans k3).trans k4)
 intro J hJ
 rw[hv.len]
 refine aR (fun m ys M1=>∃ i:Nat,m=ls.length - i∧ys=[N .i64 (i:Int)]∧i≤ls.length∧ae [] M M1∧(ls.drop i).find? EF=ls.find? EF) _
  ⟨0,rfl,rfl,Nat.zero_le _,ae.refl _ _,rfl⟩ ?_
 rintro next m ys M1 hnext ⟨i,rfl,rfl,hi,k1,he⟩
 dsimp only[ag]
 have hv1:=hv.keep k1 (bs:=[]) (by simp)
 rw[kU]
 refine bi (fun h=>?_) (fun h=>?_)
 rotate_left 1
 ·have h:¬ i<ls.length:=of_decide_eq_false h
  rw[List.drop_eq_nil_of_le (by omega)] at he
  refine hJ _ _ ⟨k1, ?_⟩
  rw[hf,← he]; rfl
 have h:i<ls.length:=of_decide_eq_true h
 obtain⟨pw,hpw,hq,_⟩:=uD hv1 h
 rw[hq,aF]
 rw[List.drop_eq_getElem_cons h,List.find?_cons] at he
 generalize ls[i]=x at *
 have hall:([St x.1.g,St x.1.n,pw,St x.1.v,N .i64 x.2] : List AV).all oneCell=true:=by simp[eT,hpw.one]
 refine zv (b:=0) 5 rfl rfl _ rfl hall rfl fun M2 k2 n2 h2=>?_
 rw[aX,az h2 rfl,ni]
 refine qN (p:=x.1.g != []) (fun hc kk hk=>?_) ?_
 ·rw[aX,az h2 rfl,ni]; exact hk
 have hu:EF x=!((x.1.n != MF) || (x.1.g != [])):=by
  unfold EF
  by_cases h1:x.1.n=MF <;> by_cases h2:x.1.g=[] <;> simp[h1,h2]
 refine bi (fun hc=>?_) (fun hc=>?_)
 ·rw[hu,hc] at he
  rw[add1 (by omega)]
  exact hnext _ _ _ (by omega) ⟨i + 1,rfl,rfl,by omega,k1.trans k2,he⟩
 ·rw[hu,hc] at he
  simp only[Bool.not_false] at he
  rw[aX,az h2 rfl,bC,show(N .i64 (1:Int))=N .i64 ((1:Nat) : Int) from rfl,eY]
  have hd:nT Sha.dY ls all=if 1≤x.1.v.length∧x.1.v.length≤64 then x.1.v else[99,45]++(Sha.dY all).take 16:=by rw[hf,← he]
  rw[← hf,hd] at hQ
  refine jH (p:=decide (x.1.v.length≤64)) (fun hc kk hk=>?_) ?_
  ·rw[aX,az h2 rfl,bC,show(N .i64 (64:Int))=N .i64 ((64:Nat) : Int) from rfl,MZ]; exact hk
  refine bi (fun hc=>?_) (fun hc=>?_)
  ·simp only[Bool.and_eq_true,decide_eq_true_eq] at hc
   rw[if_pos ⟨by omega,hc.2⟩] at hQ
   rw[aX,az h2 rfl]
   exact hQ _ (k1.trans k2)
  ·refine hJ _ _ ⟨k1.trans k2, ?_⟩
   rw[hd,if_neg]
   rintro⟨a1,a2⟩
   simp only[Bool.and_eq_false_iff,decide_eq_false_iff_not] at hc
   rcases hc with hc | hc <;> omega
theorem Q8 (n:Str) (k:Nat) (hk:k<4611686018427387904) : (kG n k).length≤n.length + 22:=by
 unfold kG
 split
 ·omega
 ·have hw : -9223372036854775808≤IntKind.wrap .i64 ((k:Int) + 1)∧IntKind.wrap .i64 ((k:Int) + 1)≤9223372036854775807:=by
   rw[IntKind.wrap_i64]; omega
  have:=Lib.itoa_length_le _ hw.1 hw.2
  simp; omega
theorem Gx (fs:List Fd) (p:Fd) : oZ (fs++[p])=oZ fs++(p.1++[0]++p.2++[0]):=by simp[oZ]
def NE (B:Base) (c:aj) : Prop:=∀ {M:RM} {v:AV} {ls:List Li} {S:Nat→Prop} {Q:ai},M.base=B→bD gP M v ls S→Kw 5 v→ls≠[]→ls.length≤110000→(∀ x∈ls,qc 100000 x.1) →
 (∀ M' w c,ae [] M M'→Iy Sha.dY ls=.ok c→Ow om M' M.next 30 w c.2.1→Q (.tup [.agg [St c.1,w,N .i64 c.2.2],N .i64 0,N .i64 0]) M') →
 (∀ M' k e,ae [] M M'→Iy Sha.dY ls=.error (k,e)→e≠0→Q (.tup [.agg [St [],aC,N .i64 0],N .i64 k,N .i64 e]) M')→c [v] M Q
theorem AU {B:Base} {TC TL:Nat} {cp cn cc:aj} (hp:Ez B cp) (hn:ME B cn) (hc:Oq B cc) : NE B fun args M Q=>∃ a0,args=[a0]∧sO TC TL cp 30 cn cc a0 M Q:=by
 intro M v ls S Q hM hv0 hcap hne hlen hsz hO hE
 refine⟨_,rfl, ?_⟩
 unfold sO
 simp only[dH]
 have hv:=hv0.lt
 obtain⟨b,r,rfl⟩ : ∃ b r,ls=b :: r:=by
  cases ls with
  | nil=>exact absurd rfl hne
  | cons b r=>exact⟨b,r,rfl⟩
 have hr:Iy Sha.dY (b :: r)=match xO r [] [] with | .error e=>.error e | .ok fs=>.ok (nT Sha.dY r (oZ fs),fs,b.2):=rfl
 simp only[List.length_cons] at hlen
 rw[aF]
 have k1:ae [] M (M.push (.row [St [],aC,N .i64 0] false TC 0)):=(ae.refl _ _).push _
 have h1:(M.push (.row [St [],aC,N .i64 0] false TC 0)).heap M.next=some (.row [St [],aC,N .i64 0] false TC 0):=RM.aQ _
 have n1:(M.push (.row [St [],aC,N .i64 0] false TC 0)).next=M.next + 1:=bF _
 generalize M.push (.row [St [],aC,N .i64 0] false TC 0)=M1 at *
 have hv1:=hv.keep k1 (by simp)
 obtain⟨_,_,_,_,_,_,hq4⟩:=uD hv1 (i:=0) (by simp)
 rw[show(N .i64 (0:Int))=N .i64 ((0:Nat) : Int) from rfl,hq4,List.getElem_cons_zero,aX,bK (l':=[St [],aC,N .i64 b.2]) h1 (by simp) rfl rfl rfl]
 have k2:ae [] M (M1.put M.next (.row [St [],aC,N .i64 b.2] false TC 0)):=k1.put _ (.inl (Nat.le_refl _))
 have h2:(M1.put M.next (.row [St [],aC,N .i64 b.2] false TC 0)).heap M.next=some (.row [St [],aC,N .i64 b.2] false TC 0):=ay _
 have n2:(M1.put M.next (.row [St [],aC,N .i64 b.2] false TC 0)).next=M1.next:=rfl
 generalize M1.put M.next (.row [St [],aC,N .i64 b.2] false TC 0)=M2 at *
 rw[aF]
 have k3:ae [] M2 (M2.push (.map [] 0)):=(ae.refl _ _).push _
 have c3:=jO.new M2
 have n3:(M2.push (.map [] 0)).next=M2.next + 1:=bF _
 generalize M2.push (.map [] 0)=M3 at *
 have h3:=k3.ax h2 (by omega) (by simp)
 have k03:=k2.trans k3
 have hv3:=hv.keep k03 (by simp)
 refine RP (R:=gP) hv3 hcap (by simp) fun v' hv'=>?_
 rw[List.drop_one,List.tail_cons] at hv'
 rw[hv'.len]
 refine aR (fun m ys M4=>∃ (i:Nat) (ns:List Str) (fs:List Fd) (w:AV),m=r.length - i∧ys=[St (oZ fs),N .i64 (i:Int)]∧i≤r.length∧ae [M.next,M2.next] M3 M4∧M2.next<M4.next ∧
   M4.heap M.next=some (.row [St [],w,N .i64 b.2] false TC 0)∧Ow om M4 (M2.next + 1) 30 w fs∧jO M4 M2.next (eO ns)∧ns.length=i∧fs.length=i∧(oZ fs).length≤600 * i∧xO (r.drop i) ns fs=xO r [] []) _
  ⟨0,[],[],aC,rfl,rfl,Nat.zero_le _,ae.refl _ _,by omega,h3,.nil,c3,rfl,rfl,by simp[oZ],rfl⟩ ?_
 rintro next m ys M4 hnext ⟨i,ns,fs,w,rfl,rfl,hi,k34,n4,h4,o4,c4,hns,hfs,hal,he⟩
 have k4:ae [] M M4:=k03.eU k34 fun c hc=>.inl (by simp at hc; rcases hc with rfl | rfl <;> omega)
 dsimp only[ag]
 have hM4:M4.base=B:=k4.base.trans hM
 have hwb:=o4.blk
 rw[kU]
 refine bi (fun h=>?_) (fun h=>?_)
 rotate_left 1
 ·have h:¬ i<r.length:=of_decide_eq_false h
  rw[List.drop_eq_nil_of_le (by omega),xO] at he
  rw[← he] at hr
  refine RP (R:=gP) (hv.keep k4 (by simp)) hcap (by simp) fun v4 hv4=>?_
  rw[List.drop_one,List.tail_cons] at hv4
  refine hc hv4 (by omega) (by omega) fun M5 k5=>?_
  have h5:=k5.ax h4 (by omega) (by simp)
  have n5:=k5.next
  have o5:=o4.keep k5 (by simp)
  have how:∀ x:Str,([St x,w,N .i64 b.2] : List AV).all oneCell=true:=fun x=>by
   have hw1:oneCell w=true:=dK.one (Own.sD o4)
   simp[eT,hw1]
  rw[aX,bK (l':=[St (nT Sha.dY r (oZ fs)),w,N .i64 b.2]) h5 (by simp) rfl rfl rfl,aM (n:=3) (ay _) rfl,
   bJ (n:=3) (x:=.agg [St (nT Sha.dY r (oZ fs)),w,N .i64 b.2]) (ay _) rfl rfl (how _),aM (n:=3) (ay _) rfl]
  refine hO _ w _ (((k4.trans k5).put _ (.inl (Nat.le_refl _))).put _ (.inl (Nat.le_refl _))) hr ?_
  have kA:ae [M.next] M5 (M5.put M.next (.row [St (nT Sha.dY r (oZ fs)),w,N .i64 b.2] false TC 0)):=(ae.refl _ _).put _ (.inr (by simp))
  generalize M5.put M.next (.row [St (nT Sha.dY r (oZ fs)),w,N .i64 b.2] false TC 0)=MA at *
  have kB:ae [M.next] MA (MA.put M.next (.row (AV.agg [St (nT Sha.dY r (oZ fs)),w,N .i64 b.2]).cells false TC 0)):=(ae.refl _ _).put _ (.inr (by simp))
  exact((o5.keep kA (fun c hc=>by have:=(hwb c hc).1; simp; omega)).keep kB (fun c hc=>by have:=(hwb c hc).1; simp; omega)).mono (by omega)
 have h:i<r.length:=of_decide_eq_true h
 have hv4:=hv'.keep k34 (fun c hc=>by simp at hc; rcases hc with rfl | rfl <;> omega)
 obtain⟨pw,hpw,hq,_⟩:=uD hv4 h
 have hx:=hsz _ (List.mem_cons_of_mem _ (List.getElem_mem h))
 rw[hq,aF]
 rw[List.drop_eq_getElem_cons h,xO] at he
 generalize r[i]=x at *
 have hall:([St x.1.g,St x.1.n,pw,St x.1.v,N .i64 x.2] : List AV).all oneCell=true:=by simp[eT,hpw.one]
 refine zv (b:=0) 5 rfl rfl _ rfl hall rfl fun M5 k5 n5 h5=>?_
 have hLB:LB 1000000 x.1:=(hx.mono (by omega)).lb
 have WX:=hx.UD
 rw[aM (n:=5) h5 rfl]
 refine hp (k5.base.trans hM4) (jB (k:=x.2) (hpw.keep k5 (by simp))) hLB (by omega) fun M6 k6=>?_
 have hpl:=JJ hLB
 have hcl:=Mm ns (bA x.1).1
 have hnl:=Q8 (bA x.1).1 (eO ns (bA x.1).1) (by omega)
 have hcs:∀ y:Str,eO (ns++[(bA x.1).1]) y=if y=(bA x.1).1 then eO ns (bA x.1).1 + 1 else eO ns y:=fun y=>GR ns _ y
 generalize bA x.1=p at *
 have h6:=k6.ax h5 (by omega) (by simp)
 have n6:=k6.next
 unfold mg
 rw[aF]
 refine zv (b:=0) 2 rfl rfl _ rfl rfl rfl fun M7 k7 n7 h7=>?_
 have k47:ae [] M4 M7:=(k5.trans k6).trans k7
 have h67:=k7.ax h6 (by omega) (by simp)
 rw[aX,az h7 rfl]
 have c7:jO M7 M2.next (eO ns):=c4.keep k47 (by simp)
 refine c7.look ?_
 refine hn (k47.base.trans hM4) (by omega) fun M8 k8=>?_
 have h8:=k8.ax h7 (by omega) (by simp)
 have h68:=k8.ax h67 (by omega) (by simp)
 have n8:=k8.next
 rw[aX,bK (l':=[St (kG p.1 (eO ns p.1)),St p.2]) h8 (by simp) rfl rfl rfl]
 have k9:ae [] M4 (M8.put M6.next (.row [St (kG p.1 (eO ns p.1)),St p.2] false 30 0)):=(k47.trans k8).put _ (.inl (by omega))
 have h9:(M8.put M6.next (.row [St (kG p.1 (eO ns p.1)),St p.2] false 30 0)).heap M6.next=some (.row [St (kG p.1 (eO ns p.1)),St p.2] false 30 0):=ay _
 have h69:(M8.put M6.next (.row [St (kG p.1 (eO ns p.1)),St p.2] false 30 0)).heap M4.next=_:=df h68 (by omega)
 have n9:(M8.put M6.next (.row [St (kG p.1 (eO ns p.1)),St p.2] false 30 0)).next=M8.next:=rfl
 generalize M8.put M6.next (.row [St (kG p.1 (eO ns p.1)),St p.2] false 30 0)=M9 at *
 have c9:jO M9 M2.next (eO ns):=c4.keep k9 (by simp)
 refine c9.look ?_
 rw[add1 (by omega)]
 refine c9.upd fun Ma ca ka na=>?_
 have ca' : jO Ma M2.next (eO (ns++[p.1])):=by rw[show eO (ns++[p.1])=_ from funext hcs]; exact ca
 have ha:=ka.ax h9 (by omega) (by simp; omega)
 have h6a:=ka.ax h69 (by omega) (by simp; omega)
 have h4a:=ka.ax (k9.ax h4 (by omega) (by simp)) (by omega) (by simp; omega)
 have k3a:ae [M.next,M2.next] M3 Ma:=(k34.trans (k9.mono (by simp))).trans (ka.mono (by simp))
 have oa:Ow om Ma (M2.next + 1) 30 w fs:=(o4.keep k9 (by simp)).keep ka fun c hc=>by have:=(hwb c hc).1; simp; omega
 rw[aX,az ha rfl,bC,show(N .i64 (64:Int))=N .i64 ((64:Nat) : Int) from rfl,Gp]
 refine qN (p:=decide (p.2.length > 512)) (fun hc kk hk=>?_) ?_
 ·rw[aX,az ha rfl,bC,show(N .i64 (512:Int))=N .i64 ((512:Nat) : Int) from rfl,Gp]; exact hk
 have hMa:ae [] M Ma:=k03.eU k3a fun c hc=>.inl (by simp at hc; rcases hc with rfl | rfl <;> omega)
 refine bi (fun hb=>?_) (fun hb=>?_)
 ·simp only[Bool.or_eq_true,decide_eq_true_eq] at hb
  rw[if_pos hb] at he
  rw[← he] at hr
  rw[iG]
  refine⟨[St [],aC,N .i64 0],rfl, ?_⟩
  rw[aX,az h6a rfl,bJ (n:=3) (x:=.agg [St [],aC,N .i64 0]) h4a rfl rfl rfl,az (df h6a (by omega)) rfl]
  refine⟨rfl, ?_⟩
  rw[aM (n:=3) (ay _) rfl]
  exact hE _ _ _ (hMa.put _ (.inl (Nat.le_refl _))) hr (by decide)
 ·simp only[Bool.or_eq_false_iff,decide_eq_false_iff_not] at hb
  rw[if_neg (by omega)] at he
  generalize hnf:kG p.1 (eO ns p.1)=nf at *
  rw[aX,az h4a rfl,aM (n:=2) ha rfl,iR (x:=.agg [St nf,St p.2]) (size:=2) rfl rfl rfl,aF]
  refine nG (E:=om) (a:=(nf,p.2)) oa (by omega) (by decide) (by omega) (by omega) ?_
  intro w' Mb ob kb nb hwv
  have hb4:=kb.ax h4a (by omega) (fun h=>by have:=(hwb _ h).1; omega)
  have hb9:=kb.ax ha (by omega) (fun h=>by have:=(hwb _ h).2; omega)
  have hob:=ob.blk
  have how' : oneCell w'=true:=dK.one (Own.sD ob)
  have Xg:w'.cells=[w']:=dK.cells (Own.sD ob)
  rw[aX,bK (l':=[St [],w',N .i64 b.2]) hb4 (by simp) Xg how' rfl]
  have kc:ae [M.next] Mb (Mb.put M.next (.row [St [],w',N .i64 b.2] false TC 0)):=(ae.refl _ _).put _ (.inr (by simp))
  have hc4:(Mb.put M.next (.row [St [],w',N .i64 b.2] false TC 0)).heap M.next=some (.row [St [],w',N .i64 b.2] false TC 0):=ay _
  have hc9:(Mb.put M.next (.row [St [],w',N .i64 b.2] false TC 0)).heap M6.next=_:=df hb9 (by omega)
  have nc:(Mb.put M.next (.row [St [],w',N .i64 b.2] false TC 0)).next=Mb.next:=rfl
  generalize Mb.put M.next (.row [St [],w',N .i64 b.2] false TC 0)=Mc at *
  have oc:Ow om Mc (M2.next + 1) 30 w' (fs++[(nf,p.2)]):=ob.keep kc fun c hc=>by have:=(hob c hc).1; simp; omega
  have cc' : jO Mc M2.next (eO (ns++[p.1])):=(ca'.keep kb (fun h=>by have:=(hwb _ h).1; omega)).keep kc (by simp; omega)
  rw[aX,az hc9 rfl,bM]
  refine⟨by simp; omega, ?_⟩
  rw[aX,az hc9 rfl,bM]
  refine⟨by simp; omega, ?_⟩
  rw[bM]
  refine⟨by simp; omega, ?_⟩
  rw[bM]
  refine⟨by simp; omega, ?_⟩
  rw[add1 (by omega)]
  have k3c:ae [M.next,M2.next] M3 Mc:=(k3a.eU kb fun c hc=>.inl (by have:=(hwb c hc).1; omega)).trans (kc.mono (by simp))
  exact hnext _ _ _ (by omega) ⟨i + 1,ns++[p.1],fs++[(nf,p.2)],w',rfl,by rw[Gx],by omega,k3c,by omega,hc4,oc,cc',by simp[hns],by simp[hfs],by rw[Gx]; simp; omega,he⟩
theorem QD (s:Str) : (mr s).1.length + (mr s).2.1.length≤s.length:=by
 unfold mr
 cases hh:bH 34 s with
 | true =>
   have:=aZ hh
   rw[if_pos rfl]
   cases hb:brk 34 (s.drop 1) with
   | none=>simp
   | some x =>
     have:=LX (a:=x.1) (b:=x.2) (by rw[hb])
     simp at this ⊢; omega
 | false =>
   rw[if_neg (by simp)]
   split
   ·simp
   ·simp; omega
theorem Jt:∀ (k:Nat) (s:Str) (acc vs:List Str) (r:Str),1≤s.length→jd k s acc=some (vs,r)→dQ vs + 3 * r.length≤dQ acc + 3 * s.length
 | 0,_,_,_,_,_,h=>by cases h
 | k + 1,s,acc,vs,r,h1,h=>by
   rw[jd] at h
   have hl:=QD (s.drop 1)
   rw[List.length_drop] at hl
   generalize mr (s.drop 1)=x at *
   obtain⟨v,q,ok⟩:=x
   dsimp only at h hl
   split at h
   ·split at h
    ·rename_i hh
     have:=Jt k q _ vs r (aZ hh) h
     rw[BC] at this
     omega
    ·cases h
     rw[BC]; omega
   ·cases h
theorem Mh (f:Str→Str) : ∀ (k:Nat) (s:Str) (acc ps:List jG) (r:Str),pz f k s acc=some (ps,r)→iH ps + 3 * r.length≤iH acc + 3 * s.length
 | 0,_,_,_,_,h=>by cases h
 | k + 1,s,acc,ps,r,h=>by
   rw[pz] at h
   split at h
   ·rename_i h59
    have hp:=aZ h59
    have hw:=uw (s.drop 1)
    rw[List.length_drop] at hw
    split at h
    ·rename_i h61
     simp only[Bool.and_eq_true] at h61
     have hq:=aZ h61.2
     cases hv:jd ((s.drop 1).drop (wk (s.drop 1))).length ((s.drop 1).drop (wk (s.drop 1))) [] with
     | none=>rw[hv] at h; cases h
     | some x =>
       obtain⟨vs,q⟩:=x
       rw[hv] at h
       dsimp only at h
       have h1:=Jt _ _ _ _ _ hq hv
       have h2:=Mh f k q _ ps r h
       rw[LF] at h2
       simp only[show dQ []=0 from rfl,List.length_drop,List.length_map,List.length_take] at h1 h2
       omega
    ·cases h
   ·cases h; omega
theorem Qw {f:Str→Str} {s:Str} {L:Ln} (h:ol f s=some L) : qc (3 * s.length) L:=by
 unfold ol at h
 split at h
 ·have hd:∀ {g n r:Str},yF f s=some (g,n,r)→g.length≤s.length∧n.length≤s.length∧r.length≤s.length:=by
   intro g n r hh
   have h1:=uw s
   unfold yF at hh
   split at hh
   ·split at hh
    ·cases hh
     simp[dX]; omega
    ·cases hh
   ·cases hh
    simp[dX]; omega
  split at h
  ·cases h
  ·rename_i g n r hh
   obtain⟨h1,h2,h3⟩:=hd hh
   unfold Ih at h
   split at h
   ·cases h
   ·rename_i ps q hp
    unfold qZ at hp
    have:=Mh f _ _ _ _ _ hp
    simp only[show iH []=0 from rfl] at this
    split at h
    ·cases h
     exact⟨by dsimp only; omega,by dsimp only; omega,by dsimp only; simp; omega,by dsimp only; omega⟩
    ·cases h
 ·cases h
theorem xN {f:Str→Str} (P:Li→Prop) : ∀ (l:List (Str × Int)) (acc ls:List Li),(∀ x∈acc,P x)→(∀ s k L,(s,k)∈l→s.length≤912→ol f s=some L→P (L,k))→ik f l acc=.ok ls→∀ x∈ls,P x
 | [],acc,ls,ha,_,h=>by
   cases h; exact ha
 | (s,k) :: r,acc,ls,ha,hl,h=>by
   have hl' : ∀ s k L,(s,k)∈r→s.length≤912→ol f s=some L→P (L,k):=fun s k L h=>hl s k L (List.mem_cons_of_mem _ h)
   rw[ik] at h
   split at h
   ·exact xN P r acc ls ha hl' h
   ·split at h
    ·cases h
    ·rename_i hn
     split at h
     ·cases h
     ·rename_i L hL
      refine xN P r _ ls (fun x hx=>?_) hl' h
      rcases List.mem_append.1 hx with hx | hx
      ·exact ha x hx
      ·simp at hx; subst hx; exact hl s k L (List.mem_cons_self ..) (by omega) hL
theorem Js:∀ (xs acc:List Str) (ns:List Int) (k:Int),(∀ n∈ns,0<n)→0<k→k + xs.length<4611686018427387904→∀ n∈(kI acc ns k xs).2,0<n
 | [],acc,ns,k,h,_,_,n,hn=>h n hn
 | x :: xs,acc,ns,k,h,hk,hb,n,hn=>by
   rw[kI] at hn
   simp only[List.length_cons] at hb
   have hw:IntKind.wrap .i64 (k + 1)=k + 1:=by rw[IntKind.wrap_i64]; omega
   rw[hw] at hn
   refine Js xs _ _ (k + 1) (fun m hm=>?_) (by omega) (by omega) n hn
   split at hm
   ·exact h m hm
   ·rcases List.mem_append.1 hm with hm | hm
    ·exact h m hm
    ·simp at hm; omega
theorem UI {s:Str} {ls:List Li} (hs:s.length≤100000000) (h:Gz mh s=.ok ls) : ∀ x∈ls,qc 2736 x.1∧0<x.2:=by
 refine xN (fun x=>qc 2736 x.1∧0<x.2) _ [] ls (by simp) (fun t k L hm hl hr=>⟨(Qw hr).mono (by omega), ?_⟩) h
 have:=(List.of_mem_zip hm).2
 have hr:=sH s []
 exact Js _ _ _ _ (by simp) (by decide) (by omega) k this
theorem xA {f:Str→Str} : ∀ (l:List (Str × Int)) (acc ls:List Li),ik f l acc=.ok ls→ls.length≤acc.length + l.length
 | [],acc,ls,h=>by cases h; simp
 | (s,k) :: r,acc,ls,h=>by
   rw[ik] at h
   split at h
   ·have:=xA r acc ls h; simp; omega
   ·split at h
    ·cases h
    ·split at h
     ·cases h
     ·have:=xA r _ ls h; simp at this ⊢; omega
theorem P9 {s:Str} {ls:List Li} (h:Gz mh s=.ok ls) : ls.length≤s.length + 1:=by
 have h1:=xA _ _ _ h
 have h2:=Ga (gZ [] s) [] [] 1
 have h3:=sH s []
 unfold Qp at h1
 rw[List.length_zip] at h1
 simp only[List.length_nil] at h1 h2
 omega
theorem Dx {b:Int} : ∀ (l acc c r:List Li),iA b l acc=.ok (c,r)→(∃ d,c=acc++d∧∀ x∈d,x∈l)∧(∀ x∈r,x∈l)∧c.length + r.length≤acc.length + l.length
 | [],_,_,_,h=>by cases h
 | x :: l,acc,c,r,h=>by
   rw[iA] at h
   split at h
   ·cases h
    exact⟨⟨[],by simp,by simp⟩,fun x hx=>List.mem_cons_of_mem _ hx,by simp⟩
   ·split at h
    ·cases h
    ·obtain⟨⟨d,h1,h2⟩,h3,h4⟩:=Dx l _ c r h
     refine⟨⟨x :: d,by rw[h1]; simp,fun y hy=>?_⟩,fun y hy=>List.mem_cons_of_mem _ (h3 y hy),by simp at h4 ⊢; omega⟩
     rcases List.mem_cons.1 hy with rfl | hy
     ·exact List.mem_cons_self ..
     ·exact List.mem_cons_of_mem _ (h2 y hy)
theorem JM {b:Int} : ∀ (l acc:List Li) (e:Int),iA b l acc=.error e→e=b∨∃ x∈l,e=x.2
 | [],_,_,h=>by cases h; exact .inl rfl
 | x :: l,acc,e,h=>by
   rw[iA] at h
   split at h
   ·cases h
   ·split at h
    ·cases h; exact .inr ⟨x,List.mem_cons_self ..,rfl⟩
    ·rcases JM l _ e h with h | ⟨y,hy,h⟩
     ·exact .inl h
     ·exact .inr ⟨y,List.mem_cons_of_mem _ hy,h⟩
theorem Jz:∀ (k:Nat) (l:List Li) (acc css:List (List Li)),qE k l acc=.ok css→∀ c∈css,c∈acc∨(c≠[]∧c.length≤l.length∧∀ x∈c,x∈l)
 | 0,l,acc,css,h,c,hc=>by cases h; exact .inl hc
 | k + 1,[],acc,css,h,c,hc=>by cases h; exact .inl hc
 | k + 1,x :: r,acc,css,h,c,hc=>by
   rw[lK] at h
   split at h
   ·cases h
   ·cases r with
    | nil=>cases h
    | cons y r =>
      dsimp only at h
      split at h
      ·cases h
      ·cases hb:iA x.2 r [x] with
       | error e=>rw[hb] at h; cases h
       | ok p =>
         obtain⟨c1,r'⟩:=p
         rw[hb] at h
         dsimp only at h
         obtain⟨⟨d,h1,h2⟩,h3,h4⟩:=Dx _ _ _ _ hb
         have hl:=wO _ _ _ _ hb
         rcases Jz k r' _ css h c hc with h5 | ⟨h5,h6,h7⟩
         ·rcases List.mem_append.1 h5 with h5 | h5
          ·exact .inl h5
          ·simp at h5; subst h5
           refine .inr ⟨by rw[h1]; simp,by simp at h4 ⊢; omega,fun z hz=>?_⟩
           rw[h1] at hz
           rcases List.mem_append.1 hz with hz | hz
           ·simp at hz; subst hz; exact List.mem_cons_self ..
           ·exact List.mem_cons_of_mem _ (List.mem_cons_of_mem _ (h2 z hz))
         ·exact .inr ⟨h5,by simp; omega,fun z hz=>List.mem_cons_of_mem _ (List.mem_cons_of_mem _ (h3 z (h7 z hz)))⟩
theorem Jd:∀ (k:Nat) (l:List Li) (acc:List (List Li)) (e:Int),qE k l acc=.error e→∃ x∈l,e=x.2
 | 0,l,acc,e,h=>by cases h
 | k + 1,[],acc,e,h=>by cases h
 | k + 1,x :: r,acc,e,h=>by
   rw[lK] at h
   split at h
   ·cases h; exact⟨x,List.mem_cons_self ..,rfl⟩
   ·cases r with
    | nil=>cases h; exact⟨x,List.mem_cons_self ..,rfl⟩
    | cons y r =>
      dsimp only at h
      split at h
      ·cases h; exact⟨y,by simp,rfl⟩
      ·cases hb:iA x.2 r [x] with
       | error e' =>
         rw[hb] at h; cases h
         rcases JM _ _ _ hb with h | ⟨z,hz,h⟩
         ·exact⟨x,List.mem_cons_self ..,h⟩
         ·exact⟨z,by simp[hz],h⟩
       | ok p =>
         obtain⟨c1,r'⟩:=p
         rw[hb] at h
         obtain⟨_,h3,_⟩:=Dx _ _ _ _ hb
         obtain⟨z,hz,h⟩:=Jd k r' _ e h
         exact⟨z,by simp[h3 z hz],h⟩
def G9:jk Cd where
 size:=3
 rel M cs c S:=∃ v,cs=[St c.1,v,N .i64 c.2.2]∧bD om.iY M v c.2.1 S
 len h:=by obtain⟨v,rfl,h⟩:=h; rfl
 one h:=by obtain⟨v,rfl,h⟩:=h; simp[h.one,eT]
 mono h hs:=by obtain⟨v,rfl,h⟩:=h; exact⟨v,rfl,h.mono hs⟩
 lt h:=by obtain⟨v,rfl,h⟩:=h; exact⟨v,rfl,h.lt⟩
 keep h hk hb:=by obtain⟨v,rfl,h⟩:=h; exact⟨v,rfl,h.keep hk hb⟩
def F4 (B:Base) (c:aj) : Prop:=∀ {M:RM} {s:Str} {Q:ai},M.base=B→s.length≤100000000→(∀ ls,Gz mh s=.ok ls→ls.length≤100000) →
 (∀ M' w cs,ae [] M M'→uW Sha.dY s=.ok cs→bD G9 M' w cs (fun b=>M.next≤b)→cs.length≤s.length + 1→Q (.tup [w,N .i64 0,N .i64 0]) M') →
 (∀ M' k e,ae [] M M'→uW Sha.dY s=.error (k,e)→e≠0→Q (.tup [aC,N .i64 k,N .i64 e]) M')→c [St s] M Q
theorem Bd {f:Str→Str} : ∀ (l:List (Str × Int)) (acc:List Li) {k e:Int},ik f l acc=.bad k e→e≠0
 | [],acc,k,e,h=>by cases h
 | (s,n) :: r,acc,k,e,h=>by
   rw[ik] at h
   split at h
   ·exact Bd r acc h
   ·split at h
    ·cases h; decide
    ·split at h
     ·cases h; decide
     ·exact Bd r _ h
theorem QU {B:Base} {TC:Nat} {cr cc cd:aj} (hr:tC B mh cr) (hc:vG B cc) (hd:NE B cd) : F4 B fun args M Q=>∃ a0,args=[a0]∧oK cr cc cd TC a0 M Q:=by
 intro M s Q hM hlen hcnt hO hE
 refine⟨_,rfl, ?_⟩
 unfold oK
 unfold uW at hO hE
 refine hr hM hlen ?_ ?_
 rotate_left 1
 ·intro M1 k e k1 hrd
  rw[hrd] at hE
  have h0:=Bd _ _ hrd
  rw[bG,bI,iq,fP,show(e != 0)=true by simpa using h0,eQ]
  exact hE M1 k e k1 rfl h0
 intro v M1 ls k1 hrd hv hll
 have hall:=UI hlen hrd
 have hll':=hcnt ls hrd
 rw[hrd] at hO hE
 dsimp only at hO hE
 rw[bG,bI,iq,fP,show((0:Int) != 0)=false from rfl,dU]
 have n1:=k1.next
 refine hc (k1.base.trans hM) hv (by omega) (fun x hx=>((hall x hx).1.mono (by omega)).lb) ?_ ?_
 rotate_left 1
 ·intro M2 k k2 hcut
  obtain⟨x,hx,rfl⟩:=Jd _ _ _ _ hcut
  unfold Bp at hcut
  rw[hcut] at hE
  rw[bG,bI,uf,show decide (x.2 > 0)=true from decide_eq_true (hall x hx).2,eQ]
  exact hE M2 x.2 3 (k1.trans k2) rfl (by decide)
 intro M2 w css k2 hcut hw hcl
 have hcs:=Jz _ _ _ _ hcut
 unfold Bp at hcut
 rw[hcut] at hO hE
 dsimp only at hO hE
 rw[bG,bI,uf,show decide ((0:Int) > 0)=false from rfl,dU,hw.len]
 have k02:=k1.trans k2
 have hw2:=(hw.mono (S':=fun b=>M.next≤b) fun b h=>by rcases h with h | h <;> omega).lt
 refine aR (fun m ys M3=>∃ (i:Nat) (o:AV) (acc:List Cd),m=css.length - i∧ys=[o,N .i64 (i:Int)]∧i≤css.length∧acc.length=i∧ae [] M2 M3 ∧
   eu G9 M3 M2.next TC o acc (fun b=>M2.next≤b∧b<M3.next∧b ∉ aD o)∧wD Sha.dY (css.drop i) acc=wD Sha.dY css []) _
  ⟨0,aC,[],rfl,rfl,Nat.zero_le _,rfl,ae.refl _ _,.nil,rfl⟩ ?_
 rintro next m ys M3 hnext ⟨i,o,acc,rfl,rfl,hi,hal,k3,ho,he⟩
 dsimp only[ag]
 have hob:=ho.blk
 have n2:=k2.next
 have n3:=k3.next
 rw[kU]
 refine bi (fun h=>?_) (fun h=>?_)
 rotate_left 1
 ·have h:¬ i<css.length:=of_decide_eq_false h
  rw[List.drop_eq_nil_of_le (by omega),wD] at he
  refine hO M3 o acc (k02.trans k3) he.symm ?_ (by omega)
  exact(ho.mono (S':=fun b=>M.next≤b) fun b h=>by omega).Cj fun b h _=>by omega
 have h:i<css.length:=of_decide_eq_true h
 have hw3:=hw2.keep k3 (by simp)
 obtain⟨bb,oo,ds,_,_,hidx,hld,cv,rfl,hcv,hcap⟩:=bD.at hw3 1 (i:Int) h
 have c0:M3.cell bb oo=some cv:=oV hld rfl
 rw[hidx,dZ,c0]
 refine⟨_,rfl, ?_⟩
 rw[List.drop_eq_getElem_cons h,wD] at he
 rcases hcs _ (List.getElem_mem h) with hbad | ⟨hne,Uu,hsub⟩
 ·simp at hbad
 generalize css[i]=c at *
 refine hd ((k02.trans k3).base.trans hM) hcv hcap hne (by omega) (fun x hx=>(hall x (hsub x hx)).1.mono (by omega)) ?_ ?_
 rotate_left 1
 ·intro M4 k e k4 hcd h0
  rw[hcd] at he
  dsimp only at he
  rw[← he] at hE
  rw[bG,bI,iq,aF]
  refine zv (b:=0) 3 rfl rfl _ rfl rfl rfl fun M5 k5 n5 h5=>?_
  rw[fP,show(e != 0)=true by simpa using h0,eQ]
  exact hE M5 k e (((k02.trans k3).trans k4).trans k5) rfl h0
 intro M4 fv cd k4 hcd hfv
 rw[hcd] at he
 dsimp only at he
 have hf1:oneCell fv=true:=dK.one (Own.sD hfv)
 have Si:([St cd.1,fv,N .i64 cd.2.2] : List AV).all oneCell=true:=by simp[eT,hf1]
 have n4:=k4.next
 have hfb:=Own.blk hfv
 rw[bG,bI,iq,aF]
 refine zv (b:=0) 3 rfl rfl _ rfl Si rfl fun M5 k5 n5 h5=>?_
 rw[fP,show((0:Int) != 0)=false from rfl,dU,aM (n:=3) h5 rfl,iR (x:=.agg [St cd.1,fv,N .i64 cd.2.2]) (size:=3) rfl Si rfl,aF]
 have k45:=k4.trans k5
 let S' : Nat→Prop:=fun b=>M2.next≤b∧b<M5.next∧b ∉ aD o
 have ho5:eu G9 M5 M2.next TC o acc S':=(ho.keep k45 (by simp) (by simp)).mono fun b h=>⟨h.1,by omega,h.2.2⟩
 have hel:G9.rel M5 [St cd.1,fv,N .i64 cd.2.2] cd S':=⟨fv,rfl,bD.Vk (dK.keep (Own.sD hfv) k5 (by simp)) fun b hb=>⟨by have:=(hfb b hb).1; omega,by have:=(hfb b hb).2; omega,fun hbo=>by have:=(hfb b hb).1; have:=(hob b hbo).2; omega⟩⟩
 refine eu.app (R:=G9) ho5 hel (by omega) (by decide) (fun b hb h=>h.2.2 hb) (fun b h=>h.2.1) (by omega) (by omega) ?_
 intro o' M6 o6 k6 n6 _ hd6
 rw[add1 (by omega)]
 refine hnext _ _ _ (by omega) ⟨i + 1,o',acc++[cd],rfl,rfl,by omega,by simp[hal],(k3.trans k45).eU k6 fun c hc=>.inl (hob c hc).1, ?_,he⟩
 exact o6.mono fun b h=>⟨h.1,by have:=h.2.1; omega,fun hb=>hd6 b hb h⟩
theorem EW {cs:List UInt8} {ci cv cq:aj} (hcs:Asc cs) (hl:cs.length≤1000) (hi:oJ ci) (hv:xP cv) : wQ cs fun args M Q=>∃ a0 a1,args=[a0,a1]∧iT ci cv cq a0 a1 M Q:=by
 intro M r Q hr hQ
 refine⟨_,_,rfl, ?_⟩
 unfold iT
 simp only[dH,dI,mX]
 by_cases h1:r<128
 ·have e1:decide ((r:Int)<128)=true:=by simp; omega
  simp only[go_sem,decide_true,e1]
  have:N .u8 (IntKind.wrap .u8 (r:Int))=By (UInt8.ofNat r):=by
   have h2:IntKind.wrap .u8 (r:Int)=(r:Int):=by unfold IntKind.wrap; simp[IntKind.bits,IntKind.signed]; omega
   rw[h2]; simp[By]; omega
  rw[this]
  refine hi ?_
  have:=hQ M (ae.refl _ _)
  rw[Ce,if_pos h1] at this
  exact this
 have hm:Ce cs r=-1:=by rw[Ce,if_neg h1]
 rw[hm] at hQ
 have e1:decide ((r:Int)<128)=false:=by simp; omega
 simp only[go_sem,decide_true,e1]
 refine⟨fun h2=>?_,fun h2=>?_⟩
 ·refine⟨cs,rfl, ?_⟩
  simp only[go_sem]
  refine aR (fun m ys M3=>∃ pos:Nat,m=cs.length - pos∧ys=[]∧M3.heap M.next=some (.fM cs pos)∧ae [] M M3∧M.next<M3.next) _
   ⟨0,rfl,rfl,RM.aQ _,(ae.refl _ _).push _,by simp[RM.push]⟩ ?_
  rintro next m ys M3 hnext ⟨pos,rfl,rfl,hh,hk,hlt⟩
  refine⟨_,_,_,rfl,hh, ?_⟩
  split
  ·rename_i hp
   rcases sP hp with⟨d1,d2⟩ | ⟨d1,_⟩
   ·rw[d2]
    simp only[go_sem]
    have e3:((bt cs pos:Int) == 65533)=false:=by simp; omega
    simp only[e3]
    refine⟨fun h=>by simp at h,fun _=>hnext _ _ _ (by omega) ⟨pos + 1,rfl,rfl,RM.jD _ _,hk.put _ (.inl (Nat.le_refl _)),by simpa [RM.mR] using hlt⟩⟩
   ·have:=hcs.bt hp; omega
  ·simp only[go_sem]
   exact hQ M3 hk
 ·refine hv fun b=>?_
  cases b with
  | false=>simp only[go_sem]; exact hQ M (ae.refl _ _)
  | true =>
    simp only[go_sem]
    obtain⟨a,x,hax,hx,ha1,ha2⟩:=KP (r:=r) (by omega)
    rw[hax]
    have w1:IntKind.wrap .i64 (((a++[x]).length:Int) - 1)=((a.length:Nat) : Int):=by simp; rw[wX (by omega) (by omega)]
    have hxn:x ∉ cs:=fun h=>by have:=hcs x h; omega
    rw[w1]
    refine aR (fun m ys M3=>M3=M∧∃ y,ys=[N .i64 (a.length:Int),y]) 0 ⟨rfl,_,rfl⟩ ?_
    rintro next m ys M3 hnext ⟨rfl,y,rfl⟩
    simp only[go_sem]
    refine⟨fun h3=>?_,fun h3=>hQ M3 (ae.refl _ _)⟩
    have h3:a.length<cs.length:=by simpa using h3
    have hbt:=hcs.bt h3
    refine wZ ?_
    have hla:(a++[x])[a.length]?=some x:=by simp
    refine⟨_,List.getElem?_eq_getElem h3,x,hla,fun _=>?_,fun hne=>?_⟩
    ·rw[show IntKind.wrap .i64 ((a.length:Int) + 1)=((a.length + 1:Nat) : Int) by rw[wX (by omega) (by omega)]; omega]
     rw[bB (by omega)]
     simp only[go_sem]
     refine⟨x,hla,hi ?_⟩
     rw[Hz (fun h=>hxn (List.mem_of_mem_drop h))]
     simp only[go_sem,show decide ((-1:Int)<0)=true from rfl]
     exact hQ M3 (ae.refl _ _)
    ·rw[Io h3] at hne
     have:((bt cs a.length:Int) != (x.toNat:Int))=true:=by simp; omega
     rw[this] at hne; cases hne
theorem IV {x:UInt8} {g:Nat} {ci xx c1 c2:aj} (hi:oJ ci) : FO x fun args M Q=>∃ a0 a1,args=[a0,a1]∧eH ci g xx c1 c2 a0 a1 M Q:=by
 intro M s Q hQ
 refine⟨_,_,rfl, ?_⟩
 unfold eH
 rw[bC,bR,show((([x] : List UInt8).length:Int) == 0)=false from rfl]
 simp only[dH]
 by_cases h:[x]=s
 ·subst h
  have:Lib.indexByte [x] x=0:=by simp[Lib.indexByte]
  rw[this] at hQ
  simp only[go_sem,beq_self_eq_true]
  exact hQ
 ·have h' : (([x] : List UInt8) == s)=false:=by simp[h]
  simp only[go_sem,h']
  exact⟨fun _=>⟨by omega,x,rfl,hi hQ⟩,fun h=>absurd h (by decide)⟩
def RY (B:Base) (c:aj) : Prop:=∀ {M:RM} {s:Str} {Q:ai},M.base=B→s≠[]→s.length≤1000000→Q (.tup [N .i32 ((dec s).1:Int),N .i64 (rs s:Int)]) M→c [St s] M Q
def PU (B:Base) (c:aj) : Prop:=(∀ {M:RM} {y:UInt8} {Q:ai},M.base=B→y∈bV→Q (N .i32 ((y.toNat:Int) - 32)) M→c [N .i32 (y.toNat:Int)] M Q) ∧
 ∀ {M:RM} {y:UInt8} {Q:ai},M.base=B→y∈bV→Q (N .i32 (y.toNat:Int)) M→c [N .i32 ((y.toNat:Int) - 32)] M Q
theorem letter {y:UInt8} (h:y∈bV) : 97≤y.toNat∧y.toNat≤122:=by
 have:bV.all (fun y=>decide (97≤y.toNat) && decide (y.toNat≤122))=true:=by decide
 have:=List.all_eq_true.1 this y h
 simpa using this
theorem SH:∀ x:Fin 256,∀ y∈bV,decide (EX .u8 (x.val:Int) (y.toNat:Int) ≥ 128)=decide (128≤x.val):=by decide +kernel
theorem O5 {c y:UInt8} (hy:y∈bV) (h:128≤c.toNat) : dF c≠y:=by
 have:=letter hy
 unfold dF
 rw[if_neg (by omega)]
 intro e; rw[e] at h; omega
theorem add32 {c:UInt8} (h:c.toNat≤90) : (c + 32).toNat=c.toNat + 32:=by
 rw[UInt8.toNat_add,show(32:UInt8).toNat=32 from rfl,Nat.mod_eq_of_lt (by omega)]
theorem Gf {c y:UInt8} (hy:y∈bV) : dF c=y↔c=y∨(65≤c.toNat∧c.toNat≤90∧y.toNat=c.toNat + 32):=by
 have hl:=letter hy
 unfold dF
 split
 ·rename_i h
  constructor
  ·intro e
   right
   refine⟨h.1,h.2, ?_⟩
   rw[← e]; first | exact add32 h.2 | (rw[UInt8.toNat_ofNat',Nat.mod_eq_of_lt (by omega)])
  ·rintro(rfl | ⟨_,_,e⟩)
   ·omega
   ·apply UInt8.toNat_inj.1
    first | (rw[add32 h.2,e]) | (rw[UInt8.toNat_ofNat',Nat.mod_eq_of_lt (by omega),e])
 ·rename_i h
  constructor
  ·exact fun e=>.inl e
  ·rintro(rfl | ⟨h1,h2,_⟩)
   ·rfl
   ·exact absurd ⟨h1,h2⟩ h
theorem GI {c:UInt8} {r:Str} (h:c.toNat<128) : dec (c :: r)=(c.toNat,1):=by
 unfold dec
 have hb:bt (c :: r) 0=c.toNat:=rfl
 rw[hb]
 simp[Lib.decodeN,h]
theorem WV {a b:Nat} {K:AV→Prop} : FY false (N .i64 (a:Int)) (N .i64 (b:Int)) K=K (N .i64 ((min a b:Nat) : Int)):=by
 rw[Ua]
 have:(if false=true then(if (b:Int) > a then(b:Int) else a) else(if (b:Int)<a then(b:Int) else a))=((min a b:Nat) : Int):=by
  rw[if_neg (by simp)]; split <;> omega
 rw[this]
theorem Lb {B:Base} {cd cs:aj} (hd:RY B cd) (hs:PU B cs) : Gh B fun args M Q=>∃ a0 a1,args=[a0,a1]∧kS cd cs a0 a1 M Q:=by
 intro M s Q hM hl hQ
 refine⟨_,_,rfl, ?_⟩
 unfold kS
 simp only[dH,dI]
 rw[bC,bC,WV,show bV.length=5 from rfl]
 have hno:(∃ i,i<s.length∧∃ h:i<5,dF (s.getD i 0)≠bV.getD i 0)→∀ M',ae [] M M'→Q (Bo false) M':=by
  rintro⟨i,h1,h2,h3⟩ M' k'
  refine hQ M' false k' ?_
  rw[Bool.false_and]
  refine(decide_eq_false fun e=>h3 ?_).symm
  have:=congrArg (fun l:Str=>l.getD i 0) e
  simp only[List.getD_eq_getElem?_getD,List.getElem?_map,List.getElem?_eq_getElem h1,Option.map_some,Option.getD_some] at this ⊢
  exact this
 refine aR (fun m ys M1=>∃ i:Nat,m=5 - i∧ys=[N .i64 (i:Int)]∧i≤min s.length 5∧M1=M∧(s.take i).map dF=bV.take i) _
  ⟨0,rfl,rfl,Nat.zero_le _,rfl,rfl⟩ ?_
 rintro next m ys M1 hnext ⟨i,rfl,rfl,hi,rfl,he⟩
 dsimp only[ag]
 rw[kU]
 refine bi (fun h=>?_) (fun h=>?_)
 rotate_left 1
 ·have h:¬ i<min s.length 5:=of_decide_eq_false h
  rw[bC,bC,show bV.length=5 from rfl,bR]
  have hi:i=min s.length 5:=by omega
  refine hQ _ _ (ae.refl _ _) ?_
  by_cases h5:s.length=5
  ·have:i=5:=by omega
   subst this
   have e1:((s.length:Int) == (5:Nat))=true:=by simp[h5]
   rw[e1,decide_eq_true h5]
   rw[List.take_of_length_le (by omega),show bV.take 5=bV from rfl] at he
   rw[decide_eq_true he]; rfl
  ·rw[decide_eq_false h5,Bool.and_false]
   refine(decide_eq_false fun e=>h5 ?_).symm
   have:=congrArg List.length e
   simpa using this
 have h:i<min s.length 5:=of_decide_eq_true h
 have h1:i<s.length:=by omega
 have h2:i<bV.length:=by show i<5; omega
 have hy:bV[i]∈bV:=List.getElem_mem h2
 have hgs:s.getD i 0=s[i]:=by rw[List.getD_eq_getElem?_getD,List.getElem?_eq_getElem h1]; rfl
 have hgt:bV.getD i 0=bV[i]:=by rw[List.getD_eq_getElem?_getD,List.getElem?_eq_getElem h2]; rfl
 have hne:dF s[i]≠bV[i]→∀ M',ae [] M1 M'→Q (Bo false) M':=fun hn=>hno ⟨i,h1,h2,by rw[hgs,hgt]; exact hn⟩
 have hst:dF s[i]=bV[i]→(s.take (i + 1)).map dF=bV.take (i + 1):=by
  intro e
  rw[List.take_succ_eq_append_getElem h1,List.take_succ_eq_append_getElem h2,List.map_append,he,List.map_singleton,e]
 have hdt:bV.drop i=bV[i] :: bV.drop (i + 1):=List.drop_eq_getElem_cons h2
 have hds:s.drop i=s[i] :: s.drop (i + 1):=List.drop_eq_getElem_cons h1
 refine bN (fun ys M'=>M'=M1∧dF s[i]=bV[i]) ?_ ?_
 ·rintro ys M' ⟨rfl,e⟩
  rw[add1 (by omega)]
  exact hnext _ _ _ (by omega) ⟨i + 1,rfl,rfl,by omega,rfl,hst e⟩
 intro J hJ
 rw[BO h1,BO h2,By,By,iZ,eY]
 generalize s[i]=x at *
 generalize bV[i]=y at *
 have hor:=SH ⟨x.toNat,x.toNat_lt⟩ y hy
 dsimp only at hor
 rw[hor]
 have hly:=letter hy
 refine bi (fun hc=>?_) (fun hc=>?_)
 ·have hc:128≤x.toNat:=of_decide_eq_true hc
  have hn:=hne (O5 hy hc)
  rw[bB (by omega),dG,bB (by omega),dG,hds,hdt]
  refine⟨_,rfl, ?_⟩
  dsimp only
  rw[aF]
  refine aR (fun m ys M2=>ys=[St (y :: bV.drop (i + 1))]∧M2=M1.push (.fM (x :: s.drop (i + 1)) 0)) 0 ⟨rfl,rfl⟩ ?_
  rintro EP m ys M2 mO ⟨rfl,rfl⟩
  dsimp only[ag]
  refine⟨_,_,_,rfl,RM.aQ _, ?_⟩
  rw[if_pos (by simp)]
  rcases sP (s:=x :: s.drop (i + 1)) (i:=0) (by simp) with⟨d1,_⟩ | ⟨_,d2,d3,_,_⟩
  ·have:bt (x :: s.drop (i + 1)) 0=x.toNat:=rfl
   omega
  generalize Utf8.decode ⟨⟨x :: s.drop (i + 1)⟩⟩ 0=rr at *
  obtain⟨r,n⟩:=rr
  dsimp only at d2 d3 ⊢
  have k2:ae [] M1 ((M1.push (.fM (x :: s.drop (i + 1)) 0)).put M1.next (.fM (x :: s.drop (i + 1)) (0 + n))):=((ae.refl _ _).push _).put _ (.inl (Nat.le_refl _))
  generalize (M1.push (.fM (x :: s.drop (i + 1)) 0)).put M1.next (.fM (x :: s.drop (i + 1)) (0 + n))=M2 at *
  rw[bG,eQ,iq,bC,bR,show(((y :: bV.drop (i + 1)).length:Int) == 0)=false by simp; omega,dU]
  have hB2:M2.base=B:=k2.base.trans hM
  refine hd hB2 (by simp) (by simp; omega) ?_
  have hrs:rs (y :: bV.drop (i + 1))=1:=by rw[rs,if_neg (by simp),GI (by omega)]
  rw[GI (by omega),hrs,bG,bI,bB (by simp),dG,bR]
  have e1:((y.toNat:Int) == (r:Int))=false:=by simp; omega
  rw[e1,dU]
  refine bN (fun ys M'=>M'=M2∧ys=[N .i32 (y.toNat:Int),N .i32 (r:Int)]) ?_ ?_
  rotate_left 1
  ·intro J2 hJ2
   rw[lM,show decide ((y.toNat:Int)<(r:Int))=true from decide_eq_true (by omega),eQ]
   exact hJ2 _ _ ⟨rfl,rfl⟩
  rintro _ M3 ⟨rfl,rfl⟩
  dsimp only[ag]
  rw[lM,show decide ((r:Int)<128)=false from decide_eq_false (by omega),dU]
  refine hs.1 hB2 hy ?_
  refine aR (fun m ys M4=>M4=M3∧((m=1∧ys=[N .i32 ((y.toNat:Int) - 32)])∨(m=0∧ys=[N .i32 (y.toNat:Int)]))) 1 ⟨rfl,.inl ⟨rfl,rfl⟩⟩ ?_
  rintro next3 m ys M4 TZ ⟨rfl,hys⟩
  rcases hys with⟨rfl,rfl⟩ | ⟨rfl,rfl⟩
  ·dsimp only[ag]
   rw[fP,show(((y.toNat:Int) - 32) != (y.toNat:Int))=true by simp; omega]
   simp only[qh]
   rw[lM,show decide (((y.toNat:Int) - 32)<(r:Int))=true from decide_eq_true (by omega),gI,eQ]
   exact hs.2 hB2 hy (TZ _ _ _ (by omega) ⟨rfl,.inr ⟨rfl,rfl⟩⟩)
  ·dsimp only[ag]
   rw[fP,show((y.toNat:Int) != (y.toNat:Int))=false by simp]
   simp only[uK,iV,dU]
   rw[bR,e1,dU]
   exact hn _ k2
 ·have hc:x.toNat<128:=by have:=of_decide_eq_false hc; omega
  rw[bR]
  refine bi (fun hq=>?_) (fun hq=>?_)
  ·have hq:y=x:=by
    have:(y.toNat:Int)=(x.toNat:Int):=by simpa using hq
    exact UInt8.toNat_inj.1 (by omega)
   exact hJ _ _ ⟨rfl,(Gf hy).2 (.inl hq.symm)⟩
  have hxy:x≠y:=fun e=>by rw[e] at hq; simp at hq
  refine bN (fun ys M'=>M'=M1∧ys=[N .u8 (min (x.toNat:Int) y.toNat),N .u8 (max (x.toNat:Int) y.toNat)]) ?_ ?_
  rotate_left 1
  ·intro J2 hJ2
   rw[lM]
   refine bi (fun h=>?_) (fun h=>?_)
   ·have h:=of_decide_eq_true h
    exact hJ2 _ _ ⟨rfl,by congr 2 <;> first | omega | (congr 1; omega) | (congr 2; omega)⟩
   ·have h:=of_decide_eq_false h
    exact hJ2 _ _ ⟨rfl,by congr 2 <;> first | omega | (congr 1; omega) | (congr 2; omega)⟩
  rintro _ M2 ⟨rfl,rfl⟩
  dsimp only[ag]
  have hxn:x.toNat≠y.toNat:=fun e=>hxy (UInt8.toNat_inj.1 e)
  have XQ:¬ (65≤x.toNat∧x.toNat≤90∧y.toNat=x.toNat + 32)→∀ M',ae [] M2 M'→Q (Bo false) M':=fun hh=>hne (fun e=>by
   rcases(Gf hy).1 e with e | e
   ·exact hxy e
   ·exact hh e)
  rw[mX]
  refine jH (p:=decide (min (x.toNat:Int) y.toNat≤90)) (fun hc kk hk=>?_) ?_
  ·rw[mX]; exact hk
  refine jH (p:=decide ((max (x.toNat:Int) y.toNat)=IntKind.wrap .u8 (IntKind.wrap .u8 (min (x.toNat:Int) y.toNat + 97) - 65))) (fun hc kk hk=>?_) ?_
  ·rw[ed,lN,bR]
   have:((max (x.toNat:Int) y.toNat) == IntKind.wrap .u8 (IntKind.wrap .u8 (min (x.toNat:Int) y.toNat + 97) - 65))=decide ((max (x.toNat:Int) y.toNat)=IntKind.wrap .u8 (IntKind.wrap .u8 (min (x.toNat:Int) y.toNat + 97) - 65)):=by
    by_cases h:(max (x.toNat:Int) y.toNat)=IntKind.wrap .u8 (IntKind.wrap .u8 (min (x.toNat:Int) y.toNat + 97) - 65) <;> simp[h]
   rw[this] at *
   exact hk
  refine bi (fun h=>?_) (fun h=>?_)
  ·simp only[Bool.and_eq_true,decide_eq_true_eq] at h
   obtain⟨⟨a1,a2⟩,a3⟩:=h
   have hw:IntKind.wrap .u8 (IntKind.wrap .u8 (min (x.toNat:Int) y.toNat + 97) - 65)=min (x.toNat:Int) y.toNat + 32:=by
    rw[IntKind.wrap_u8,IntKind.wrap_u8]; omega
   rw[hw] at a3
   exact hJ _ _ ⟨rfl,(Gf hy).2 (.inr (by omega))⟩
  ·refine XQ (fun⟨b1,b2,b3⟩=>?_) _ (ae.refl _ _)
   have hw:IntKind.wrap .u8 (IntKind.wrap .u8 (min (x.toNat:Int) y.toNat + 97) - 65)=min (x.toNat:Int) y.toNat + 32:=by
    rw[IntKind.wrap_u8,IntKind.wrap_u8]; omega
   rw[hw] at h
   simp only[Bool.and_eq_false_iff,decide_eq_false_iff_not] at h
   omega
end Go.Ab.Vc
set_option maxRecDepth 100000
namespace Go.Ab.Vc
open Go Go.Ab Go.Ab.Vl
abbrev Wh:Str:=[66,69,71,73,78,58,86,67,65,82,68,10,86,69,82,83,73,79,78,58,52,46,48,10,70,78,58,65,110,110,92,44,32,66,10,84,69,76,59,84,89,80,69,61,104,111,109,101,58,49,10,84,69,76,59,84,89,80,69,61,104,111,109,101,58,50,10,69,78,68,58,86,67,65,82,68,10]
abbrev RL:Str:=[66,69,71,73,78,58,86,67,65,82,68,13,10,86,69,82,83,73,79,78,58,52,46,48,13,10,70,78,58,65,110,110,92,44,32,66,13,10,84,69,76,59,84,89,80,69,61,104,111,109,101,58,49,13,10,84,69,76,59,84,89,80,69,61,104,111,109,101,58,50,13,10,69,78,68,58,86,67,65,82,68,13,10]
abbrev We:Str:=[66,69,71,73,78,58,86,67,65,82,68,10,70,78,58,120]
abbrev Wy:Str:=[70,78,58,120]
abbrev Wo:Str:=[66,69,71,73,78,58,86,67,65,82,68,10,86,69,82,83,73,79,78,58,52,46,48,10,85,73,68,58,117,49,10,70,78,58,97,92,120,98,10,69,78,68,58,118,99,97,114,100]
abbrev kF:List Fd:=[([102,110],[65,110,110,44,32,66]),([116,101,108,59,116,121,112,101,61,104,111,109,101],[49]),([116,101,108,59,116,121,112,101,61,104,111,109,101,35,50],[50])]
abbrev Rf:Str:=[102,110,0,65,110,110,44,32,66,0,116,101,108,59,116,121,112,101,61,104,111,109,101,0,49,0,116,101,108,59,116,121,112,101,61,104,111,109,101,35,50,0,50,0]
abbrev kP:Fd:=([116,101,108,59,116,121,112,101,61,104,111,109,101,35,50],[50])
abbrev kL:Ln:=⟨[],[116,101,108],[([116,121,112,101],[[104,111,109,101]])],[50]⟩
theorem Ux (h:Str→Str) : uW h Wh=.ok [([99,45]++(h Rf).take 16,kF,1)]:=by kernel_rfl
theorem VD:Ku kF=some RL:=by kernel_rfl
theorem UF (h:Str→Str) : uW h RL=.ok [([99,45]++(h Rf).take 16,kF,1)]:=by kernel_rfl
theorem Va:dM kP=(kL,1,true):=by kernel_rfl
theorem Tz:iP kL 1=(kP,true):=by kernel_rfl
theorem T9:yB kP=true:=by kernel_rfl
theorem Uo (h:Str→Str) : uW h We=.error (2,3):=by kernel_rfl
theorem TW (h:Str→Str) : uW h Wy=.error (1,3):=by kernel_rfl
theorem Ui (h:Str→Str) : uW h Wo=.ok [([117,49],[([117,105,100],[117,49]),([114,97,119,46,102,110],[97,92,120,98])],1)]:=by kernel_rfl
theorem Us:Ku [([116,101,108,35,50],[49])]=none:=by kernel_rfl
theorem Ti:yB ([98,101,103,105,110],[86,67,65,82,68])=false:=by kernel_rfl
end Go.Ab.Vc
set_option maxRecDepth 10000
namespace Go.Ab.Vc
open Go Go.Ab Go.Ab.Vl Go.Ab.Sm
theorem ou {M:RM} {c p:Bool} {f:KR→Prop} {G:AV→RM→Prop} (hf:c=true→∀ k:KR,k (Bo p) M none→f k) (hG:G (Bo (c && p)) M) :
  aN (Bo c) true f (fun k=>k .undef M none) (fun t M' b=>aB (Bo c) t (Bo false) fun u=>G u M'):=by
 cases c with
 | false=>rw[nJ]; dsimp only; rw[Go.Ab.iV]; exact hG
 | true=>rw[lT]; exact hf rfl _ (by rw[Go.Ab.gI]; exact hG)
theorem Vt {M:RM} {v:AV} {cs:List Cd} {S:Nat→Prop} (h:bD G9 M v cs S) {i:Nat} (hi:i<cs.length) :
  ∃ w,bD om.iY M w cs[i].2.1 S∧(∀ K:AV→Prop,(bg v (N .i64 (i:Int)) 3 fun p=>aI M p 3 K)=K (.agg [St cs[i].1,w,N .i64 cs[i].2.2])) ∧
    (∀ K:AV→Prop,(bg v (N .i64 (i:Int)) 3 fun p=>aJ p 0 fun q=>ak M q K)=K (St cs[i].1)) ∧
    (∀ K:AV→Prop,(bg v (N .i64 (i:Int)) 3 fun p=>aJ p 1 fun q=>ak M q K)=K w) ∧
    (∀ K:AV→Prop,(bg v (N .i64 (i:Int)) 3 fun p=>aJ p 2 fun q=>ak M q K)=K (N .i64 cs[i].2.2)):=by
 obtain⟨b,o,ds,hb,hbm,hidx,hld,w,rfl,hw⟩:=bD.at h 3 (i:Int) hi
 have c0:M.cell b (o + 0)=some (St cs[i].1):=fU hld (j:=0) rfl
 have c1:M.cell b (o + 1)=some w:=fU hld (j:=1) rfl
 have c2:M.cell b (o + 2)=some (N .i64 cs[i].2.2):=fU hld (j:=2) rfl
 refine⟨w,hw,fun K=>?_,fun K=>?_,fun K=>?_,fun K=>?_⟩
 ·rw[hidx,qf,hld]; simp
 ·rw[hidx,gY,dZ,c0]; simp
 ·rw[hidx,gY,dZ,c1]; simp
 ·rw[hidx,gY,dZ,c2]; simp
theorem Aw {M:RM} {v:AV} {c:Cd} {S:Nat→Prop} (h:bD G9 M v [c] S) :
  ∃ w,bD om.iY M w c.2.1 S∧(∀ K:AV→Prop,(bg v (N .i64 (0:Int)) 3 fun p=>aI M p 3 K)=K (.agg [St c.1,w,N .i64 c.2.2])) ∧
    (∀ K:AV→Prop,(bg v (N .i64 (0:Int)) 3 fun p=>aJ p 0 fun q=>ak M q K)=K (St c.1)) ∧
    (∀ K:AV→Prop,(bg v (N .i64 (0:Int)) 3 fun p=>aJ p 1 fun q=>ak M q K)=K w):=by
 obtain⟨w,h1,h2,h3,h4,_⟩:=Vt h (i:=0) (by simp)
 exact⟨w,h1,h2,h3,h4⟩
theorem Oh {B:Base} {c:aj} (h:F4 B c) {M:RM} {s:Str} {Q:ai} {cs:List Cd} (hM:M.base=B) (hs:s.length≤90000) (he:uW Sha.dY s=.ok cs)
  (hQ:∀ M' w,ae [] M M'→bD G9 M' w cs (fun b=>M.next≤b)→Q (.tup [w,N .i64 0,N .i64 0]) M') : c [St s] M Q:=by
 refine h hM (by omega) (fun ls hl=>by have:=P9 hl; omega) (fun M' w cs' k h1 h2 _=>?_) (fun M' k e _ h1 _=>?_)
 ·rw[he] at h1; cases h1; exact hQ M' w k h2
 ·rw[he] at h1; cases h1
theorem Pp {B:Base} {c:aj} (h:F4 B c) {M:RM} {s:Str} {Q:ai} {k e:Int} (hM:M.base=B) (hs:s.length≤90000) (he:uW Sha.dY s=.error (k,e))
  (hQ:∀ M',ae [] M M'→Q (.tup [aC,N .i64 k,N .i64 e]) M') : c [St s] M Q:=by
 refine h hM (by omega) (fun ls hl=>by have:=P9 hl; omega) (fun M' w cs' k h1 h2 _=>?_) (fun M' k' e' kk h1 _=>?_)
 ·rw[he] at h1; cases h1
 ·rw[he] at h1; cases h1; exact hQ M' kk
theorem b2 (x y:Str) {K:AV→Prop} (h:K (.agg [St x,St y])) : dB [(St []),(St [])] [(0,1,(St x)),(1,1,(St y))] K:=by
 rw[iG]; exact⟨_,by simp[kZ,known,AV.cells,oneCell],h⟩
def U5 (B:Base) (c:aj) : Prop:=∀ {M:RM} {Q:ai},M.base=B→(∀ M',ae [] M M'→Q (Bo true) M')→c [] M Q
theorem n18 (h:Str) (hh:h.length=64) : ([99,45]++h.take 16).length=18:=by simp; omega
set_option maxHeartbeats 1000000 in
theorem MX {B:Base} {TL TP:Nat} {ci ce cl cf cg:aj} (hi:F4 B ci) (he:Nj B ce) (hl:EA B cl) (hf:Ec B cf) (hg:DX B cg) : U5 B fun args M Q=>args=[]∧qx ci ce cl TL cf TP cg M Q:=by
 intro M Q hM hQ
 refine⟨rfl, ?_⟩
 unfold qx
 simp only[dH,Rz]
 generalize hct:([99,45]++(Sha.dY Rf).take 16:Str)=ct
 have Xk:ct.length=18:=by rw[← hct]; exact n18 _ (Sha.Hr _)
 have i1:=Ux Sha.dY
 have i2:=UF Sha.dY
 rw[hct] at i1 i2
 refine Oh hi (s:=Wh) hM (by decide) i1 fun M1 v k1 hv=>?_
 rw[bG,bI,iq,fP]
 refine qN (p:=false) (fun _ kk hk=>by rw[fP]; exact hk) ?_
 refine qN (p:=false) (fun _ kk hk=>by rw[hv.len,fP]; exact hk) ?_
 obtain⟨w,hw,q3,q0,q1⟩:=Aw hv
 have hw:bD om.iY M1 w kF _:=hw
 refine qN (p:=false) (fun _ kk hk=>by rw[q1,hw.len,fP]; exact hk) ?_
 rw[show(((((0:Int) != 0) || false) || false) || false)=false from rfl,dU]
 rw[q3]
 have kFs:∀ p∈kF,p.1.length≤10000000∧p.2.length≤10000000:=by decide
 refine he (ct:=ct) (k1.base.trans hM) hw.sl (by decide) kFs fun M2 k2=>?_
 rw[show Ku kF=some RL from VD]
 dsimp only
 rw[bG,bI]
 have k02:=k1.trans k2
 refine Oh hi (s:=RL) (k02.base.trans hM) (by decide) i2 fun M3 v2 k3 hv2=>?_
 have k03:=k02.trans k3
 have k13:=k2.trans k3
 have hv3:=hv.keep k13 (by simp)
 obtain⟨w3,hw3,_,_,r1⟩:=Aw hv3
 have hw3:bD om.iY M3 w3 kF _:=hw3
 rw[bG,bI,iq,r1]
 rw[show(N .i64 (2:Int))=N .i64 ((2:Nat) : Int) from rfl,EH hw3.sl (i:=2) (by decide)]
 rw[show(kF)[2]=kP from rfl]
 refine hl (p:=kP) (k03.base.trans hM) (by decide) (by decide) fun M4 cs k4 hrel=>?_
 rw[Va] at hrel ⊢
 dsimp only at hrel ⊢
 rw[if_pos rfl] at hrel ⊢
 obtain⟨pw,rfl,hpw,hall,_⟩:=xZ hrel
 rw[bG,bI,aF]
 refine zv (b:=0) 5 rfl rfl _ rfl hall rfl fun M5 k5 n5 h5=>?_
 rw[aM (n:=5) h5 rfl]
 have k05:=(k03.trans k4).trans k5
 have hkL:qc 1000 kL:=⟨by decide,by decide,by decide,by decide⟩
 refine hf (j:=1) (k05.base.trans hM) (jB (hpw.keep k5 (by simp))) (hkL.mono (by omega)).lb (by have:=hkL.laid; omega) fun M6 k6=>?_
 rw[Tz]
 dsimp only[mg]
 rw[bG,bI,aF]
 refine zv (b:=0) 2 rfl rfl _ rfl rfl rfl fun M7 k7 n7 h7=>?_
 have k07:=(k05.trans k6).trans k7
 have k37:ae [] M3 M7:=((k4.trans k5).trans k6).trans k7
 have h57:=(k6.trans k7).ax h5 (by omega) (by simp)
 have hv7:=hv3.keep k37 (by simp)
 have hv27:=hv2.keep k37 (by simp)
 obtain⟨w7,hw7,_,s0,s1⟩:=Aw hv7
 have hw7:bD om.iY M7 w7 kF _:=hw7
 obtain⟨x7,hx7,_,t0,t1⟩:=Aw hv27
 have hx7:bD om.iY M7 x7 kF _:=hx7
 have l0:∀ K:AV→Prop,(bg w7 (N .i64 (0:Int)) 2 fun p=>aI M7 p 2 K)=K (mg ([102,110],[65,110,110,44,32,66])):=fun K=>EH hw7.sl (i:=0) (by decide)
 have l2:∀ K:AV→Prop,(bg w7 (N .i64 ((2:Nat) : Int)) 2 fun p=>aI M7 p 2 K)=K (mg kP):=fun K=>EH hw7.sl (i:=2) (by decide)
 rw[s1,l0]
 refine b2 _ _ ?_
 rw[mg,pW (r:=true) rfl rfl (D9 ([102,110],[65,110,110,44,32,66]) ([102,110],[65,110,110,44,32,66]) |>.trans (by simp)),show(true != false)=true from rfl]
 have e0:(N .i64 (0:Int))=N .i64 ((0:Nat) : Int):=rfl
 refine ou (p:=true) (fun _ kk hk=>?_) ?_
 ·rw[s1,l2]
  refine b2 _ _ ?_
  rw[mg,pW (r:=true) rfl rfl ((D9 kP kP).trans (by simp))]; exact hk
 refine ou (p:=true) (fun _ kk hk=>by rw[bR]; exact hk) ?_
 refine ou (p:=true) (fun _ kk hk=>by rw[bR]; exact hk) ?_
 refine ou (p:=true) (fun _ kk hk=>by rw[hv27.len,bR]; exact hk) ?_
 refine ou (p:=true) (fun _ kk hk=>by rw[t1,hx7.len,bR]; exact hk) ?_
 refine ou (p:=true) (fun _ kk hk=>by rw[t0,s0,fB,beq_self_eq_true]; exact hk) ?_
 refine ou (p:=true) (fun _ kk hk=>by rw[s0,bC,bR,show((ct.length:Int) == 18)=true by simp[Xk]]; exact hk) ?_
 refine ou (p:=true) (fun _ kk hk=>by rw[bR]; exact hk) ?_
 refine ou (p:=true) (fun _ kk hk=>by rw[aX,az h57 rfl,fB]; exact hk) ?_
 refine ou (p:=true) (fun _ kk hk=>hk) ?_
 refine ou (p:=true) (fun _ kk hk=>?_) ?_
 ·rw[aM (n:=2) h7 rfl,s1,l2]
  rw[mg,pW (r:=true) rfl rfl ((D9 kP kP).trans (by simp))]; exact hk
 simp only[Bool.and_self,lT,qh]
 rw[aM (n:=2) h7 rfl]
 refine hg (p:=kP) (k07.base.trans hM) (by decide) (by decide) fun M8 k8=>?_
 rw[gI,T9]
 exact hQ _ (k07.trans k8)
theorem MM {B:Base} {TP:Nat} {ca ci ce cg:aj} (ha:U5 B ca) (hi:F4 B ci) (he:Nj B ce) (hg:DX B cg) {M:RM} {Q:ai} (hM:M.base=B) (hQ:∀ M',ae [] M M'→Q (Bo true) M') :
  lS ca ci TP ce cg M Q:=by
 unfold lS
 simp only[dH]
 refine ha hM fun M1 k1=>?_
 rw[bQ,show(!true)=false from rfl,dU]
 refine Pp hi (s:=We) (k1.base.trans hM) (by decide) (Uo _) fun M2 k2=>?_
 rw[bG,bI,iq]
 have k02:=k1.trans k2
 refine Pp hi (s:=Wy) (k02.base.trans hM) (by decide) (TW _) fun M3 k3=>?_
 rw[bG,bI,iq]
 have k03:=k02.trans k3
 refine Oh hi (s:=Wo) (k03.base.trans hM) (by decide) (Ui _) fun M4 v k4 hv=>?_
 rw[bG,bI,iq]
 have k04:=k03.trans k4
 refine b2 _ _ ?_
 rw[iR (x:=.agg [St [116,101,108,35,50],St [49]]) (size:=2) rfl rfl rfl,aF]
 have k5:ae [] M4 (M4.push (.row [St [116,101,108,35,50],St [49]] false TP 0)):=(ae.refl _ _).push _
 have s5:Sl om (M4.push (.row [St [116,101,108,35,50],St [49]] false TP 0)) (.slc M4.next 0 1 (.ex 1)) [([116,101,108,35,50],[49])]:=Sl.new (E:=om) [([116,101,108,35,50],[49])]
 show dB _ _ _
 generalize hM5:M4.push (.row [St [116,101,108,35,50],St [49]] false TP 0)=M5 at *
 have WZ:M4.push (.row (AV.agg [St [116,101,108,35,50],St [49]]).cells false TP 0)=M5:=hM5
 rw[WZ]
 rw[iG]
 refine⟨[St [],.slc M4.next 0 1 (.ex 1),N .i64 0],by simp[kZ,known,AV.cells,oneCell], ?_⟩
 have k05:=k04.trans k5
 refine he (k05.base.trans hM) s5 (by decide) (by decide) fun M6 k6=>?_
 rw[Us]
 dsimp only
 have k06:=k05.trans k6
 have hv6:=hv.keep (k5.trans k6) (by simp)
 obtain⟨w,hw,_,q0,q1⟩:=Aw hv6
 have hw:bD om.iY M6 w [([117,105,100],[117,49]),([114,97,119,46,102,110],[97,92,120,98])] _:=hw
 rw[bG,bI,bR]
 refine jH (p:=true) (fun _ kk hk=>by rw[bR]; exact hk) ?_
 refine jH (p:=true) (fun _ kk hk=>by rw[bR]; exact hk) ?_
 refine jH (p:=true) (fun _ kk hk=>by rw[bR]; exact hk) ?_
 refine jH (p:=true) (fun _ kk hk=>by rw[bR]; exact hk) ?_
 refine jH (p:=true) (fun _ kk hk=>by rw[hv6.len,bR]; exact hk) ?_
 refine jH (p:=true) (fun _ kk hk=>by rw[q0,fB]; exact hk) ?_
 refine jH (p:=true) (fun _ kk hk=>?_) ?_
 ·rw[q1,show(N .i64 (1:Int))=N .i64 ((1:Nat) : Int) from rfl,EH hw.sl (i:=1) (by decide)]
  refine b2 _ _ ?_
  rw[show([([117,105,100],[117,49]),([114,97,119,46,102,110],[97,92,120,98])] : List Fd)[1]=([114,97,119,46,102,110],[97,92,120,98]) from rfl,mg,
   pW (r:=true) rfl rfl ((D9 ([114,97,119,46,102,110],[97,92,120,98]) ([114,97,119,46,102,110],[97,92,120,98])).trans (by simp))]
  exact hk
 refine jH (p:=true) (fun _ kk hk=>by rw[bR]; exact hk) ?_
 refine IG (P:=fun M'=>ae [] M6 M') (p:=true) (ae.refl _ _) (fun _ kk hk=>?_) fun M7 k7=>?_
 ·refine b2 _ _ ?_
  refine hg (p:=([98,101,103,105,110],[86,67,65,82,68])) (k06.base.trans hM) (by decide) (by decide) fun M7 k7=>?_
  rw[Ti,bQ]
  exact hk M7 k7
 exact hQ _ (k06.trans k7)
end Go.Ab.Vc
namespace Go.Ab
open Go Go.RowKit
variable {H:Type} {enc:TypeId × Value→H}
theorem Ch {a:Assume} {C:Checked} {os:Os} {f:FuncId} {fn:Func} {s:ChangeSpec} {conds:List PathCond} {apart fresh handsOn again:Bool} {X:World→Array Value→Prop}
  (hX:∀ (w w' : World) (args:Array Value),w.heap=w'.heap→X w args→X w' args)
  (own:ownKnob C.prog.godebug=none) (started:os.Started) (noInit:C.prog.inits.idxOf? f=none) (hfn:C.prog.funcs[f]?=some fn)
  (witness:∃ (w:World) (tape:Tape) (i:Input),w.os=os∧(w.forCall tape i).Shaped C.prog∧i.vars=[]∧Input.okWide C.prog (w.forCall tape i) .any w.heap.size f i ∧
   ((s.pre enc C.prog fn conds apart (w.forCall tape i).memory i.args∧X (w.forCall tape i).memory i.args)∧sizedMet enc C.prog fn (OpenSpec.ofChange s) apart (w.forCall tape i).memory i.args)∧a.holds C.prog (lone (Frame.enter C.prog f i.args .normal) [] (w.forCall tape i)))
  (contract:∀ (W:World) (base:Nat) (args:Array Value) (ds gs:List (DataW H)) (before:List MemPlace),
   (∀ (j:Nat) t v,fn.params[j]?=some t→args[j]?=some v→Value.okWide C.prog W .any base t v) →
   DataW.Whole enc C.prog fn.params.toList s.vars apart W args.toList ds gs before →
   conds.all (PathCond.test C.prog ⟨fn.params.toList,ds,s.plain.varTypes C.prog,gs⟩)=true →
   (DataW.weightsEach C.prog (fn.params.toList++s.plain.varTypes C.prog) (ds++gs)).all (· ≤ reachBytes)=true→X W args →
   W.ShapedOpen C.prog →
   a.holds C.prog (lone (Frame.enter C.prog f args .normal) [] W) →
   Calls C.prog f args W fun e W'=>∃ v,e=.returned v∧s.post enc C.prog fn apart fresh handsOn again W args v W') :
  ReturnsInHanded a C os f .any (fun w args=>(s.pre enc C.prog fn conds apart w args∧X w args)∧sizedMet enc C.prog fn (OpenSpec.ofChange s) apart w args) (s.post enc C.prog fn apart fresh handsOn again):=by
 refine returnsInHanded_of_calls own started noInit witness ?_
 intro w tape i _ hsh _ hok hpre hholds
 obtain⟨_,_,_,fn',hfn',_,_,_,_,hval⟩:=hok
 have e:fn'=fn:=Option.some.inj (hfn'.symm.trans hfn)
 subst e
 obtain⟨⟨⟨ds,gs,before,hw,hc⟩,hx⟩,hz⟩:=hpre
 have hw':=DataW.Whole.of_heap (w':=w.forCall tape i) (by rfl) hw
 refine(contract (w.forCall tape i) w.heap.size i.args ds gs before hval hw' hc (hz.weights hw) (hX _ _ _ (by rfl) hx) hsh hholds).mono fun e W' ⟨v,he,hp⟩=>?_
 subst he
 exact ChangeSpec.post_blind hp
end Go.Ab
