/- Part 10 of the ground of the proofs of this seat (texts TeFA to TeFA). By an AI agent. -/
import Derived.Test.YtcoihknokhdbkaaGreatDoorTev1
import Derived.Test.YtcoihknokhdbkaaGreatDoorRows
import Derived.Test.YtcoihknokhdbkaaGreatDoorCards
import Derived.JoinedOf
import Derived.Lay
set_option maxRecDepth 100000
set_option linter.unusedVariables false
set_option linter.unusedSimpArgs false
namespace Go.Proofs.YtcoihknokhdbkaaGreatDoor.ties
open Go Go.Ab
noncomputable def cvT(P:Program)(n:Nat):List FuncId→Tree Unit→List FuncId→List FuncId :=
 Nat.rec (motive:=fun _=>List FuncId→Tree Unit→List FuncId→List FuncId) (fun _ _ acc=>acc.reverse)
  (fun _ ih todo t acc=>match todo with
   |[]=>acc.reverse
   |f::r=>match t.get f with
    |some _=>ih r t acc
    |none=>ih ((P.funcs[f]?).elim [] P.leadsTo++r) (t.set f ()) (f::acc)) n
theorem Xg(P:Program):∀ (n:Nat)(todo:List FuncId)(t:Tree Unit)(acc:List FuncId),(∀ f,(t.get f).isSome=acc.contains f)→P.closureVia n todo acc=cvT P n todo t acc
 |0,todo,t,acc,h=>by cases todo<;>rfl
 |n+1,[],t,acc,h=>rfl
 |n+1,f::r,t,acc,h=>by
  show(if acc.contains f then P.closureVia n r acc else P.closureVia n ((P.funcs[f]?).elim [] P.leadsTo++r) (f::acc))=(match t.get f with
    |some _=>cvT P n r t acc
    |none=>cvT P n ((P.funcs[f]?).elim [] P.leadsTo++r) (t.set f ()) (f::acc))
  have hf:=h f
  cases ht:t.get f with
  |some u =>
   rw[ht]at hf
   rw[if_pos (show acc.contains f=true from hf.symm)]
   exact Xg P n r t acc h
  |none =>
   rw[ht]at hf
   rw[if_neg (by rw[← hf];simp)]
   refine Xg P n _ _ _ fun g=>?_
   rw[Tree.bn,List.contains_cons]
   by_cases e:g=f
   ·subst e;simp
   ·rw[if_neg (by first|exact e|exact fun x=>e x.symm)]
    rw[h g]
    simp[e]
theorem awo:(Tryz.prog.funcs.toList.map fun g=>(Tryz.prog.leadsTo g).length+1).sum=2249:=by kernel_rfl
def L3:List FuncId:=[3,4,25,24,49,50,51,92,93,171,278,279,280,291,125,293,417,418,529,528,402,155,158,274,157,159,509,600,84,85,162,163,281,403,510,601,181,313,425,314,151,270,271,426,533,255,152,534,613,535,389,390,536,614,615,657,537,538,539,540,404,318,427,428,541,294,419,530,420,531,414,518,517,519,521,607,520,523,609,655,576,638,608,654,582,639,664,669,572,640,522,319,429,32,59,320,511,408,514,136,282,405,512,406,236,369,479,452,453,566,567,454,455,568,569,634,635,416,524,610,611,350,463,525,334,447,612,656,526,527,203,513,160,380,602,297,435,543,544,81,82,153,80,545,616,547,618,546,617,441,551,620,603,75,148,258,149,259,384,497,498,499,500,501,592,593,594,595,596,503,260,385,502,504,597,598,261,387,386,283,407,226,354,175,289,290,415,241,370,480,586,651,652,371,481,587,482,483,588,484,292,295,296,284,409,190,195,321,430,431,432,433,172,173,285,410,515,604,619,605,606,58,113,200,112,114,201,331,332,333,446,562,115,202,286,411,436,548,549,440,550,442,552,555,553,621,554,622,658,659,670,673,556,557,516,287,412,57,111,199,413,206,44,337,304,72,94,174,288,77,89,139,176,298,299,140,250,243,251,189,300,117,43,90,165,276,166,277,394,169,395,506,396,397,507,508,599,398,399,400,401,167,168,207,338,91,170,451,450,564,565,633,663,16,45,88,78,150,262,263,388,264,265,391,392,505,266,267,268,269,161,275,83,154,209,210,340,208,339,48,47,106,252,381,147,257,373,302,301,421,87,156,272,273,393,164,303,15,116,204,336,22,449,335,448,563,625,626,660,627,628,661,662,671,629,630,631,632,205,177,191,194,12,14,28,13,41,76,79,86,110,42,6,30,29,55,109,56,54,108,192,193,196,197,322,324,323,434,542,325,327,439,326,437,438,329,328,198,330,444,443,559,558,623,560,624,561,445,31,7,33,60,120,211,119,118,8,34,35,36,62,61,121,212,122,53,100,99,182,315,101,102,141,183,316,184,317,364,477,103,185,186,104,187,105,188,107,123,213,214,341,124,215,223,348,238,349,224,351,217,216,342,344,456,239,343,457,63,37,38,64,126,219,218,127,65,128,221,222,347,460,575,461,577,462,578,641,665,220,345,458,570,636,571,573,637,346,459,574,225,352,353,464,579,580,581,129,130,235,227,228,355,465,356,142,229,357,230,358,374,467,466,359,71,469,468,583,70,470,471,584,642,643,666,644,645,667,668,672,646,647,648,649,472,473,585,650,360,231,361,474,362,232,363,476,475,365,366,233,234,367,478,368,131,66,132,237,240,133,134,242,372,485,244,375,245,376,486,246,377,487,135,26,52,95,96,178,179,97,180,305,306,422,307,308,423,424,532,309,310,311,312,98,20,19,27,5,9,39,10,11,40,67,68,138,249,137,247,378,248,379,488,494,489,589,490,491,590,591,653,492,493,495,496,69,143,144,253,382,145,254,383,146,256,73,74,17,18,46,21,23]
theorem auM:cvT Tryz.prog 2250 [3] .leaf []=L3:=by kernel_rfl
theorem cl:Tryz.prog.closure 3=L3:=by
 unfold Program.closure
 rw[awo,Xg Tryz.prog (1+2249) [3] .leaf [] (fun f=>by simp[Tree.get])]
 exact auM
theorem inPlace:(Rows.topEvictedRow.inPlace==Tryz.prog.inPlace 3)=true:=by
 unfold Program.inPlace
 rw[cl]
 kernel_rfl
theorem unf:Tryz.prog.unfollowed 3=true:=by
 unfold Program.unfollowed
 rw[cl]
 kernel_rfl
theorem recs:Tryz.prog.recurses 3=true:=by
 unfold Program.recurses
 rw[unf]
 rfl
theorem named:(Rows.topEvictedRow.named==Tryz.prog.varsNamed 3)=true:=by
 unfold Program.varsNamed
 rw[cl]
 kernel_rfl
theorem aso:(L3.any fun g=>(Tryz.prog.funcs[g]?).any Func.goes)=false:=by kernel_rfl
theorem asu:Tryz.prog.funcs.any Func.goes=false:=by kernel_rfl
theorem asR:Tryz.prog.goes 3=false:=by
 unfold Program.goes
 rw[cl,aso,asu,unf]
 rfl
theorem Wh:Tryz.prog.funcNamed "rolodex/rolodextop.TopEvicted" = some 3:=by kernel_rfl
theorem goesBy:false=Rows.topEvictedRow.goesBy Tryz.prog:=by
 show false=(((Tryz.prog.funcNamed "rolodex/rolodextop.TopEvicted").any Tryz.prog.goes)||false)
 rw[Wh,Option.any_some,asR,Bool.or_false]
end Go.Proofs.YtcoihknokhdbkaaGreatDoor.ties
