/- 'VlinePrints' returns true where what is read is of bulk at most 1048576: any line is printed, folded, and read back, or refused, as the document says. The card's listed variables are tied to the program's text. By an AI agent. -/
import Derived.Test.YtmilkhdicmkmbaaDoorVlp5
import Derived.KernelRfl
import Derived.Test.YtmilkhdicmkmbaaDoorProg
import Derived.Shelf.Unicode.ValidAny
import Derived.Shelf.Strings.SlTrimAscii
import Derived.Shelf.Strings.IndexAnyAll
import Derived.Shelf.Unicode.DecodeAny
import Derived.Lib.LaidU8
import Derived.Test.YtmilkhdicmkmbaaDoorRows
import Derived.Test.YtmilkhdicmkmbaaDoorTie
import Derived.Test.YtmilkhdicmkmbaaDoorCards
import Derived.Carry
import Derived.WalkKit
import Derived.ProofKit
import Derived.OpenShut
import Derived.LaidMore
import Derived.Lay
import Derived.SevenTiedAt
import Derived.Stop.Joined
import Derived.JoinedCond
import Derived.Deep.DeepHandedRow
namespace Go.Proofs.YtmilkhdicmkmbaaDoor
open Go Go.Ab Go.RowKit
def ext:Ext := { split:=[],Ak:=[],sM:=[63] }
theorem Ij:xB Tryd.prog ext where
 ng:=Il (by kernel_rfl)
 Ak:=fun f hf=>by cases hf
 sM:=by
  intro f hf
  have:f=63:=by
   unfold ext at hf
   simp only[has] at hf
   split at hf
   ·rename_i h; exact(Nat.eq_of_beq_eq_true h).symm
   ·cases hf
  subst this
  exact⟨Tryd.f63,by kernel_rfl,by kernel_rfl,by kernel_rfl,by kernel_rfl⟩
theorem mixed:Tryd.prog.follows .mixedOrders=true:=by kernel_rfl
def Iv:World→Prop:=fun _=>True
def T0:Table:=[]
theorem t0:je Tryd.prog Iv T0:=je.nil
def B1:Table:=[(74,[{ args:=[(.sc (.string ⟨⟨[84,69,76,59,84,89,80,69,61,104,111,109,101,58,49,50,10]⟩⟩)),(.sc (.string ⟨⟨[10]⟩⟩))],nx:=0,ans:=.val (.sc (.int .i64 16)) },
    { args:=[(.sc (.string ⟨⟨[65,58,49,10,66]⟩⟩)),(.sc (.string ⟨⟨[10]⟩⟩))],nx:=14,ans:=.val (.sc (.int .i64 3)) },
    { args:=[(.sc (.string ⟨⟨[66]⟩⟩)),(.sc (.string ⟨⟨[10]⟩⟩))],nx:=18,ans:=.val (.sc (.int .i64 (-1))) },
    { args:=[(.sc (.string ⟨⟨[97,10,32,98,13,10,99]⟩⟩)),(.sc (.string ⟨⟨[10]⟩⟩))],nx:=26,ans:=.val (.sc (.int .i64 1)) },
    { args:=[(.sc (.string ⟨⟨[32,98,13,10,99]⟩⟩)),(.sc (.string ⟨⟨[10]⟩⟩))],nx:=30,ans:=.val (.sc (.int .i64 3)) },
    { args:=[(.sc (.string ⟨⟨[99]⟩⟩)),(.sc (.string ⟨⟨[10]⟩⟩))],nx:=30,ans:=.val (.sc (.int .i64 (-1))) }]),
 (37,[{ args:=[(.sc (.string ⟨⟨[84,69,76,59,84,89,80,69,61,104,111,109,101,58,49,50]⟩⟩)),(.sc (.string ⟨⟨[13]⟩⟩))],nx:=0,ans:=.val (.sc (.string ⟨⟨[84,69,76,59,84,89,80,69,61,104,111,109,101,58,49,50]⟩⟩)) },
  { args:=[(.sc (.string ⟨⟨[65,58,49]⟩⟩)),(.sc (.string ⟨⟨[13]⟩⟩))],nx:=14,ans:=.val (.sc (.string ⟨⟨[65,58,49]⟩⟩)) },
  { args:=[(.sc (.string ⟨⟨[97]⟩⟩)),(.sc (.string ⟨⟨[13]⟩⟩))],nx:=26,ans:=.val (.sc (.string ⟨⟨[97]⟩⟩)) },
  { args:=[(.sc (.string ⟨⟨[32,98,13]⟩⟩)),(.sc (.string ⟨⟨[13]⟩⟩))],nx:=30,ans:=.val (.sc (.string ⟨⟨[32,98]⟩⟩)) }]),
 (51,[{ args:=[(.sc (.string ⟨⟨[84,69,76,59,84,89,80,69,61,104,111,109,101,58,49,50]⟩⟩))],nx:=5,ans:=.val (.sc (.bool true)) },
  { args:=[(.sc (.string ⟨⟨[104,111,109,101]⟩⟩))],nx:=8,ans:=.val (.sc (.bool true)) },
  { args:=[(.sc (.string ⟨⟨[49,50]⟩⟩))],nx:=12,ans:=.val (.sc (.bool true)) },
  { args:=[(.sc (.string ⟨⟨[65,58,49]⟩⟩))],nx:=23,ans:=.val (.sc (.bool true)) },
  { args:=[(.sc (.string ⟨⟨[49]⟩⟩))],nx:=25,ans:=.val (.sc (.bool true)) },
  { args:=[(.sc (.string ⟨⟨[66]⟩⟩))],nx:=26,ans:=.val (.sc (.bool true)) }]),
 (71,[{ args:=[(.sc (.string ⟨⟨[84,69,76,59,84,89,80,69,61,104,111,109,101,58,49,50]⟩⟩))],nx:=6,ans:=.val (.sc (.string ⟨⟨[116,101,108,59,116,121,112,101,61,104,111,109,101,58,49,50]⟩⟩)) },
  { args:=[(.sc (.string ⟨⟨[84,69,76]⟩⟩))],nx:=6,ans:=.val (.sc (.string ⟨⟨[116,101,108]⟩⟩)) },
  { args:=[(.sc (.string ⟨⟨[84,89,80,69,61,104,111,109,101,58,49,50]⟩⟩))],nx:=7,ans:=.val (.sc (.string ⟨⟨[116,121,112,101,61,104,111,109,101,58,49,50]⟩⟩)) },
  { args:=[(.sc (.string ⟨⟨[84,89,80,69]⟩⟩))],nx:=7,ans:=.val (.sc (.string ⟨⟨[116,121,112,101]⟩⟩)) },
  { args:=[(.sc (.string ⟨⟨[65,58,49]⟩⟩))],nx:=24,ans:=.val (.sc (.string ⟨⟨[97,58,49]⟩⟩)) },
  { args:=[(.sc (.string ⟨⟨[65]⟩⟩))],nx:=24,ans:=.val (.sc (.string ⟨⟨[97]⟩⟩)) },
  { args:=[(.sc (.string ⟨⟨[66]⟩⟩))],nx:=27,ans:=.val (.sc (.string ⟨⟨[98]⟩⟩)) }]),
 (70,[{ args:=[(.sc (.string ⟨⟨[116,101,108,59,116,121,112,101,61,104,111,109,101,58,49,50]⟩⟩)),(.sc (.string ⟨⟨[97,98,99,100,101,102,103,104,105,106,107,108,109,110,111,112,113,114,115,116,117,118,119,120,121,122,48,49,50,51,52,53,54,55,56,57,45]⟩⟩))],nx:=6,ans:=.val (.sc (.string ⟨⟨[59,116,121,112,101,61,104,111,109,101,58,49,50]⟩⟩)) },
  { args:=[(.sc (.string ⟨⟨[116,121,112,101,61,104,111,109,101,58,49,50]⟩⟩)),(.sc (.string ⟨⟨[97,98,99,100,101,102,103,104,105,106,107,108,109,110,111,112,113,114,115,116,117,118,119,120,121,122,48,49,50,51,52,53,54,55,56,57,45]⟩⟩))],nx:=7,ans:=.val (.sc (.string ⟨⟨[61,104,111,109,101,58,49,50]⟩⟩)) },
  { args:=[(.sc (.string ⟨⟨[97,58,49]⟩⟩)),(.sc (.string ⟨⟨[97,98,99,100,101,102,103,104,105,106,107,108,109,110,111,112,113,114,115,116,117,118,119,120,121,122,48,49,50,51,52,53,54,55,56,57,45]⟩⟩))],nx:=24,ans:=.val (.sc (.string ⟨⟨[58,49]⟩⟩)) },
  { args:=[(.sc (.string ⟨⟨[98]⟩⟩)),(.sc (.string ⟨⟨[97,98,99,100,101,102,103,104,105,106,107,108,109,110,111,112,113,114,115,116,117,118,119,120,121,122,48,49,50,51,52,53,54,55,56,57,45]⟩⟩))],nx:=27,ans:=.val (.sc (.string ⟨⟨[]⟩⟩)) }]),
 (65,[{ args:=[(.sc (.string ⟨⟨[116,121,112,101]⟩⟩)),(.sc (.string ⟨⟨[97,98,99,100,101,102,103,104,105,106,107,108,109,110,111,112,113,114,115,116,117,118,119,120,121,122,48,49,50,51,52,53,54,55,56,57,45]⟩⟩))],nx:=7,ans:=.val (.sc (.string ⟨⟨[]⟩⟩)) },
  { args:=[(.sc (.string ⟨⟨[116,101,108]⟩⟩)),(.sc (.string ⟨⟨[97,98,99,100,101,102,103,104,105,106,107,108,109,110,111,112,113,114,115,116,117,118,119,120,121,122,48,49,50,51,52,53,54,55,56,57,45]⟩⟩))],nx:=11,ans:=.val (.sc (.string ⟨⟨[]⟩⟩)) },
  { args:=[(.sc (.string ⟨⟨[97]⟩⟩)),(.sc (.string ⟨⟨[97,98,99,100,101,102,103,104,105,106,107,108,109,110,111,112,113,114,115,116,117,118,119,120,121,122,48,49,50,51,52,53,54,55,56,57,45]⟩⟩))],nx:=24,ans:=.val (.sc (.string ⟨⟨[]⟩⟩)) },
  { args:=[(.sc (.string ⟨⟨[98]⟩⟩)),(.sc (.string ⟨⟨[97,98,99,100,101,102,103,104,105,106,107,108,109,110,111,112,113,114,115,116,117,118,119,120,121,122,48,49,50,51,52,53,54,55,56,57,45]⟩⟩))],nx:=27,ans:=.val (.sc (.string ⟨⟨[]⟩⟩)) }]),
 (30,[{ args:=[(.sc (.string ⟨⟨[44,59,58]⟩⟩)),(.sc (.int .u8 104))],nx:=8,ans:=.val (.sc (.int .i64 (-1))) },
  { args:=[(.sc (.string ⟨⟨[44,59,58]⟩⟩)),(.sc (.int .u8 111))],nx:=8,ans:=.val (.sc (.int .i64 (-1))) },
  { args:=[(.sc (.string ⟨⟨[44,59,58]⟩⟩)),(.sc (.int .u8 109))],nx:=8,ans:=.val (.sc (.int .i64 (-1))) },
  { args:=[(.sc (.string ⟨⟨[44,59,58]⟩⟩)),(.sc (.int .u8 101))],nx:=8,ans:=.val (.sc (.int .i64 (-1))) },
  { args:=[(.sc (.string ⟨⟨[44,59,58]⟩⟩)),(.sc (.int .u8 58))],nx:=8,ans:=.val (.sc (.int .i64 2)) },
  { args:=[(.sc (.string ⟨⟨[34]⟩⟩)),(.sc (.int .u8 104))],nx:=8,ans:=.val (.sc (.int .i64 (-1))) },
  { args:=[(.sc (.string ⟨⟨[34]⟩⟩)),(.sc (.int .u8 111))],nx:=8,ans:=.val (.sc (.int .i64 (-1))) },
  { args:=[(.sc (.string ⟨⟨[34]⟩⟩)),(.sc (.int .u8 109))],nx:=8,ans:=.val (.sc (.int .i64 (-1))) },
  { args:=[(.sc (.string ⟨⟨[34]⟩⟩)),(.sc (.int .u8 101))],nx:=8,ans:=.val (.sc (.int .i64 (-1))) },
  { args:=[(.sc (.string ⟨⟨[]⟩⟩)),(.sc (.int .u8 49))],nx:=12,ans:=.val (.sc (.int .i64 (-1))) },
  { args:=[(.sc (.string ⟨⟨[]⟩⟩)),(.sc (.int .u8 50))],nx:=12,ans:=.val (.sc (.int .i64 (-1))) }]),
 (49,[{ args:=[(.sc (.string ⟨⟨[116,101,108]⟩⟩))],nx:=31,ans:=.val (.sc (.string ⟨⟨[84,69,76]⟩⟩)) },
  { args:=[(.sc (.string ⟨⟨[116,121,112,101]⟩⟩))],nx:=33,ans:=.val (.sc (.string ⟨⟨[84,89,80,69]⟩⟩)) }]),
 (62,[{ args:=[(.sc (.string ⟨⟨[84,69,76,59,84,89,80,69,61,104,111,109,101,58,49,50]⟩⟩))],nx:=36,ans:=.val (.tup [(.sc (.int .i32 84)),(.sc (.int .i64 1))]) },
  { args:=[(.sc (.string ⟨⟨[69,76,59,84,89,80,69,61,104,111,109,101,58,49,50]⟩⟩))],nx:=36,ans:=.val (.tup [(.sc (.int .i32 69)),(.sc (.int .i64 1))]) },
  { args:=[(.sc (.string ⟨⟨[76,59,84,89,80,69,61,104,111,109,101,58,49,50]⟩⟩))],nx:=36,ans:=.val (.tup [(.sc (.int .i32 76)),(.sc (.int .i64 1))]) },
  { args:=[(.sc (.string ⟨⟨[59,84,89,80,69,61,104,111,109,101,58,49,50]⟩⟩))],nx:=36,ans:=.val (.tup [(.sc (.int .i32 59)),(.sc (.int .i64 1))]) },
  { args:=[(.sc (.string ⟨⟨[84,89,80,69,61,104,111,109,101,58,49,50]⟩⟩))],nx:=36,ans:=.val (.tup [(.sc (.int .i32 84)),(.sc (.int .i64 1))]) },
  { args:=[(.sc (.string ⟨⟨[89,80,69,61,104,111,109,101,58,49,50]⟩⟩))],nx:=36,ans:=.val (.tup [(.sc (.int .i32 89)),(.sc (.int .i64 1))]) },
  { args:=[(.sc (.string ⟨⟨[80,69,61,104,111,109,101,58,49,50]⟩⟩))],nx:=36,ans:=.val (.tup [(.sc (.int .i32 80)),(.sc (.int .i64 1))]) },
  { args:=[(.sc (.string ⟨⟨[69,61,104,111,109,101,58,49,50]⟩⟩))],nx:=36,ans:=.val (.tup [(.sc (.int .i32 69)),(.sc (.int .i64 1))]) },
  { args:=[(.sc (.string ⟨⟨[61,104,111,109,101,58,49,50]⟩⟩))],nx:=36,ans:=.val (.tup [(.sc (.int .i32 61)),(.sc (.int .i64 1))]) },
  { args:=[(.sc (.string ⟨⟨[104,111,109,101,58,49,50]⟩⟩))],nx:=36,ans:=.val (.tup [(.sc (.int .i32 104)),(.sc (.int .i64 1))]) },
  { args:=[(.sc (.string ⟨⟨[111,109,101,58,49,50]⟩⟩))],nx:=36,ans:=.val (.tup [(.sc (.int .i32 111)),(.sc (.int .i64 1))]) },
  { args:=[(.sc (.string ⟨⟨[109,101,58,49,50]⟩⟩))],nx:=36,ans:=.val (.tup [(.sc (.int .i32 109)),(.sc (.int .i64 1))]) },
  { args:=[(.sc (.string ⟨⟨[101,58,49,50]⟩⟩))],nx:=36,ans:=.val (.tup [(.sc (.int .i32 101)),(.sc (.int .i64 1))]) },
  { args:=[(.sc (.string ⟨⟨[58,49,50]⟩⟩))],nx:=36,ans:=.val (.tup [(.sc (.int .i32 58)),(.sc (.int .i64 1))]) },
  { args:=[(.sc (.string ⟨⟨[49,50]⟩⟩))],nx:=36,ans:=.val (.tup [(.sc (.int .i32 49)),(.sc (.int .i64 1))]) },
  { args:=[(.sc (.string ⟨⟨[50]⟩⟩))],nx:=36,ans:=.val (.tup [(.sc (.int .i32 50)),(.sc (.int .i64 1))]) }])]
theorem b1:mE Tryd.prog ext T0 100000 200 B1=true:=by kernel_rfl
def T1:Table:=B1++T0
theorem t1:je Tryd.prog Iv T1:=t0.add Ij mixed b1
def B2:Table:=[(30,[{ args:=[(.sc (.string ⟨⟨[92,44,59,58]⟩⟩)),(.sc (.int .u8 44))],nx:=37,ans:=.val (.sc (.int .i64 1)) }]),
 (14,[{ args:=[(.sc (.string ⟨⟨[97,44,98,92,44,99]⟩⟩)),(.sc (.int .u8 44))],ans:=.rows 34 (.slc 37 0 2 (.op 1)) [(37,(.row 2 (.node (.node .leaf (some (.sc (.string ⟨⟨[98,92,44,99]⟩⟩))) .leaf) (some (.sc (.string ⟨⟨[97]⟩⟩))) .leaf) [] true 9 0))] 38 }]),
 (62,[{ args:=[(.sc (.string ⟨⟨[48,49,50,51,52,53,54,55,56,57,48,49,50,51,52,53,54,55,56,57,48,49,50,51,52,53,54,55,56,57,48,49,50,51,52,53,54,55,56,57,48,49,50,51,52,53,54,55,56,57,48,49,50,51,52,53,54,55,56,57,48,49,50,51,52,53,54,55,56,57,48,49,50,51,52,53]⟩⟩))],nx:=39,ans:=.val (.tup [(.sc (.int .i32 48)),(.sc (.int .i64 1))]) },
  { args:=[(.sc (.string ⟨⟨[49,50,51,52,53,54,55,56,57,48,49,50,51,52,53,54,55,56,57,48,49,50,51,52,53,54,55,56,57,48,49,50,51,52,53,54,55,56,57,48,49,50,51,52,53,54,55,56,57,48,49,50,51,52,53,54,55,56,57,48,49,50,51,52,53,54,55,56,57,48,49,50,51,52,53]⟩⟩))],nx:=39,ans:=.val (.tup [(.sc (.int .i32 49)),(.sc (.int .i64 1))]) },
  { args:=[(.sc (.string ⟨⟨[50,51,52,53,54,55,56,57,48,49,50,51,52,53,54,55,56,57,48,49,50,51,52,53,54,55,56,57,48,49,50,51,52,53,54,55,56,57,48,49,50,51,52,53,54,55,56,57,48,49,50,51,52,53,54,55,56,57,48,49,50,51,52,53,54,55,56,57,48,49,50,51,52,53]⟩⟩))],nx:=39,ans:=.val (.tup [(.sc (.int .i32 50)),(.sc (.int .i64 1))]) },
  { args:=[(.sc (.string ⟨⟨[51,52,53,54,55,56,57,48,49,50,51,52,53,54,55,56,57,48,49,50,51,52,53,54,55,56,57,48,49,50,51,52,53,54,55,56,57,48,49,50,51,52,53,54,55,56,57,48,49,50,51,52,53,54,55,56,57,48,49,50,51,52,53,54,55,56,57,48,49,50,51,52,53]⟩⟩))],nx:=39,ans:=.val (.tup [(.sc (.int .i32 51)),(.sc (.int .i64 1))]) },
  { args:=[(.sc (.string ⟨⟨[52,53,54,55,56,57,48,49,50,51,52,53,54,55,56,57,48,49,50,51,52,53,54,55,56,57,48,49,50,51,52,53,54,55,56,57,48,49,50,51,52,53,54,55,56,57,48,49,50,51,52,53,54,55,56,57,48,49,50,51,52,53,54,55,56,57,48,49,50,51,52,53]⟩⟩))],nx:=39,ans:=.val (.tup [(.sc (.int .i32 52)),(.sc (.int .i64 1))]) },
  { args:=[(.sc (.string ⟨⟨[53,54,55,56,57,48,49,50,51,52,53,54,55,56,57,48,49,50,51,52,53,54,55,56,57,48,49,50,51,52,53,54,55,56,57,48,49,50,51,52,53,54,55,56,57,48,49,50,51,52,53,54,55,56,57,48,49,50,51,52,53,54,55,56,57,48,49,50,51,52,53]⟩⟩))],nx:=39,ans:=.val (.tup [(.sc (.int .i32 53)),(.sc (.int .i64 1))]) },
  { args:=[(.sc (.string ⟨⟨[54,55,56,57,48,49,50,51,52,53,54,55,56,57,48,49,50,51,52,53,54,55,56,57,48,49,50,51,52,53,54,55,56,57,48,49,50,51,52,53,54,55,56,57,48,49,50,51,52,53,54,55,56,57,48,49,50,51,52,53,54,55,56,57,48,49,50,51,52,53]⟩⟩))],nx:=39,ans:=.val (.tup [(.sc (.int .i32 54)),(.sc (.int .i64 1))]) },
  { args:=[(.sc (.string ⟨⟨[55,56,57,48,49,50,51,52,53,54,55,56,57,48,49,50,51,52,53,54,55,56,57,48,49,50,51,52,53,54,55,56,57,48,49,50,51,52,53,54,55,56,57,48,49,50,51,52,53,54,55,56,57,48,49,50,51,52,53,54,55,56,57,48,49,50,51,52,53]⟩⟩))],nx:=39,ans:=.val (.tup [(.sc (.int .i32 55)),(.sc (.int .i64 1))]) },
  { args:=[(.sc (.string ⟨⟨[56,57,48,49,50,51,52,53,54,55,56,57,48,49,50,51,52,53,54,55,56,57,48,49,50,51,52,53,54,55,56,57,48,49,50,51,52,53,54,55,56,57,48,49,50,51,52,53,54,55,56,57,48,49,50,51,52,53,54,55,56,57,48,49,50,51,52,53]⟩⟩))],nx:=39,ans:=.val (.tup [(.sc (.int .i32 56)),(.sc (.int .i64 1))]) },
  { args:=[(.sc (.string ⟨⟨[57,48,49,50,51,52,53,54,55,56,57,48,49,50,51,52,53,54,55,56,57,48,49,50,51,52,53,54,55,56,57,48,49,50,51,52,53,54,55,56,57,48,49,50,51,52,53,54,55,56,57,48,49,50,51,52,53,54,55,56,57,48,49,50,51,52,53]⟩⟩))],nx:=39,ans:=.val (.tup [(.sc (.int .i32 57)),(.sc (.int .i64 1))]) },
  { args:=[(.sc (.string ⟨⟨[48,49,50,51,52,53,54,55,56,57,48,49,50,51,52,53,54,55,56,57,48,49,50,51,52,53,54,55,56,57,48,49,50,51,52,53,54,55,56,57,48,49,50,51,52,53,54,55,56,57,48,49,50,51,52,53,54,55,56,57,48,49,50,51,52,53]⟩⟩))],nx:=39,ans:=.val (.tup [(.sc (.int .i32 48)),(.sc (.int .i64 1))]) },
  { args:=[(.sc (.string ⟨⟨[49,50,51,52,53,54,55,56,57,48,49,50,51,52,53,54,55,56,57,48,49,50,51,52,53,54,55,56,57,48,49,50,51,52,53,54,55,56,57,48,49,50,51,52,53,54,55,56,57,48,49,50,51,52,53,54,55,56,57,48,49,50,51,52,53]⟩⟩))],nx:=39,ans:=.val (.tup [(.sc (.int .i32 49)),(.sc (.int .i64 1))]) },
  { args:=[(.sc (.string ⟨⟨[50,51,52,53,54,55,56,57,48,49,50,51,52,53,54,55,56,57,48,49,50,51,52,53,54,55,56,57,48,49,50,51,52,53,54,55,56,57,48,49,50,51,52,53,54,55,56,57,48,49,50,51,52,53,54,55,56,57,48,49,50,51,52,53]⟩⟩))],nx:=39,ans:=.val (.tup [(.sc (.int .i32 50)),(.sc (.int .i64 1))]) },
  { args:=[(.sc (.string ⟨⟨[51,52,53,54,55,56,57,48,49,50,51,52,53,54,55,56,57,48,49,50,51,52,53,54,55,56,57,48,49,50,51,52,53,54,55,56,57,48,49,50,51,52,53,54,55,56,57,48,49,50,51,52,53,54,55,56,57,48,49,50,51,52,53]⟩⟩))],nx:=39,ans:=.val (.tup [(.sc (.int .i32 51)),(.sc (.int .i64 1))]) },
  { args:=[(.sc (.string ⟨⟨[52,53,54,55,56,57,48,49,50,51,52,53,54,55,56,57,48,49,50,51,52,53,54,55,56,57,48,49,50,51,52,53,54,55,56,57,48,49,50,51,52,53,54,55,56,57,48,49,50,51,52,53,54,55,56,57,48,49,50,51,52,53]⟩⟩))],nx:=39,ans:=.val (.tup [(.sc (.int .i32 52)),(.sc (.int .i64 1))]) },
  { args:=[(.sc (.string ⟨⟨[53,54,55,56,57,48,49,50,51,52,53,54,55,56,57,48,49,50,51,52,53,54,55,56,57,48,49,50,51,52,53,54,55,56,57,48,49,50,51,52,53,54,55,56,57,48,49,50,51,52,53,54,55,56,57,48,49,50,51,52,53]⟩⟩))],nx:=39,ans:=.val (.tup [(.sc (.int .i32 53)),(.sc (.int .i64 1))]) },
  { args:=[(.sc (.string ⟨⟨[54,55,56,57,48,49,50,51,52,53,54,55,56,57,48,49,50,51,52,53,54,55,56,57,48,49,50,51,52,53,54,55,56,57,48,49,50,51,52,53,54,55,56,57,48,49,50,51,52,53,54,55,56,57,48,49,50,51,52,53]⟩⟩))],nx:=39,ans:=.val (.tup [(.sc (.int .i32 54)),(.sc (.int .i64 1))]) },
  { args:=[(.sc (.string ⟨⟨[55,56,57,48,49,50,51,52,53,54,55,56,57,48,49,50,51,52,53,54,55,56,57,48,49,50,51,52,53,54,55,56,57,48,49,50,51,52,53,54,55,56,57,48,49,50,51,52,53,54,55,56,57,48,49,50,51,52,53]⟩⟩))],nx:=39,ans:=.val (.tup [(.sc (.int .i32 55)),(.sc (.int .i64 1))]) },
  { args:=[(.sc (.string ⟨⟨[56,57,48,49,50,51,52,53,54,55,56,57,48,49,50,51,52,53,54,55,56,57,48,49,50,51,52,53,54,55,56,57,48,49,50,51,52,53,54,55,56,57,48,49,50,51,52,53,54,55,56,57,48,49,50,51,52,53]⟩⟩))],nx:=39,ans:=.val (.tup [(.sc (.int .i32 56)),(.sc (.int .i64 1))]) },
  { args:=[(.sc (.string ⟨⟨[57,48,49,50,51,52,53,54,55,56,57,48,49,50,51,52,53,54,55,56,57,48,49,50,51,52,53,54,55,56,57,48,49,50,51,52,53,54,55,56,57,48,49,50,51,52,53,54,55,56,57,48,49,50,51,52,53]⟩⟩))],nx:=39,ans:=.val (.tup [(.sc (.int .i32 57)),(.sc (.int .i64 1))]) },
  { args:=[(.sc (.string ⟨⟨[48,49,50,51,52,53,54,55,56,57,48,49,50,51,52,53,54,55,56,57,48,49,50,51,52,53,54,55,56,57,48,49,50,51,52,53,54,55,56,57,48,49,50,51,52,53,54,55,56,57,48,49,50,51,52,53]⟩⟩))],nx:=39,ans:=.val (.tup [(.sc (.int .i32 48)),(.sc (.int .i64 1))]) },
  { args:=[(.sc (.string ⟨⟨[49,50,51,52,53,54,55,56,57,48,49,50,51,52,53,54,55,56,57,48,49,50,51,52,53,54,55,56,57,48,49,50,51,52,53,54,55,56,57,48,49,50,51,52,53,54,55,56,57,48,49,50,51,52,53]⟩⟩))],nx:=39,ans:=.val (.tup [(.sc (.int .i32 49)),(.sc (.int .i64 1))]) },
  { args:=[(.sc (.string ⟨⟨[50,51,52,53,54,55,56,57,48,49,50,51,52,53,54,55,56,57,48,49,50,51,52,53,54,55,56,57,48,49,50,51,52,53,54,55,56,57,48,49,50,51,52,53,54,55,56,57,48,49,50,51,52,53]⟩⟩))],nx:=39,ans:=.val (.tup [(.sc (.int .i32 50)),(.sc (.int .i64 1))]) },
  { args:=[(.sc (.string ⟨⟨[51,52,53,54,55,56,57,48,49,50,51,52,53,54,55,56,57,48,49,50,51,52,53,54,55,56,57,48,49,50,51,52,53,54,55,56,57,48,49,50,51,52,53,54,55,56,57,48,49,50,51,52,53]⟩⟩))],nx:=39,ans:=.val (.tup [(.sc (.int .i32 51)),(.sc (.int .i64 1))]) },
  { args:=[(.sc (.string ⟨⟨[52,53,54,55,56,57,48,49,50,51,52,53,54,55,56,57,48,49,50,51,52,53,54,55,56,57,48,49,50,51,52,53,54,55,56,57,48,49,50,51,52,53,54,55,56,57,48,49,50,51,52,53]⟩⟩))],nx:=39,ans:=.val (.tup [(.sc (.int .i32 52)),(.sc (.int .i64 1))]) },
  { args:=[(.sc (.string ⟨⟨[53,54,55,56,57,48,49,50,51,52,53,54,55,56,57,48,49,50,51,52,53,54,55,56,57,48,49,50,51,52,53,54,55,56,57,48,49,50,51,52,53,54,55,56,57,48,49,50,51,52,53]⟩⟩))],nx:=39,ans:=.val (.tup [(.sc (.int .i32 53)),(.sc (.int .i64 1))]) },
  { args:=[(.sc (.string ⟨⟨[54,55,56,57,48,49,50,51,52,53,54,55,56,57,48,49,50,51,52,53,54,55,56,57,48,49,50,51,52,53,54,55,56,57,48,49,50,51,52,53,54,55,56,57,48,49,50,51,52,53]⟩⟩))],nx:=39,ans:=.val (.tup [(.sc (.int .i32 54)),(.sc (.int .i64 1))]) },
  { args:=[(.sc (.string ⟨⟨[55,56,57,48,49,50,51,52,53,54,55,56,57,48,49,50,51,52,53,54,55,56,57,48,49,50,51,52,53,54,55,56,57,48,49,50,51,52,53,54,55,56,57,48,49,50,51,52,53]⟩⟩))],nx:=39,ans:=.val (.tup [(.sc (.int .i32 55)),(.sc (.int .i64 1))]) },
  { args:=[(.sc (.string ⟨⟨[56,57,48,49,50,51,52,53,54,55,56,57,48,49,50,51,52,53,54,55,56,57,48,49,50,51,52,53,54,55,56,57,48,49,50,51,52,53,54,55,56,57,48,49,50,51,52,53]⟩⟩))],nx:=39,ans:=.val (.tup [(.sc (.int .i32 56)),(.sc (.int .i64 1))]) },
  { args:=[(.sc (.string ⟨⟨[57,48,49,50,51,52,53,54,55,56,57,48,49,50,51,52,53,54,55,56,57,48,49,50,51,52,53,54,55,56,57,48,49,50,51,52,53,54,55,56,57,48,49,50,51,52,53]⟩⟩))],nx:=39,ans:=.val (.tup [(.sc (.int .i32 57)),(.sc (.int .i64 1))]) },
  { args:=[(.sc (.string ⟨⟨[48,49,50,51,52,53,54,55,56,57,48,49,50,51,52,53,54,55,56,57,48,49,50,51,52,53,54,55,56,57,48,49,50,51,52,53,54,55,56,57,48,49,50,51,52,53]⟩⟩))],nx:=39,ans:=.val (.tup [(.sc (.int .i32 48)),(.sc (.int .i64 1))]) },
  { args:=[(.sc (.string ⟨⟨[49,50,51,52,53,54,55,56,57,48,49,50,51,52,53,54,55,56,57,48,49,50,51,52,53,54,55,56,57,48,49,50,51,52,53,54,55,56,57,48,49,50,51,52,53]⟩⟩))],nx:=39,ans:=.val (.tup [(.sc (.int .i32 49)),(.sc (.int .i64 1))]) },
  { args:=[(.sc (.string ⟨⟨[50,51,52,53,54,55,56,57,48,49,50,51,52,53,54,55,56,57,48,49,50,51,52,53,54,55,56,57,48,49,50,51,52,53,54,55,56,57,48,49,50,51,52,53]⟩⟩))],nx:=39,ans:=.val (.tup [(.sc (.int .i32 50)),(.sc (.int .i64 1))]) },
  { args:=[(.sc (.string ⟨⟨[51,52,53,54,55,56,57,48,49,50,51,52,53,54,55,56,57,48,49,50,51,52,53,54,55,56,57,48,49,50,51,52,53,54,55,56,57,48,49,50,51,52,53]⟩⟩))],nx:=39,ans:=.val (.tup [(.sc (.int .i32 51)),(.sc (.int .i64 1))]) },
  { args:=[(.sc (.string ⟨⟨[52,53,54,55,56,57,48,49,50,51,52,53,54,55,56,57,48,49,50,51,52,53,54,55,56,57,48,49,50,51,52,53,54,55,56,57,48,49,50,51,52,53]⟩⟩))],nx:=39,ans:=.val (.tup [(.sc (.int .i32 52)),(.sc (.int .i64 1))]) },
  { args:=[(.sc (.string ⟨⟨[53,54,55,56,57,48,49,50,51,52,53,54,55,56,57,48,49,50,51,52,53,54,55,56,57,48,49,50,51,52,53,54,55,56,57,48,49,50,51,52,53]⟩⟩))],nx:=39,ans:=.val (.tup [(.sc (.int .i32 53)),(.sc (.int .i64 1))]) },
  { args:=[(.sc (.string ⟨⟨[54,55,56,57,48,49,50,51,52,53,54,55,56,57,48,49,50,51,52,53,54,55,56,57,48,49,50,51,52,53,54,55,56,57,48,49,50,51,52,53]⟩⟩))],nx:=39,ans:=.val (.tup [(.sc (.int .i32 54)),(.sc (.int .i64 1))]) },
  { args:=[(.sc (.string ⟨⟨[55,56,57,48,49,50,51,52,53,54,55,56,57,48,49,50,51,52,53,54,55,56,57,48,49,50,51,52,53,54,55,56,57,48,49,50,51,52,53]⟩⟩))],nx:=39,ans:=.val (.tup [(.sc (.int .i32 55)),(.sc (.int .i64 1))]) },
  { args:=[(.sc (.string ⟨⟨[56,57,48,49,50,51,52,53,54,55,56,57,48,49,50,51,52,53,54,55,56,57,48,49,50,51,52,53,54,55,56,57,48,49,50,51,52,53]⟩⟩))],nx:=39,ans:=.val (.tup [(.sc (.int .i32 56)),(.sc (.int .i64 1))]) },
  { args:=[(.sc (.string ⟨⟨[57,48,49,50,51,52,53,54,55,56,57,48,49,50,51,52,53,54,55,56,57,48,49,50,51,52,53,54,55,56,57,48,49,50,51,52,53]⟩⟩))],nx:=39,ans:=.val (.tup [(.sc (.int .i32 57)),(.sc (.int .i64 1))]) },
  { args:=[(.sc (.string ⟨⟨[48,49,50,51,52,53,54,55,56,57,48,49,50,51,52,53,54,55,56,57,48,49,50,51,52,53,54,55,56,57,48,49,50,51,52,53]⟩⟩))],nx:=39,ans:=.val (.tup [(.sc (.int .i32 48)),(.sc (.int .i64 1))]) },
  { args:=[(.sc (.string ⟨⟨[49,50,51,52,53,54,55,56,57,48,49,50,51,52,53,54,55,56,57,48,49,50,51,52,53,54,55,56,57,48,49,50,51,52,53]⟩⟩))],nx:=39,ans:=.val (.tup [(.sc (.int .i32 49)),(.sc (.int .i64 1))]) },
  { args:=[(.sc (.string ⟨⟨[50,51,52,53,54,55,56,57,48,49,50,51,52,53,54,55,56,57,48,49,50,51,52,53,54,55,56,57,48,49,50,51,52,53]⟩⟩))],nx:=39,ans:=.val (.tup [(.sc (.int .i32 50)),(.sc (.int .i64 1))]) },
  { args:=[(.sc (.string ⟨⟨[51,52,53,54,55,56,57,48,49,50,51,52,53,54,55,56,57,48,49,50,51,52,53,54,55,56,57,48,49,50,51,52,53]⟩⟩))],nx:=39,ans:=.val (.tup [(.sc (.int .i32 51)),(.sc (.int .i64 1))]) },
  { args:=[(.sc (.string ⟨⟨[52,53,54,55,56,57,48,49,50,51,52,53,54,55,56,57,48,49,50,51,52,53,54,55,56,57,48,49,50,51,52,53]⟩⟩))],nx:=39,ans:=.val (.tup [(.sc (.int .i32 52)),(.sc (.int .i64 1))]) },
  { args:=[(.sc (.string ⟨⟨[53,54,55,56,57,48,49,50,51,52,53,54,55,56,57,48,49,50,51,52,53,54,55,56,57,48,49,50,51,52,53]⟩⟩))],nx:=39,ans:=.val (.tup [(.sc (.int .i32 53)),(.sc (.int .i64 1))]) },
  { args:=[(.sc (.string ⟨⟨[54,55,56,57,48,49,50,51,52,53,54,55,56,57,48,49,50,51,52,53,54,55,56,57,48,49,50,51,52,53]⟩⟩))],nx:=39,ans:=.val (.tup [(.sc (.int .i32 54)),(.sc (.int .i64 1))]) },
  { args:=[(.sc (.string ⟨⟨[55,56,57,48,49,50,51,52,53,54,55,56,57,48,49,50,51,52,53,54,55,56,57,48,49,50,51,52,53]⟩⟩))],nx:=39,ans:=.val (.tup [(.sc (.int .i32 55)),(.sc (.int .i64 1))]) },
  { args:=[(.sc (.string ⟨⟨[56,57,48,49,50,51,52,53,54,55,56,57,48,49,50,51,52,53,54,55,56,57,48,49,50,51,52,53]⟩⟩))],nx:=39,ans:=.val (.tup [(.sc (.int .i32 56)),(.sc (.int .i64 1))]) },
  { args:=[(.sc (.string ⟨⟨[57,48,49,50,51,52,53,54,55,56,57,48,49,50,51,52,53,54,55,56,57,48,49,50,51,52,53]⟩⟩))],nx:=39,ans:=.val (.tup [(.sc (.int .i32 57)),(.sc (.int .i64 1))]) },
  { args:=[(.sc (.string ⟨⟨[48,49,50,51,52,53,54,55,56,57,48,49,50,51,52,53,54,55,56,57,48,49,50,51,52,53]⟩⟩))],nx:=39,ans:=.val (.tup [(.sc (.int .i32 48)),(.sc (.int .i64 1))]) },
  { args:=[(.sc (.string ⟨⟨[49,50,51,52,53,54,55,56,57,48,49,50,51,52,53,54,55,56,57,48,49,50,51,52,53]⟩⟩))],nx:=39,ans:=.val (.tup [(.sc (.int .i32 49)),(.sc (.int .i64 1))]) },
  { args:=[(.sc (.string ⟨⟨[50,51,52,53,54,55,56,57,48,49,50,51,52,53,54,55,56,57,48,49,50,51,52,53]⟩⟩))],nx:=39,ans:=.val (.tup [(.sc (.int .i32 50)),(.sc (.int .i64 1))]) },
  { args:=[(.sc (.string ⟨⟨[51,52,53,54,55,56,57,48,49,50,51,52,53,54,55,56,57,48,49,50,51,52,53]⟩⟩))],nx:=39,ans:=.val (.tup [(.sc (.int .i32 51)),(.sc (.int .i64 1))]) },
  { args:=[(.sc (.string ⟨⟨[52,53,54,55,56,57,48,49,50,51,52,53,54,55,56,57,48,49,50,51,52,53]⟩⟩))],nx:=39,ans:=.val (.tup [(.sc (.int .i32 52)),(.sc (.int .i64 1))]) },
  { args:=[(.sc (.string ⟨⟨[53,54,55,56,57,48,49,50,51,52,53,54,55,56,57,48,49,50,51,52,53]⟩⟩))],nx:=39,ans:=.val (.tup [(.sc (.int .i32 53)),(.sc (.int .i64 1))]) },
  { args:=[(.sc (.string ⟨⟨[54,55,56,57,48,49,50,51,52,53,54,55,56,57,48,49,50,51,52,53]⟩⟩))],nx:=39,ans:=.val (.tup [(.sc (.int .i32 54)),(.sc (.int .i64 1))]) },
  { args:=[(.sc (.string ⟨⟨[55,56,57,48,49,50,51,52,53,54,55,56,57,48,49,50,51,52,53]⟩⟩))],nx:=39,ans:=.val (.tup [(.sc (.int .i32 55)),(.sc (.int .i64 1))]) }])]
theorem b2:mE Tryd.prog ext T1 100000 200 B2=true:=by kernel_rfl
def T2:Table:=B2++T1
theorem t2:je Tryd.prog Iv T2:=t1.add Ij mixed b2
def B3:Table:=[(62,[{ args:=[(.sc (.string ⟨⟨[56,57,48,49,50,51,52,53,54,55,56,57,48,49,50,51,52,53]⟩⟩))],nx:=39,ans:=.val (.tup [(.sc (.int .i32 56)),(.sc (.int .i64 1))]) },
    { args:=[(.sc (.string ⟨⟨[57,48,49,50,51,52,53,54,55,56,57,48,49,50,51,52,53]⟩⟩))],nx:=39,ans:=.val (.tup [(.sc (.int .i32 57)),(.sc (.int .i64 1))]) },
    { args:=[(.sc (.string ⟨⟨[48,49,50,51,52,53,54,55,56,57,48,49,50,51,52,53]⟩⟩))],nx:=39,ans:=.val (.tup [(.sc (.int .i32 48)),(.sc (.int .i64 1))]) },
    { args:=[(.sc (.string ⟨⟨[49,50,51,52,53,54,55,56,57,48,49,50,51,52,53]⟩⟩))],nx:=39,ans:=.val (.tup [(.sc (.int .i32 49)),(.sc (.int .i64 1))]) },
    { args:=[(.sc (.string ⟨⟨[50,51,52,53,54,55,56,57,48,49,50,51,52,53]⟩⟩))],nx:=39,ans:=.val (.tup [(.sc (.int .i32 50)),(.sc (.int .i64 1))]) },
    { args:=[(.sc (.string ⟨⟨[51,52,53,54,55,56,57,48,49,50,51,52,53]⟩⟩))],nx:=39,ans:=.val (.tup [(.sc (.int .i32 51)),(.sc (.int .i64 1))]) },
    { args:=[(.sc (.string ⟨⟨[52,53,54,55,56,57,48,49,50,51,52,53]⟩⟩))],nx:=39,ans:=.val (.tup [(.sc (.int .i32 52)),(.sc (.int .i64 1))]) },
    { args:=[(.sc (.string ⟨⟨[53,54,55,56,57,48,49,50,51,52,53]⟩⟩))],nx:=39,ans:=.val (.tup [(.sc (.int .i32 53)),(.sc (.int .i64 1))]) },
    { args:=[(.sc (.string ⟨⟨[54,55,56,57,48,49,50,51,52,53]⟩⟩))],nx:=39,ans:=.val (.tup [(.sc (.int .i32 54)),(.sc (.int .i64 1))]) },
    { args:=[(.sc (.string ⟨⟨[55,56,57,48,49,50,51,52,53]⟩⟩))],nx:=39,ans:=.val (.tup [(.sc (.int .i32 55)),(.sc (.int .i64 1))]) },
    { args:=[(.sc (.string ⟨⟨[56,57,48,49,50,51,52,53]⟩⟩))],nx:=39,ans:=.val (.tup [(.sc (.int .i32 56)),(.sc (.int .i64 1))]) },
    { args:=[(.sc (.string ⟨⟨[57,48,49,50,51,52,53]⟩⟩))],nx:=39,ans:=.val (.tup [(.sc (.int .i32 57)),(.sc (.int .i64 1))]) },
    { args:=[(.sc (.string ⟨⟨[48,49,50,51,52,53]⟩⟩))],nx:=39,ans:=.val (.tup [(.sc (.int .i32 48)),(.sc (.int .i64 1))]) },
    { args:=[(.sc (.string ⟨⟨[49,50,51,52,53]⟩⟩))],nx:=39,ans:=.val (.tup [(.sc (.int .i32 49)),(.sc (.int .i64 1))]) },
    { args:=[(.sc (.string ⟨⟨[50,51,52,53]⟩⟩))],nx:=39,ans:=.val (.tup [(.sc (.int .i32 50)),(.sc (.int .i64 1))]) },
    { args:=[(.sc (.string ⟨⟨[51,52,53]⟩⟩))],nx:=39,ans:=.val (.tup [(.sc (.int .i32 51)),(.sc (.int .i64 1))]) },
    { args:=[(.sc (.string ⟨⟨[52,53]⟩⟩))],nx:=39,ans:=.val (.tup [(.sc (.int .i32 52)),(.sc (.int .i64 1))]) },
    { args:=[(.sc (.string ⟨⟨[53]⟩⟩))],nx:=39,ans:=.val (.tup [(.sc (.int .i32 53)),(.sc (.int .i64 1))]) }]),
 (25,[{ args:=[(.sc (.string ⟨⟨[97,44,98]⟩⟩))],nx:=38,ans:=.val (.sc (.string ⟨⟨[97,92,44,98]⟩⟩)) }])]
theorem b3:mE Tryd.prog ext T2 100000 200 B3=true:=by kernel_rfl
def T3:Table:=B3++T2
theorem t3:je Tryd.prog Iv T3:=t2.add Ij mixed b3
def B4:Table:=[(36,[{ args:=[(.sc (.string ⟨⟨[84,69,76,59,84,89,80,69,61,104,111,109,101,58,49,50,10]⟩⟩)),(.sc (.string ⟨⟨[10]⟩⟩))],nx:=0,ans:=.val (.tup [(.sc (.string ⟨⟨[84,69,76,59,84,89,80,69,61,104,111,109,101,58,49,50]⟩⟩)),(.sc (.string ⟨⟨[]⟩⟩)),(.sc (.bool true))]) },
    { args:=[(.sc (.string ⟨⟨[65,58,49,10,66]⟩⟩)),(.sc (.string ⟨⟨[10]⟩⟩))],nx:=14,ans:=.val (.tup [(.sc (.string ⟨⟨[65,58,49]⟩⟩)),(.sc (.string ⟨⟨[66]⟩⟩)),(.sc (.bool true))]) },
    { args:=[(.sc (.string ⟨⟨[66]⟩⟩)),(.sc (.string ⟨⟨[10]⟩⟩))],nx:=18,ans:=.val (.tup [(.sc (.string ⟨⟨[66]⟩⟩)),(.sc (.string ⟨⟨[]⟩⟩)),(.sc (.bool false))]) },
    { args:=[(.sc (.string ⟨⟨[97,10,32,98,13,10,99]⟩⟩)),(.sc (.string ⟨⟨[10]⟩⟩))],nx:=26,ans:=.val (.tup [(.sc (.string ⟨⟨[97]⟩⟩)),(.sc (.string ⟨⟨[32,98,13,10,99]⟩⟩)),(.sc (.bool true))]) },
    { args:=[(.sc (.string ⟨⟨[32,98,13,10,99]⟩⟩)),(.sc (.string ⟨⟨[10]⟩⟩))],nx:=30,ans:=.val (.tup [(.sc (.string ⟨⟨[32,98,13]⟩⟩)),(.sc (.string ⟨⟨[99]⟩⟩)),(.sc (.bool true))]) },
    { args:=[(.sc (.string ⟨⟨[99]⟩⟩)),(.sc (.string ⟨⟨[10]⟩⟩))],nx:=30,ans:=.val (.tup [(.sc (.string ⟨⟨[99]⟩⟩)),(.sc (.string ⟨⟨[]⟩⟩)),(.sc (.bool false))]) }]),
 (52,[{ args:=[(.sc (.string ⟨⟨[84,69,76,59,84,89,80,69,61,104,111,109,101,58,49,50]⟩⟩))],nx:=6,ans:=.val (.tup [(.sc (.string ⟨⟨[116,101,108]⟩⟩)),(.sc (.string ⟨⟨[59,84,89,80,69,61,104,111,109,101,58,49,50]⟩⟩))]) },
  { args:=[(.sc (.string ⟨⟨[84,89,80,69,61,104,111,109,101,58,49,50]⟩⟩))],nx:=7,ans:=.val (.tup [(.sc (.string ⟨⟨[116,121,112,101]⟩⟩)),(.sc (.string ⟨⟨[61,104,111,109,101,58,49,50]⟩⟩))]) },
  { args:=[(.sc (.string ⟨⟨[65,58,49]⟩⟩))],nx:=24,ans:=.val (.tup [(.sc (.string ⟨⟨[97]⟩⟩)),(.sc (.string ⟨⟨[58,49]⟩⟩))]) },
  { args:=[(.sc (.string ⟨⟨[66]⟩⟩))],nx:=27,ans:=.val (.tup [(.sc (.string ⟨⟨[98]⟩⟩)),(.sc (.string ⟨⟨[]⟩⟩))]) }]),
 (45,[{ args:=[(.sc (.string ⟨⟨[116,121,112,101]⟩⟩))],nx:=7,ans:=.val (.sc (.bool true)) },
  { args:=[(.sc (.string ⟨⟨[116,101,108]⟩⟩))],nx:=11,ans:=.val (.sc (.bool true)) },
  { args:=[(.sc (.string ⟨⟨[97]⟩⟩))],nx:=24,ans:=.val (.sc (.bool true)) },
  { args:=[(.sc (.string ⟨⟨[98]⟩⟩))],nx:=27,ans:=.val (.sc (.bool true)) }]),
 (68,[{ args:=[(.sc (.string ⟨⟨[104,111,109,101,58,49,50]⟩⟩)),(.sc (.string ⟨⟨[44,59,58]⟩⟩))],nx:=7,ans:=.val (.sc (.int .i64 4)) },
  { args:=[(.sc (.string ⟨⟨[104,111,109,101]⟩⟩)),(.sc (.string ⟨⟨[44,59,58]⟩⟩))],nx:=34,ans:=.val (.sc (.int .i64 (-1))) }]),
 (46,[{ args:=[(.sc (.string ⟨⟨[104,111,109,101]⟩⟩)),(.sc (.string ⟨⟨[34]⟩⟩))],nx:=7,ans:=.val (.sc (.bool true)) },
  { args:=[(.sc (.string ⟨⟨[49,50]⟩⟩)),(.sc (.string ⟨⟨[]⟩⟩))],nx:=11,ans:=.val (.sc (.bool true)) },
  { args:=[(.sc (.string ⟨⟨[49]⟩⟩)),(.sc (.string ⟨⟨[]⟩⟩))],nx:=24,ans:=.val (.sc (.bool true)) }]),
 (40,[{ args:=[(.sc (.string ⟨⟨[84,69,76,59,84,89,80,69,61,104,111,109,101,58,49,50]⟩⟩)),(.sc (.int .i64 75))],nx:=36,ans:=.val (.sc (.int .i64 16)) },
  { args:=[(.sc (.string ⟨⟨[48,49,50,51,52,53,54,55,56,57,48,49,50,51,52,53,54,55,56,57,48,49,50,51,52,53,54,55,56,57,48,49,50,51,52,53,54,55,56,57,48,49,50,51,52,53,54,55,56,57,48,49,50,51,52,53,54,55,56,57,48,49,50,51,52,53,54,55,56,57,48,49,50,51,52,53]⟩⟩)),(.sc (.int .i64 75))],nx:=39,ans:=.val (.sc (.int .i64 75)) },
  { args:=[(.sc (.string ⟨⟨[53]⟩⟩)),(.sc (.int .i64 74))],nx:=41,ans:=.val (.sc (.int .i64 1)) }]),
 (11,[{ args:=[(.sc (.string ⟨⟨[97,92,44,98]⟩⟩))],nx:=34,ans:=.val (.tup [(.sc (.string ⟨⟨[97,44,98]⟩⟩)),(.sc (.int .i64 0))]) }])]
theorem b4:mE Tryd.prog ext T3 100000 200 B4=true:=by kernel_rfl
def T4:Table:=B4++T3
theorem t4:je Tryd.prog Iv T4:=t3.add Ij mixed b4
def B5:Table:=[(73,[{ args:=[(.sc (.string ⟨⟨[104,111,109,101,58,49,50]⟩⟩))],nx:=7,ans:=.val (.tup [(.sc (.string ⟨⟨[104,111,109,101]⟩⟩)),(.sc (.string ⟨⟨[58,49,50]⟩⟩)),(.sc (.bool true))]) }]),
 (34,[{ args:=[(.sc (.string ⟨⟨[65,58,49]⟩⟩))],nx:=22,ans:=.val (.tup [(.agg [(.sc (.string ⟨⟨[]⟩⟩)),(.sc (.string ⟨⟨[97]⟩⟩)),(.sc (.slice none 0 0)),(.sc (.string ⟨⟨[49]⟩⟩)),(.sc (.int .i64 0))]),(.sc (.bool true))]) },
  { args:=[(.sc (.string ⟨⟨[66]⟩⟩))],nx:=25,ans:=.val (.tup [(.agg [(.sc (.string ⟨⟨[]⟩⟩)),(.sc (.string ⟨⟨[]⟩⟩)),(.sc (.slice none 0 0)),(.sc (.string ⟨⟨[]⟩⟩)),(.sc (.int .i64 0))]),(.sc (.bool false))]) }]),
 (48,[{ args:=[(.sc (.string ⟨⟨[104,111,109,101]⟩⟩))],nx:=29,ans:=.val (.sc (.bool false)) }]),
 (50,[{ args:=[(.sc (.string ⟨⟨[104,111,109,101]⟩⟩)),(.sc (.string ⟨⟨[44,59,58]⟩⟩))],nx:=34,ans:=.val (.sc (.bool false)) }]),
 (21,[{ args:=[(.sc (.string ⟨⟨[84,69,76,59,84,89,80,69,61,104,111,109,101,58,49,50]⟩⟩))],nx:=35,ans:=.val (.sc (.string ⟨⟨[84,69,76,59,84,89,80,69,61,104,111,109,101,58,49,50]⟩⟩)) },
  { args:=[(.sc (.string ⟨⟨[48,49,50,51,52,53,54,55,56,57,48,49,50,51,52,53,54,55,56,57,48,49,50,51,52,53,54,55,56,57,48,49,50,51,52,53,54,55,56,57,48,49,50,51,52,53,54,55,56,57,48,49,50,51,52,53,54,55,56,57,48,49,50,51,52,53,54,55,56,57,48,49,50,51,52,53]⟩⟩))],nx:=38,ans:=.val (.sc (.string ⟨⟨[48,49,50,51,52,53,54,55,56,57,48,49,50,51,52,53,54,55,56,57,48,49,50,51,52,53,54,55,56,57,48,49,50,51,52,53,54,55,56,57,48,49,50,51,52,53,54,55,56,57,48,49,50,51,52,53,54,55,56,57,48,49,50,51,52,53,54,55,56,57,48,49,50,51,52,13,10,32,53]⟩⟩)) }])]
theorem b5:mE Tryd.prog ext T4 100000 200 B5=true:=by kernel_rfl
def T5:Table:=B5++T4
theorem t5:je Tryd.prog Iv T5:=t4.add Ij mixed b5
def B6:Table:=[(34,[{ args:=[(.sc (.string ⟨⟨[84,69,76,59,84,89,80,69,61,104,111,109,101,58,49,50]⟩⟩))],ans:=.rows 4 (.tup [(.agg [(.sc (.string ⟨⟨[]⟩⟩)),(.sc (.string ⟨⟨[116,101,108]⟩⟩)),(.slc 10 0 1 (.op 2)),(.sc (.string ⟨⟨[49,50]⟩⟩)),(.sc (.int .i64 0))]),(.sc (.bool true))]) [(8,(.row 1 (.node .leaf (some (.sc (.string ⟨⟨[104,111,109,101]⟩⟩))) .leaf) [] true 9 0)),(10,(.row 2 (.node (.node .leaf (some (.slc 8 0 1 (.op 1))) .leaf) (some (.sc (.string ⟨⟨[116,121,112,101]⟩⟩))) .leaf) [] true 35 0))] 11 }]),
 (12,[{ args:=[(.agg [(.sc (.string ⟨⟨[]⟩⟩)),(.sc (.string ⟨⟨[116,101,108]⟩⟩)),(.slc 10 0 1 (.op 2)),(.sc (.string ⟨⟨[49,50]⟩⟩)),(.sc (.int .i64 1))])],fp:=[(8,(.row 1 (.node .leaf (some (.sc (.string ⟨⟨[104,111,109,101]⟩⟩))) .leaf) [] true 9 0)),(10,(.row 2 (.node (.node .leaf (some (.slc 8 0 1 (.op 1))) .leaf) (some (.sc (.string ⟨⟨[116,121,112,101]⟩⟩))) .leaf) [] true 35 0))],nx:=26,ans:=.val (.tup [(.sc (.string ⟨⟨[84,69,76,59,84,89,80,69,61,104,111,109,101,58,49,50,13,10]⟩⟩)),(.sc (.int .i64 0))]) }])]
theorem b6:mE Tryd.prog ext T5 100000 200 B6=true:=by kernel_rfl
def T6:Table:=B6++T5
theorem t6:je Tryd.prog Iv T6:=t5.add Ij mixed b6
theorem t:je Tryd.prog Iv T6:=t6
abbrev T:Table:=T6
def BA:Table:=[(10,[{ args:=[],ans:=.val (.sc (.bool true)) }])]
theorem bA:mE Tryd.prog ext T 100000 200 BA=true:=by kernel_rfl
def TA:Table:=BA++T
theorem tA:je Tryd.prog Iv TA:=t.add Ij mixed bA
end Go.Proofs.YtmilkhdicmkmbaaDoor
set_option maxRecDepth 100000
set_option linter.unusedVariables false
set_option linter.unusedSimpArgs false
namespace Go.Proofs.YtmilkhdicmkmbaaDoor
open Go Go.Ab Go.Ab.Vl
abbrev au := @eP Tryd.prog
theorem SV:De Tryd.prog:=⟨Il (by kernel_rfl),by kernel_rfl⟩
theorem bK {f:FuncId} {fn:Func} {args:List AV} {M:RM} {Q:ai} {B:Prop} (h:B) (hfn:Tryd.prog.funcs[f]?=some fn:=by kernel_rfl) (e:B=Ei Tryd.prog fn args M Q:=by kernel_rfl) : au f args M Q:=Ni SV hfn (e▸h)
variable {a0 a1 a2 a3 a4 a5 a6 a7:AV} {M:RM} {Q:ai}
theorem lM (h:gQ (au 43) 5 a0 a1 M Q) : au 29 [a0,a1] M Q:=bK (fn:=Tryd.f29) h
theorem qj (h:nH (au 44) a0 a1 M Q) : au 30 [a0,a1] M Q:=bK (fn:=Tryd.f30) h
theorem nu (h:iK 5 a0 M Q) : au 31 [a0] M Q:=bK (fn:=Tryd.f31) h
theorem ik (h:dI (au 43) 5 a0 a1 M Q) : au 41 [a0,a1] M Q:=bK (fn:=Tryd.f41) h
theorem lN (h:gU (vB Tryd.prog 63) 61 a0 M Q) : au 43 [a0] M Q:=bK (fn:=Tryd.f43) h
theorem kJ (h:iH (vB Tryd.prog 64) a0 a1 M Q) : au 44 [a0,a1] M Q:=bK (fn:=Tryd.f44) h
end Go.Proofs.YtmilkhdicmkmbaaDoor
namespace Go.Proofs.YtmilkhdicmkmbaaDoor
open Go Go.Ab Go.Ab.Vl
variable {a0 a1 a2 a3 a4 a5 a6 a7:AV} {M:RM} {Q:ai}
theorem wO (h:nN (au 36) (au 37) 9 3 a0 M Q) : au 16 [a0] M Q:=bK (fn:=Tryd.f16) h
theorem zC (h:rO 61 (au 40) (au 41) (au 31) a0 M Q) : au 21 [a0] M Q:=bK (fn:=Tryd.f21) h
theorem zQ (h:qM 5 (au 42) a0 M Q) : au 22 [a0] M Q:=bK (fn:=Tryd.f22) h
theorem vD (h:nJ (au 42) a0 M Q) : au 24 [a0] M Q:=bK (fn:=Tryd.f24) h
theorem nG (h:j5 (au 59) a0 a1 M Q) : au 36 [a0,a1] M Q:=bK (fn:=Tryd.f36) h
theorem pO (h:jM (au 60) a0 a1 M Q) : au 37 [a0,a1] M Q:=bK (fn:=Tryd.f37) h
theorem xP (h:pJ (au 62) a0 a1 M Q) : au 40 [a0,a1] M Q:=bK (fn:=Tryd.f40) h
theorem yE (h:rq a0 M Q) : au 42 [a0] M Q:=bK (fn:=Tryd.f42) h
theorem iJ (h:dW (au 74) a0 a1 M Q) : au 59 [a0,a1] M Q:=bK (fn:=Tryd.f59) h
theorem jY (h:eZ (au 75) a0 a1 M Q) : au 60 [a0,a1] M Q:=bK (fn:=Tryd.f60) h
theorem iy (h:dO (au 44) (vB Tryd.prog 88) (au 89) (au 90) a0 a1 M Q) : au 74 [a0,a1] M Q:=bK (fn:=Tryd.f74) h
theorem kL (h:fD a0 a1 M Q) : au 75 [a0,a1] M Q:=bK (fn:=Tryd.f75) h
end Go.Proofs.YtmilkhdicmkmbaaDoor
namespace Go.Proofs.YtmilkhdicmkmbaaDoor
open Go Go.Ab Go.Ab.Vl
variable {a0 a1 a2 a3 a4 a5 a6 a7:AV} {M:RM} {Q:ai}
theorem zD (h:rM (au 16) (au 34) 29 a0 M Q) : au 13 [a0] M Q:=bK (fn:=Tryd.f13) h
theorem yN (h:q9 46 a0 a1 M Q) : au 18 [a0,a1] M Q:=bK (fn:=Tryd.f18) h
theorem BG (h:wX 29 46 75 a0 M Q) : au 19 [a0] M Q:=bK (fn:=Tryd.f19) h
theorem uf (h:mh (au 65) a0 M Q) : au 45 [a0] M Q:=bK (fn:=Tryd.f45) h
theorem rZ (h:lK 5 (au 66) (au 30) (au 51) a0 a1 M Q) : au 46 [a0,a1] M Q:=bK (fn:=Tryd.f46) h
theorem yY (h:rQ (au 71) (au 70) a0 M Q) : au 52 [a0] M Q:=bK (fn:=Tryd.f52) h
theorem qp (h:kD (au 72) a0 a1 M Q) : au 53 [a0,a1] M Q:=bK (fn:=Tryd.f53) h
theorem vM (h:nW (au 53) 35 (au 52) (au 45) (au 73) 9 a0 M Q) : au 54 [a0] M Q:=bK (fn:=Tryd.f54) h
theorem vL (h:ul (au 78) (au 77) (au 79) 106 (au 81) (au 80) (au 83) (au 82) a0 a1 M Q) : au 65 [a0,a1] M Q:=bK (fn:=Tryd.f65) h
theorem xS (h:pF a0 M Q) : au 66 [a0] M Q:=bK (fn:=Tryd.f66) h
theorem rR (h:ll (au 84) (au 85) (au 79) 106 (au 86) a0 a1 M Q) : au 68 [a0,a1] M Q:=bK (fn:=Tryd.f68) h
theorem qX (h:o9 (au 77) (au 79) 106 (au 80) (au 82) a0 a1 M Q) : au 70 [a0,a1] M Q:=bK (fn:=Tryd.f70) h
theorem xU (h:pQ 5 a0 M Q) : au 71 [a0] M Q:=bK (fn:=Tryd.f71) h
theorem kH (h:fC a0 a1 M Q) : au 72 [a0,a1] M Q:=bK (fn:=Tryd.f72) h
theorem xR (h:pE (au 87) (au 36) (au 46) (au 68) a0 M Q) : au 73 [a0] M Q:=bK (fn:=Tryd.f73) h
theorem ql (h:kK (au 94) a0 a1 M Q) : au 87 [a0,a1] M Q:=bK (fn:=Tryd.f87) h
theorem kF (h:fF (au 72) a0 a1 M Q) : au 94 [a0,a1] M Q:=bK (fn:=Tryd.f94) h
end Go.Proofs.YtmilkhdicmkmbaaDoor
namespace Go.Proofs.YtmilkhdicmkmbaaDoor.lib
open Go Go.Ab Go.Ab.Vl Go.RowKit
def Iz:Go.Shelf.Ren:=⟨fun | 196=>51 | 259=>69 | n=>n,fun | 9=>9 | 4=>4 | 3=>3 | 5=>5 | 12=>12 | 119=>98 | 0=>0 | 46=>102 | 139=>101 | 138=>100 | 53=>113 | n=>n,fun | 3=>0 | 4=>1 | n=>n⟩
theorem Qj:Go.Proofs.Lays.n196 Tryd.prog Iz where
 mixed:=by kernel_rfl
 f196:=Tryd.func51.trans (congrArg some (by kernel_rfl))
 f259:=Tryd.func69.trans (congrArg some (by kernel_rfl))
 t0:=Tryd.underlying0
 a0:=Tryd.isAgg0
 z0:=Tryd.sizeOf0
 v0:=Tryd.zeroValue0
 t3:=Tryd.underlying3
 a3:=Tryd.isAgg3
 z3:=Tryd.sizeOf3
 v3:=Tryd.zeroValue3
 t4:=Tryd.underlying4
 a4:=Tryd.isAgg4
 z4:=Tryd.sizeOf4
 v4:=Tryd.zeroValue4
 t5:=Tryd.underlying5
 a5:=Tryd.isAgg5
 z5:=Tryd.sizeOf5
 v5:=Tryd.zeroValue5
 t9:=Tryd.underlying9
 a9:=Tryd.isAgg9
 z9:=Tryd.sizeOf9
 v9:=Tryd.zeroValue9
 t12:=Tryd.underlying12
 a12:=Tryd.isAgg12
 z12:=Tryd.sizeOf12
 v12:=Tryd.zeroValue12
 t46:=Tryd.underlying102
 a46:=Tryd.isAgg102
 z46:=Tryd.sizeOf102
 v46:=Tryd.zeroValue102
 t53:=Tryd.underlying113
 a53:=Tryd.isAgg113
 z53:=Tryd.sizeOf113
 v53:=Tryd.zeroValue113
 t119:=Tryd.underlying98
 a119:=Tryd.isAgg98
 z119:=Tryd.sizeOf98
 t138:=Tryd.underlying100
 a138:=Tryd.isAgg100
 z138:=Tryd.sizeOf100
 v138:=Tryd.zeroValue100
 t139:=Tryd.underlying101
 a139:=Tryd.isAgg101
 z139:=Tryd.sizeOf101
 v139:=Tryd.zeroValue101
 g3:=by kernel_rfl
 g4:=by kernel_rfl
def IV:Go.Shelf.Ren:=⟨fun | 160=>65 | 232=>78 | 231=>77 | 227=>79 | 234=>81 | 233=>80 | 236=>83 | 235=>82 | 228=>86 | 271=>92 | 151=>91 | 197=>62 | 120=>96 | 152=>84 | 260=>76 | 137=>30 | 119=>93 | 224=>89 | 225=>88 | 217=>44 | 266=>64 | n=>n,fun | 9=>9 | 4=>4 | 3=>3 | 5=>5 | 117=>107 | 116=>106 | 0=>0 | 124=>110 | 21=>21 | 105=>91 | 46=>102 | 119=>98 | 139=>101 | 138=>100 | n=>n,fun | 3=>0 | 4=>1 | n=>n⟩
theorem PX:Go.Proofs.Lays.n160 Tryd.prog IV where
 mixed:=by kernel_rfl
 f119:=Tryd.func93.trans (congrArg some (by kernel_rfl))
 f120:=Tryd.func96.trans (congrArg some (by kernel_rfl))
 f137:=Tryd.func30.trans (congrArg some (by kernel_rfl))
 f151:=Tryd.func91.trans (congrArg some (by kernel_rfl))
 f152:=Tryd.func84.trans (congrArg some (by kernel_rfl))
 f160:=Tryd.func65.trans (congrArg some (by kernel_rfl))
 f197:=Tryd.func62.trans (congrArg some (by kernel_rfl))
 f217:=Tryd.func44.trans (congrArg some (by kernel_rfl))
 f224:=Tryd.func89.trans (congrArg some (by kernel_rfl))
 f225:=Tryd.func88.trans (congrArg some (by kernel_rfl))
 f227:=Tryd.func79.trans (congrArg some (by kernel_rfl))
 f228:=Tryd.func86.trans (congrArg some (by kernel_rfl))
 f231:=Tryd.func77.trans (congrArg some (by kernel_rfl))
 f232:=Tryd.func78.trans (congrArg some (by kernel_rfl))
 f233:=Tryd.func80.trans (congrArg some (by kernel_rfl))
 f234:=Tryd.func81.trans (congrArg some (by kernel_rfl))
 f235:=Tryd.func82.trans (congrArg some (by kernel_rfl))
 f236:=Tryd.func83.trans (congrArg some (by kernel_rfl))
 f260:=Tryd.func76.trans (congrArg some (by kernel_rfl))
 f266:=Tryd.func64.trans (congrArg some (by kernel_rfl))
 f271:=Tryd.func92.trans (congrArg some (by kernel_rfl))
 t0:=Tryd.underlying0
 a0:=Tryd.isAgg0
 z0:=Tryd.sizeOf0
 v0:=Tryd.zeroValue0
 t3:=Tryd.underlying3
 a3:=Tryd.isAgg3
 z3:=Tryd.sizeOf3
 v3:=Tryd.zeroValue3
 t4:=Tryd.underlying4
 a4:=Tryd.isAgg4
 z4:=Tryd.sizeOf4
 v4:=Tryd.zeroValue4
 t5:=Tryd.underlying5
 a5:=Tryd.isAgg5
 z5:=Tryd.sizeOf5
 v5:=Tryd.zeroValue5
 t9:=Tryd.underlying9
 a9:=Tryd.isAgg9
 z9:=Tryd.sizeOf9
 v9:=Tryd.zeroValue9
 t21:=Tryd.underlying21
 a21:=Tryd.isAgg21
 z21:=Tryd.sizeOf21
 v21:=Tryd.zeroValue21
 t46:=Tryd.underlying102
 a46:=Tryd.isAgg102
 z46:=Tryd.sizeOf102
 v46:=Tryd.zeroValue102
 t105:=Tryd.underlying91
 a105:=Tryd.isAgg91
 z105:=Tryd.sizeOf91
 v105:=Tryd.zeroValue91
 t116:=Tryd.underlying106
 a116:=Tryd.isAgg106
 z116:=Tryd.sizeOf106
 t117:=Tryd.underlying107
 a117:=Tryd.isAgg107
 z117:=Tryd.sizeOf107
 v117:=Tryd.zeroValue107
 t119:=Tryd.underlying98
 a119:=Tryd.isAgg98
 z119:=Tryd.sizeOf98
 t124:=Tryd.underlying110
 a124:=Tryd.isAgg110
 z124:=Tryd.sizeOf110
 v124:=Tryd.zeroValue110
 t138:=Tryd.underlying100
 a138:=Tryd.isAgg100
 z138:=Tryd.sizeOf100
 v138:=Tryd.zeroValue100
 t139:=Tryd.underlying101
 a139:=Tryd.isAgg101
 z139:=Tryd.sizeOf101
 v139:=Tryd.zeroValue101
 g3:=by kernel_rfl
 g4:=by kernel_rfl
def Jc:Go.Shelf.Ren:=⟨fun | 161=>70 | 231=>77 | 227=>79 | 233=>80 | 235=>82 | 228=>86 | 197=>62 | 151=>91 | 260=>76 | 152=>84 | 137=>30 | 119=>93 | 224=>89 | 225=>88 | 217=>44 | 266=>64 | n=>n,fun | 9=>9 | 4=>4 | 3=>3 | 5=>5 | 117=>107 | 116=>106 | 0=>0 | 124=>110 | 105=>91 | 21=>21 | 119=>98 | 46=>102 | 139=>101 | 138=>100 | n=>n,fun | 3=>0 | 4=>1 | n=>n⟩
theorem PG:Go.Proofs.Lays.n161 Tryd.prog Jc where
 mixed:=by kernel_rfl
 f119:=Tryd.func93.trans (congrArg some (by kernel_rfl))
 f137:=Tryd.func30.trans (congrArg some (by kernel_rfl))
 f151:=Tryd.func91.trans (congrArg some (by kernel_rfl))
 f152:=Tryd.func84.trans (congrArg some (by kernel_rfl))
 f161:=Tryd.func70.trans (congrArg some (by kernel_rfl))
 f197:=Tryd.func62.trans (congrArg some (by kernel_rfl))
 f217:=Tryd.func44.trans (congrArg some (by kernel_rfl))
 f224:=Tryd.func89.trans (congrArg some (by kernel_rfl))
 f225:=Tryd.func88.trans (congrArg some (by kernel_rfl))
 f227:=Tryd.func79.trans (congrArg some (by kernel_rfl))
 f228:=Tryd.func86.trans (congrArg some (by kernel_rfl))
 f231:=Tryd.func77.trans (congrArg some (by kernel_rfl))
 f233:=Tryd.func80.trans (congrArg some (by kernel_rfl))
 f235:=Tryd.func82.trans (congrArg some (by kernel_rfl))
 f260:=Tryd.func76.trans (congrArg some (by kernel_rfl))
 f266:=Tryd.func64.trans (congrArg some (by kernel_rfl))
 t0:=Tryd.underlying0
 a0:=Tryd.isAgg0
 z0:=Tryd.sizeOf0
 v0:=Tryd.zeroValue0
 t3:=Tryd.underlying3
 a3:=Tryd.isAgg3
 z3:=Tryd.sizeOf3
 v3:=Tryd.zeroValue3
 t4:=Tryd.underlying4
 a4:=Tryd.isAgg4
 z4:=Tryd.sizeOf4
 v4:=Tryd.zeroValue4
 t5:=Tryd.underlying5
 a5:=Tryd.isAgg5
 z5:=Tryd.sizeOf5
 v5:=Tryd.zeroValue5
 t9:=Tryd.underlying9
 a9:=Tryd.isAgg9
 z9:=Tryd.sizeOf9
 v9:=Tryd.zeroValue9
 t21:=Tryd.underlying21
 a21:=Tryd.isAgg21
 z21:=Tryd.sizeOf21
 v21:=Tryd.zeroValue21
 t46:=Tryd.underlying102
 a46:=Tryd.isAgg102
 z46:=Tryd.sizeOf102
 v46:=Tryd.zeroValue102
 t105:=Tryd.underlying91
 a105:=Tryd.isAgg91
 z105:=Tryd.sizeOf91
 v105:=Tryd.zeroValue91
 t116:=Tryd.underlying106
 a116:=Tryd.isAgg106
 z116:=Tryd.sizeOf106
 t117:=Tryd.underlying107
 a117:=Tryd.isAgg107
 z117:=Tryd.sizeOf107
 v117:=Tryd.zeroValue107
 t119:=Tryd.underlying98
 a119:=Tryd.isAgg98
 z119:=Tryd.sizeOf98
 t124:=Tryd.underlying110
 a124:=Tryd.isAgg110
 z124:=Tryd.sizeOf110
 v124:=Tryd.zeroValue110
 t138:=Tryd.underlying100
 a138:=Tryd.isAgg100
 z138:=Tryd.sizeOf100
 v138:=Tryd.zeroValue100
 t139:=Tryd.underlying101
 a139:=Tryd.isAgg101
 z139:=Tryd.sizeOf101
 v139:=Tryd.zeroValue101
 g3:=by kernel_rfl
 g4:=by kernel_rfl
theorem valid {B:Base} (hB:∀ w,B.inv w→Lib.Utf8Tabs 0 1 w) : DC B (au 51):=by
 intro M s Q hM hl hQ
 refine eP.rP (v:=Bo (dJ s)) ⟨Tryd.f51,_,Tryd.func51,rfl⟩ (fun ρ w us hus hw=>?_) hQ
 cases hus with
 | cons _ u1 _ us r1 hus =>
 cases hus
 obtain⟨rfl,_⟩:=az r1
 have hT:Lib.Utf8Tabs 0 1 w:=hB w (by have:=bP.inv hw; rw[hM] at this; exact this)
 refine(Any.utf8_ValidString Qj ⟨⟨s⟩⟩ w (by show s.length≤_; omega) hT).mono fun e w' ⟨he,hb⟩=>⟨_,he,hb, ?_⟩
 rw[show(⟨⟨s⟩⟩ : ByteArray).data.toList=s from rfl,Cx s.length s (Nat.le_refl _)]
 exact .sc _ rfl
theorem DD:∀ (j:Nat) b,(⟨⟨dF⟩⟩ : ByteArray).data.toList[j]?=some b→b.toNat<128:=fun j b h=>by
 have hm:b∈dF:=List.mem_of_getElem? h
 have:dF.all (fun b=>decide (b.toNat<128))=true:=by decide
 exact of_decide_eq_true (List.all_eq_true.1 this b hm)
theorem trimLeft {B:Base} : Nk B (au 70):=by
 intro M s Q hM hl hQ
 by_cases hne:s=[]
 ·subst hne
  refine qX ?_
  unfold o9
  simp only[eu,go_sem,beq_self_eq_true]
  exact hQ M (ah.refl _ _)
 have hp:=List.length_pos_iff.2 hne
 refine eP.rP (v:=St (s.dropWhile (dF.contains ·))) ⟨Tryd.f70,_,Tryd.func70,rfl⟩ (fun ρ w us hus hw=>?_) (hQ M (ah.refl _ _))
 cases hus with
 | cons _ u1 _ us r1 hus =>
 cases hus with
 | cons _ u2 _ us r2 hus =>
 cases hus
 obtain⟨rfl,_⟩:=az r1
 obtain⟨rfl,_⟩:=az r2
 refine(Any.strings_TrimLeft_set PG Tryd.zeroValue106 (by kernel_rfl) ⟨⟨s⟩⟩ ⟨⟨dF⟩⟩ w (by decide) (by show 0<s.length; omega) (by decide) DD).mono fun e w' ⟨he,hb⟩=>⟨_,he, ?_,.sc _ rfl⟩
 rw[hb]
 have h1:=(Below.refl w.heap.size w).alloc (Nat.le_refl _) (.cells (Lib.setCells dF) 106)
 exact h1.alloc h1.size _
theorem trim {B:Base} : Gx B (fun s=>Lib.trimS s dF) (au 65):=by
 intro M s Q hM hl hQ
 by_cases hne:s=[]
 ·subst hne
  refine vL ?_
  unfold ul
  simp only[eu,go_sem,beq_self_eq_true]
  exact hQ M (ah.refl _ _)
 have hp:=List.length_pos_iff.2 hne
 refine eP.rP (v:=St (Lib.trimS s dF)) ⟨Tryd.f65,_,Tryd.func65,rfl⟩ (fun ρ w us hus hw=>?_) (hQ M (ah.refl _ _))
 cases hus with
 | cons _ u1 _ us r1 hus =>
 cases hus with
 | cons _ u2 _ us r2 hus =>
 cases hus
 obtain⟨rfl,_⟩:=az r1
 obtain⟨rfl,_⟩:=az r2
 refine(Any.strings_Trim_set PX Tryd.zeroValue106 (by kernel_rfl) ⟨⟨s⟩⟩ ⟨⟨dF⟩⟩ w (by decide) (by show 0<s.length; omega) (by show s.length≤_; omega) (by decide) DD).mono fun e w' ⟨he,q,hb⟩=>⟨_,he, ?_,.sc _ rfl⟩
 rw[hb]
 have h1:=(Below.refl w.heap.size w).alloc (Nat.le_refl _) (.cells (Lib.setCells dF) 106)
 have h2:=h1.alloc h1.size (.cells (Lib.setCells dF) 106)
 exact⟨h2.os,h2.tape,h2.output,h2.size,h2.block⟩
end Go.Proofs.YtmilkhdicmkmbaaDoor.lib
namespace Go.Proofs.YtmilkhdicmkmbaaDoor
open Go Go.Ab Go.Ab.Vl
variable {a0 a1 a2 a3 a4 a5 a6 a7:AV} {M:RM} {Q:ai}
theorem zB (h:rD 29 (au 51) (au 52) (au 53) (au 45) (au 54) (au 46) a0 M Q) : au 34 [a0] M Q:=bK (fn:=Tryd.f34) h
theorem qg (h:kM (au 30) (au 93) a0 a1 M Q) : au 84 [a0,a1] M Q:=bK (fn:=Tryd.f84) h
end Go.Proofs.YtmilkhdicmkmbaaDoor
namespace Go.Proofs.YtmilkhdicmkmbaaDoor
open Go Go.Ab Go.Ab.Vl
variable {a0 a1 a2 a3 a4 a5 a6 a7:AV} {M:RM} {Q:ai}
theorem nE (h:iM a0 M Q) : au 93 [a0] M Q:=bK (fn:=Tryd.f93) h
theorem lQ (h:jJ a0 M Q) : au 85 [a0] M Q:=bK (fn:=Tryd.f85) h
end Go.Proofs.YtmilkhdicmkmbaaDoor
namespace Go.Proofs.YtmilkhdicmkmbaaDoor.lib
open Go Go.Ab Go.Ab.Vl Go.RowKit
def I7:Go.Shelf.Ren:=⟨fun | 153=>68 | 152=>84 | 226=>85 | 227=>79 | 228=>86 | 137=>30 | 119=>93 | 224=>89 | 225=>88 | 217=>44 | 266=>64 | n=>n,fun | 9=>9 | 3=>3 | 4=>4 | 5=>5 | 21=>21 | 117=>107 | 116=>106 | 0=>0 | 46=>102 | 124=>110 | n=>n,fun | n=>n⟩
theorem PO:Go.Proofs.Lays.n153 Tryd.prog I7 where
 mixed:=by kernel_rfl
 f119:=Tryd.func93.trans (congrArg some (by kernel_rfl))
 f137:=Tryd.func30.trans (congrArg some (by kernel_rfl))
 f152:=Tryd.func84.trans (congrArg some (by kernel_rfl))
 f153:=Tryd.func68.trans (congrArg some (by kernel_rfl))
 f217:=Tryd.func44.trans (congrArg some (by kernel_rfl))
 f224:=Tryd.func89.trans (congrArg some (by kernel_rfl))
 f225:=Tryd.func88.trans (congrArg some (by kernel_rfl))
 f226:=Tryd.func85.trans (congrArg some (by kernel_rfl))
 f227:=Tryd.func79.trans (congrArg some (by kernel_rfl))
 f228:=Tryd.func86.trans (congrArg some (by kernel_rfl))
 f266:=Tryd.func64.trans (congrArg some (by kernel_rfl))
 t0:=Tryd.underlying0
 a0:=Tryd.isAgg0
 z0:=Tryd.sizeOf0
 v0:=Tryd.zeroValue0
 t3:=Tryd.underlying3
 a3:=Tryd.isAgg3
 z3:=Tryd.sizeOf3
 v3:=Tryd.zeroValue3
 t4:=Tryd.underlying4
 a4:=Tryd.isAgg4
 z4:=Tryd.sizeOf4
 v4:=Tryd.zeroValue4
 t5:=Tryd.underlying5
 a5:=Tryd.isAgg5
 z5:=Tryd.sizeOf5
 v5:=Tryd.zeroValue5
 t9:=Tryd.underlying9
 a9:=Tryd.isAgg9
 z9:=Tryd.sizeOf9
 v9:=Tryd.zeroValue9
 t21:=Tryd.underlying21
 a21:=Tryd.isAgg21
 z21:=Tryd.sizeOf21
 v21:=Tryd.zeroValue21
 t46:=Tryd.underlying102
 a46:=Tryd.isAgg102
 z46:=Tryd.sizeOf102
 v46:=Tryd.zeroValue102
 t116:=Tryd.underlying106
 a116:=Tryd.isAgg106
 z116:=Tryd.sizeOf106
 t117:=Tryd.underlying107
 a117:=Tryd.isAgg107
 z117:=Tryd.sizeOf107
 v117:=Tryd.zeroValue107
 t124:=Tryd.underlying110
 a124:=Tryd.isAgg110
 z124:=Tryd.sizeOf110
 v124:=Tryd.zeroValue110
def marks:List UInt8:=[44,59,58]
theorem yS:Asc marks:=by
 intro x hx
 have:marks.all (fun b=>decide (b.toNat<128))=true:=by decide
 exact of_decide_eq_true (List.all_eq_true.1 this x hx)
theorem I6:∀ (j:Nat) b,(⟨⟨marks⟩⟩ : ByteArray).data.toList[j]?=some b→b.toNat<128:=fun j b h=>yS b (List.mem_of_getElem? h)
theorem validRune:wY (au 93):=by
 intro M r Q hQ
 obtain⟨a0,e,h⟩:=Eb hQ
 cases e
 exact nE h
theorem MU {idx:lg (au 30)} : wE marks (au 84):=by
 intro M r Q h1 h2
 obtain⟨a0,a1,e,h⟩:=EJ yS (by decide) idx validRune h1 h2
 cases e
 exact qg h
theorem indexAny {B:Base} (idx:lg (au 30)) : zT marks B (au 68):=by
 intro M s Q hM hl hQ
 by_cases h8:s.length≤8
 ·refine rR (Ey yS (by decide) (by decide) h8 (MU (idx:=idx)) ?_ hQ)
  intro M n Q h
  refine lQ ?_
  unfold jJ
  simp only[go_sem]
  rw[show decide ((n:Int) > 8)=decide (8<n) by simp; omega]
  exact h
 refine eP.rP (v:=N .i64 (Lib.indexAny s marks)) ⟨Tryd.f68,_,Tryd.func68,rfl⟩ (fun ρ w us hus hw=>?_) (hQ M (ah.refl _ _))
 cases hus with
 | cons _ u1 _ us r1 hus =>
 cases hus with
 | cons _ u2 _ us r2 hus =>
 cases hus
 obtain⟨rfl,_⟩:=az r1
 obtain⟨rfl,_⟩:=az r2
 refine(Any.strings_IndexAny_long PO Tryd.zeroValue106 (by kernel_rfl) ⟨⟨s⟩⟩ ⟨⟨marks⟩⟩ w (by decide) (by show 8<s.length; omega) (by show s.length<_; omega) (by decide) I6).mono fun e w' ⟨he,hb⟩=>⟨_,he, ?_,.sc _ rfl⟩
 rw[hb]
 exact((Below.refl _ _).alloc (Nat.le_refl _) _).alloc (by simp) _
end Go.Proofs.YtmilkhdicmkmbaaDoor.lib
namespace Go.Proofs.YtmilkhdicmkmbaaDoor.uC
open Go Go.Ab Go.Ab.Vl Go.RowKit
theorem sM:LQ (vB Tryd.prog 63):=by
 intro v M Q hQ
 exact .inr (.inr (.inl ⟨⟨Tryd.f63,by kernel_rfl,by kernel_rfl,by kernel_rfl,by kernel_rfl⟩,v,rfl,hQ⟩))
theorem check:zW 61 (au 43):=by
 intro M b addr buf Q hh ha hb hQ
 obtain⟨a0,e,h⟩:=KH (TB:=61) sM hh ha hb hQ
 cases e
 exact lN h
theorem writeString:rX 61 5 (au 41):=by
 intro n0 M b xs s Q h1 h2 h3
 obtain⟨a0,a1,e,h⟩:=BI check h1 h2 h3
 cases e
 exact ik h
theorem string:Am 61 5 (au 31):=by
 intro n0 M b xs Q h1 h2 h3
 obtain⟨a0,e,h⟩:=Iw h1 h2 h3
 cases e
 exact nu h
theorem Me {M:RM} {s:List UInt8} {x:UInt8} : JM Tryd.prog 64 [St s,By x] M (N .i64 (Lib.indexByte s x)):=by
 intro ρ w us hus hw
 cases hus with
 | cons _ u1 _ us r1 hus =>
 cases hus with
 | cons _ u2 _ us r2 hus =>
 cases hus
 obtain⟨rfl,_⟩:=az r1
 obtain⟨rfl,_⟩:=az r2
 refine⟨.int .i64 (Lib.indexByte s x), ?_,.sc _ rfl⟩
 refine wF (fn:=Tryd.f64) (s:=Extern.BytealgIndexByte.indexByte) (by kernel_rfl) (SV.ng 64 Tryd.f64 (by kernel_rfl)) (by kernel_rfl) (by kernel_rfl) (by kernel_rfl) (fun w=>?_) w
 rw[Lib.run_indexByteString]
 congr 2
 simp
theorem KE:lg (au 44):=by
 intro M s x Q hQ
 refine kJ ?_
 unfold iH
 exact .inr (.inr (.inr (.inl ⟨_,Me,hQ⟩)))
theorem index:H9 (au 74):=by
 intro M s Q hQ
 obtain⟨a0,a1,e,h⟩:=index_spec KE (x:=vB Tryd.prog 88) (c1:=au 89) (c2:=au 90) hQ
 cases e
 exact iy h
theorem UI:EB (au 59):=by
 intro M s Q hl hQ
 obtain⟨a0,a1,e,h⟩:=FN index hl hQ
 cases e
 exact iJ h
theorem cut:EB (au 36):=by
 intro M s Q hl hQ
 obtain⟨a0,a1,e,h⟩:=OV UI hl hQ
 cases e
 exact nG h
theorem hasSuffix:vT (au 75):=by
 intro M s Q hl hQ
 obtain⟨a0,a1,e,h⟩:=EL hl hQ
 cases e
 exact kL h
theorem Sb:Aw (au 60):=by
 intro M s Q hl hQ
 obtain⟨a0,a1,e,h⟩:=En hasSuffix hl hQ
 cases e
 exact jY h
theorem trim:Aw (au 37):=by
 intro M s Q hl hQ
 obtain⟨a0,a1,e,h⟩:=Mr Sb hl hQ
 cases e
 exact pO h
theorem rune:FT (au 42):=by
 intro M s Q hl hQ
 obtain⟨a0,e,h⟩:=LH hl hQ
 cases e
 exact yE h
theorem formed:D5 (au 24):=by
 intro M s Q hl hQ
 obtain⟨a0,e,h⟩:=IG rune hl hQ
 cases e
 exact vD h
theorem Qf:KU (au 22):=by
 intro M s Q hl hQ
 obtain⟨a0,e,h⟩:=GK (T8:=5) rune hl hQ
 cases e
 exact zQ h
def IL:Go.Shelf.Ren:=⟨fun | 197=>62 | 260=>76 | n=>n,fun | 9=>9 | 21=>21 | 3=>3 | 4=>4 | 5=>5 | 105=>91 | 119=>98 | 0=>0 | 46=>102 | 139=>101 | 138=>100 | n=>n,fun | 3=>0 | 4=>1 | n=>n⟩
theorem Qa:Go.Proofs.Lays.n197 Tryd.prog IL where
 mixed:=by kernel_rfl
 f197:=Tryd.func62.trans (congrArg some (by kernel_rfl))
 f260:=Tryd.func76.trans (congrArg some (by kernel_rfl))
 t0:=Tryd.underlying0
 a0:=Tryd.isAgg0
 z0:=Tryd.sizeOf0
 v0:=Tryd.zeroValue0
 t3:=Tryd.underlying3
 a3:=Tryd.isAgg3
 z3:=Tryd.sizeOf3
 v3:=Tryd.zeroValue3
 t4:=Tryd.underlying4
 a4:=Tryd.isAgg4
 z4:=Tryd.sizeOf4
 v4:=Tryd.zeroValue4
 t5:=Tryd.underlying5
 a5:=Tryd.isAgg5
 z5:=Tryd.sizeOf5
 v5:=Tryd.zeroValue5
 t9:=Tryd.underlying9
 a9:=Tryd.isAgg9
 z9:=Tryd.sizeOf9
 v9:=Tryd.zeroValue9
 t21:=Tryd.underlying21
 a21:=Tryd.isAgg21
 z21:=Tryd.sizeOf21
 v21:=Tryd.zeroValue21
 t46:=Tryd.underlying102
 a46:=Tryd.isAgg102
 z46:=Tryd.sizeOf102
 v46:=Tryd.zeroValue102
 t105:=Tryd.underlying91
 a105:=Tryd.isAgg91
 z105:=Tryd.sizeOf91
 v105:=Tryd.zeroValue91
 t119:=Tryd.underlying98
 a119:=Tryd.isAgg98
 z119:=Tryd.sizeOf98
 t138:=Tryd.underlying100
 a138:=Tryd.isAgg100
 z138:=Tryd.sizeOf100
 v138:=Tryd.zeroValue100
 t139:=Tryd.underlying101
 a139:=Tryd.isAgg101
 z139:=Tryd.sizeOf101
 v139:=Tryd.zeroValue101
 g3:=by kernel_rfl
 g4:=by kernel_rfl
def A8:Go.Shelf.Ren:=⟨fun | 260=>76 | n=>n,fun | 9=>9 | 21=>21 | 3=>3 | 4=>4 | 5=>5 | 119=>98 | 0=>0 | 46=>102 | 139=>101 | 138=>100 | n=>n,fun | 3=>0 | 4=>1 | n=>n⟩
theorem Qb:Go.Proofs.Lays.n260 Tryd.prog A8 where
 mixed:=by kernel_rfl
 f260:=Tryd.func76.trans (congrArg some (by kernel_rfl))
 t0:=Tryd.underlying0
 a0:=Tryd.isAgg0
 z0:=Tryd.sizeOf0
 v0:=Tryd.zeroValue0
 t3:=Tryd.underlying3
 a3:=Tryd.isAgg3
 z3:=Tryd.sizeOf3
 v3:=Tryd.zeroValue3
 t4:=Tryd.underlying4
 a4:=Tryd.isAgg4
 z4:=Tryd.sizeOf4
 v4:=Tryd.zeroValue4
 t5:=Tryd.underlying5
 a5:=Tryd.isAgg5
 z5:=Tryd.sizeOf5
 v5:=Tryd.zeroValue5
 t9:=Tryd.underlying9
 a9:=Tryd.isAgg9
 z9:=Tryd.sizeOf9
 v9:=Tryd.zeroValue9
 t21:=Tryd.underlying21
 a21:=Tryd.isAgg21
 z21:=Tryd.sizeOf21
 v21:=Tryd.zeroValue21
 t46:=Tryd.underlying102
 a46:=Tryd.isAgg102
 z46:=Tryd.sizeOf102
 v46:=Tryd.zeroValue102
 t119:=Tryd.underlying98
 a119:=Tryd.isAgg98
 z119:=Tryd.sizeOf98
 t138:=Tryd.underlying100
 a138:=Tryd.isAgg100
 z138:=Tryd.sizeOf100
 v138:=Tryd.zeroValue100
 t139:=Tryd.underlying101
 a139:=Tryd.isAgg101
 z139:=Tryd.sizeOf101
 v139:=Tryd.zeroValue101
 g3:=by kernel_rfl
 g4:=by kernel_rfl
def Inv (w:World) : Prop:=Lib.Utf8Tabs 0 1 w
theorem JD {w:World} {b o:Nat} {v:Value} (h:w.cell? ⟨b,o,none⟩=some v) : b<w.heap.size:=by
 unfold World.cell? at h
 cases hb:w.heap[b]? with
 | none=>simp[hb] at h
 | some x=>exact(Array.getElem?_eq_some_iff.1 hb).1
theorem zN {w w' : World} {b:Nat} (h:w'.heap[b]?=w.heap[b]?) (o:Nat) : w'.cell? ⟨b,o,none⟩=w.cell? ⟨b,o,none⟩:=by
 unfold World.cell?
 simp only[h]
def base (w:World) (hi:Inv w) : Base where
 n:=w.heap.size
 inv w':=Inv w'
 low u u' hlow hu:=by
  have h0:=JD (hi.1 0 (by omega))
  have h1:=JD (hi.2 0 (by omega)).1
  exact⟨fun c hc=>(zN (hlow 0 h0) c).trans (hu.1 c hc),fun i hi'=>⟨(zN (hlow 1 h1) _).trans (hu.2 i hi').1,(zN (hlow 1 h1) _).trans (hu.2 i hi').2⟩⟩
theorem Qv (s:List UInt8) (h:s≠[]) : Lib.decodeGo ⟨⟨s⟩⟩=dec s:=by
 have hs:(⟨⟨s⟩⟩ : ByteArray).size=s.length:=rfl
 have hp:=List.length_pos_iff.2 h
 have g:∀ i,((⟨⟨s⟩⟩ : ByteArray).get! i).toNat=bt s i:=fun i=>by
  simp only[ByteArray.get!,bt,List.getD_eq_getElem?_getD]
  simp[getElem!_def]
  cases s[i]? <;> rfl
 rw[Lib.decodeGo,if_neg (by rw[hs]; omega),Lib.decode_at,g,g,g,g,hs]
 rfl
theorem decode {w0:World} {hi:Inv w0} : QQ (base w0 hi) (au 62):=by
 intro M s Q hM hne hl hQ
 refine eP.rP (v:=.tup [N .i32 ((dec s).1:Int),N .i64 (rs s:Int)]) ⟨Tryd.f62,_,Tryd.func62,rfl⟩ (fun ρ w us hus hw=>?_) (hQ _)
 cases hus with
 | cons _ u1 _ us r1 hus =>
 cases hus
 obtain⟨rfl,_⟩:=az r1
 have hT:Lib.Utf8Tabs 0 1 w:=by
  have:=bP.inv hw
  rw[hM] at this
  exact this
 refine(Any.utf8_DecodeRuneInString Qa ⟨⟨s⟩⟩ w hT).mono fun e w' ⟨he,hb⟩=>⟨_,he,hb, ?_⟩
 rw[Qv s hne,show(dec s).2=rs s by rw[rs,if_neg hne]]
 exact .tup _ _ (.cons _ _ _ _ (.sc _ rfl) (.cons _ _ _ _ (.sc _ rfl) .nil))
theorem piece {w0:World} {hi:Inv w0} : Gg (base w0 hi) (au 40):=by
 intro M s l Q h1 h2 h3 h4
 obtain⟨a0,a1,e,h⟩:=Ku (decode (hi:=hi)) h1 h2 h3 h4
 cases e
 exact xP h
theorem fold {w0:World} {hi:Inv w0} : MS (base w0 hi) (au 21):=by
 intro M s Q h1 h2 h3
 exact zC (Nn (T8:=5) (piece (hi:=hi)) writeString string h1 h2 h3)
theorem awake {B:Base} : MX B (au 10):=by
 intro M Q hM hQ
 exact Kt tA ⟨Tryd.f10,_,Tryd.func10,rfl⟩ (fun A=>by kernel_rfl) (fun _ _=>trivial) hQ
theorem Kn:lg (au 30):=by
 intro M s x Q hQ
 refine qj ?_
 unfold nH
 exact KE hQ
theorem valid {w0:World} {hi:Inv w0} : DC (base w0 hi) (au 51):=lib.valid (fun _ h=>h)
theorem QU {x:UInt8} : EK x (au 74):=by
 intro M s Q hQ
 obtain⟨a0,a1,e,h⟩:=IJ KE (xx:=vB Tryd.prog 88) (c1:=au 89) (c2:=au 90) hQ
 cases e
 exact iy h
theorem Sv {x:UInt8} : Ae x (au 59):=by
 intro M s Q hl hQ
 obtain⟨a0,a1,e,h⟩:=Et QU hl hQ
 cases e
 exact iJ h
theorem TD {x:UInt8} : Ae x (au 36):=by
 intro M s Q hl hQ
 obtain⟨a0,a1,e,h⟩:=Ms Sv hl hQ
 cases e
 exact nG h
theorem Jp:mD (au 72):=by
 intro M s x Q hl hQ
 obtain⟨a0,a1,e,h⟩:=Cn hl hQ
 cases e
 exact kH h
theorem Jw:mD (au 53):=by
 intro M s x Q hl hQ
 obtain⟨a0,a1,e,h⟩:=I1 Jp hl hQ
 cases e
 exact qp h
theorem plain:qU (au 66):=by
 intro M x Q hQ
 obtain⟨a0,e,h⟩:=Ka hQ
 cases e
 exact xS h
theorem QH:uu (au 71):=by
 intro M s Q hl hQ
 obtain⟨a0,e,h⟩:=Lh (T8:=5) hl hQ
 cases e
 exact xU h
theorem LA:lH (au 94):=by
 intro M s x Q hl hQ
 obtain⟨a0,a1,e,h⟩:=xQ Jp hl hQ
 cases e
 exact kF h
theorem MK:lH (au 87):=by
 intro M s x Q hl hQ
 obtain⟨a0,a1,e,h⟩:=Ed LA hl hQ
 cases e
 exact ql h
abbrev tf:List UInt8→List UInt8:=fun s=>Lib.trimS s dF
section
variable {w0:World} {hi:Inv w0}
theorem sK:lm (base w0 hi) (au 46):=by
 intro M s x Q hM hl hQ
 obtain⟨a0,a1,e,h⟩:=Ej (T8:=5) plain Kn (valid (hi:=hi)) hM hl hQ
 cases e
 exact rZ h
theorem BS:oU (base w0 hi) tf (au 45):=by
 intro M s Q hM hl hQ
 obtain⟨a0,e,h⟩:=FE lib.trim hM hl hQ
 cases e
 exact uf h
theorem word:FX (base w0 hi) (au 52):=by
 intro M s Q hM hl hQ
 obtain⟨a0,e,h⟩:=Nt QH lib.trimLeft hM hl hQ
 cases e
 exact yY h
theorem value:Ih (base w0 hi) (au 73):=by
 intro M s Q hM hl hQ
 obtain⟨a0,e,h⟩:=K8 MK TD (sK (hi:=hi)) (lib.indexAny Kn) hM hl hQ
 cases e
 exact xR h
theorem params:Ew (base w0 hi) tf 35 (au 54):=by
 intro M s Q hM hl h1 h2
 obtain⟨a0,e,h⟩:=II (TS:=9) Jw (word (hi:=hi)) BS value hM hl h1 h2
 cases e
 exact vM h
theorem Su:Q9 (base w0 hi) tf (au 34):=by
 intro M s Q hM hl h1 h2
 obtain⟨a0,e,h⟩:=Mj (TP:=35) (TL:=29) (valid (hi:=hi)) word Jw BS params sK hM hl h1 h2
 cases e
 exact zB h
theorem P5:Cj 9 3 (au 16):=by
 intro M s Q hl hQ
 obtain⟨a0,e,h⟩:=Hu (T:=9) (TI:=3) cut trim hl hQ
 cases e
 exact wO h
theorem readAll:qF (base w0 hi) tf (au 13):=by
 intro M s Q hM hl h1 h2
 obtain⟨a0,e,h⟩:=GG (TL:=29) P5 (Su (hi:=hi)) hM hl h1 h2
 cases e
 exact zD h
end
theorem U2:Rh (au 19):=by
 intro M cs L k S Q h1 h2 h3
 obtain⟨a0,e,h⟩:=PT (T1:=29) (T2:=46) (T3:=75) h1 h2 h3
 cases e
 exact BG h
theorem Pw:F8 (au 18):=by
 intro M cs ds L L' k k' S S' Q h1 h2 h3 h4 h5
 obtain⟨a0,a1,e,h⟩:=MZ (T:=46) h1 h2 h3 h4 h5
 cases e
 exact yN h
end Go.Proofs.YtmilkhdicmkmbaaDoor.uC
namespace Go.Proofs.YtmilkhdicmkmbaaDoor
open Go Go.Ab Go.Ab.Vl
variable {a0 a1 a2 a3 a4 a5 a6 a7:AV} {M:RM} {Q:ai}
theorem xX (h:pM 46 (au 24) (au 55) (au 56) 75 (au 57) (au 58) a0 M Q) : au 35 [a0] M Q:=bK (fn:=Tryd.f35) h
theorem zI (h:rW a0 M Q) : au 55 [a0] M Q:=bK (fn:=Tryd.f55) h
theorem AU (h:tN 5 a0 M Q) : au 56 [a0] M Q:=bK (fn:=Tryd.f56) h
theorem uT (h:om (au 58) 9 a0 M Q) : au 57 [a0] M Q:=bK (fn:=Tryd.f57) h
theorem xO (h:pK a0 M Q) : au 58 [a0] M Q:=bK (fn:=Tryd.f58) h
end Go.Proofs.YtmilkhdicmkmbaaDoor
namespace Go.Proofs.YtmilkhdicmkmbaaDoor.uC
open Go Go.Ab Go.Ab.Vl Go.RowKit
theorem Gj:qU (au 58):=by
 intro M x Q hQ
 obtain⟨a0,e,h⟩:=FC hQ
 cases e
 exact xO h
theorem PP:Hy (au 55):=by
 intro M s Q hl hQ
 obtain⟨a0,e,h⟩:=Io hl hQ
 cases e
 exact zI h
theorem QR:uu (au 56):=by
 intro M s Q hl hQ
 obtain⟨a0,e,h⟩:=IM (T8:=5) hl hQ
 cases e
 exact AU h
theorem LZ:BV 9 (au 57):=by
 intro M s Q hl h1 h2
 obtain⟨a0,e,h⟩:=I9 (T:=9) Gj hl h1 h2
 cases e
 exact uT h
theorem OZ:O1 (au 35):=by
 intro M s Q hl h1 h2
 obtain⟨a0,e,h⟩:=Lv (TL:=46) (TP:=75) (TS:=9) formed PP QR LZ Gj hl h1 h2
 cases e
 exact xX h
end Go.Proofs.YtmilkhdicmkmbaaDoor.uC
namespace Go.Proofs.YtmilkhdicmkmbaaDoor
open Go Go.Ab Go.Ab.Vl
variable {a0 a1 a2 a3 a4 a5 a6 a7:AV} {M:RM} {Q:ai}
theorem pV (h:kE 29 (au 10) (au 12) (au 19) (au 20) (au 13) (au 18) a0 M Q) : au 5 [a0] M Q:=bK (fn:=Tryd.f5) h
theorem xN (h:pI 29 (au 32) (au 33) (au 21) a0 M Q) : au 12 [a0] M Q:=bK (fn:=Tryd.f12) h
theorem xV (h:pu 46 (au 38) (au 39) (au 35) (au 18) (au 22) a0 M Q) : au 20 [a0] M Q:=bK (fn:=Tryd.f20) h
theorem yG (h:rJ 29 (au 45) (au 46) 35 (au 47) 48 a0 M Q) : au 32 [a0] M Q:=bK (fn:=Tryd.f32) h
theorem yB (h:qW 29 61 (au 41) (au 49) 35 (au 29) (au 50) (au 31) a0 M Q) : au 33 [a0] M Q:=bK (fn:=Tryd.f33) h
theorem Ck (h:vU 5 a0 M Q) : au 38 [a0] M Q:=bK (fn:=Tryd.f38) h
theorem wM (h:nK 46 (au 38) (au 61) a0 a1 a2 M Q) : au 39 [a0,a1,a2] M Q:=bK (fn:=Tryd.f39) h
theorem oJ (h:jH (au 67) a0 a1 M Q) : au 47 [a0,a1] M Q:=bK (fn:=Tryd.f47) h
theorem vE (h:oo (au 46) a0 M Q) : au 48 [a0] M Q:=bK (fn:=Tryd.f48) h
theorem xW (h:pR 5 a0 M Q) : au 49 [a0] M Q:=bK (fn:=Tryd.f49) h
theorem oI (h:jG (au 68) a0 a1 M Q) : au 50 [a0,a1] M Q:=bK (fn:=Tryd.f50) h
theorem AX (h:tO a0 a1 M Q) : au 61 [a0,a1] M Q:=bK (fn:=Tryd.f61) h
theorem rG (h:kR (au) a0 a1 M Q) : au 67 [a0,a1] M Q:=bK (fn:=Tryd.f67) h
end Go.Proofs.YtmilkhdicmkmbaaDoor
namespace Go.Proofs.YtmilkhdicmkmbaaDoor.uC
open Go Go.Ab Go.Ab.Vl Go.RowKit
theorem Kq:wW 61 5 (au 29):=by
 intro n0 M b xs x Q h1 h2 h3
 obtain⟨a0,a1,e,h⟩:=DK check h1 h2 h3
 cases e
 exact lM h
theorem Gr:qA 61 5 (au 41):=by
 intro n0 M b xs s Q h1 h2 h3
 obtain⟨a0,a1,e,h⟩:=AY check h1 h2 h3
 cases e
 exact ik h
theorem great:qO (au 49):=by
 intro M s Q h1 h2
 obtain⟨a0,e,h⟩:=Ls (T8:=5) h1 h2
 cases e
 exact xW h
theorem Pv:qO (au 38):=by
 intro M s Q h1 h2
 obtain⟨a0,e,h⟩:=Qk (T8:=5) h1 h2
 cases e
 exact Ck h
theorem Qr:Oe (au 61):=by
 intro M s Q h1 h2
 obtain⟨a0,a1,e,h⟩:=Od h1 h2
 cases e
 exact AX h
section
variable {w0:World} {hi:Inv w0}
theorem Ue:ND (base w0 hi) (au 50):=by
 intro M s Q h1 h2 h3
 obtain⟨a0,a1,e,h⟩:=Ob (lib.indexAny Kn) h1 h2 h3
 cases e
 exact oI h
theorem Ul:Oq (base w0 hi) (au 48):=by
 intro M s Q h1 h2 h3
 obtain⟨a0,e,h⟩:=KZ (sK (hi:=hi)) h1 h2 h3
 cases e
 exact vE h
theorem QS:EC (base w0 hi) 48 (au 67):=by
 intro M v xs Q h1 h2 h3 h4 h5
 obtain⟨a0,a1,e,h⟩:=FH (n:=48) (cv:=au) (Ul (hi:=hi)) h1 h2 h3 h4 h5
 cases e
 exact rG h
theorem Q6:DY (base w0 hi) 48 (au 47):=by
 intro M v xs Q h1 h2 h3 h4 h5
 obtain⟨a0,a1,e,h⟩:=BX (QS (hi:=hi)) h1 h2 h3 h4 h5
 cases e
 exact oJ h
theorem SF:Hg (base w0 hi) tf (au 32):=by
 intro M cs L k S Q h1 h2 h3 h4
 obtain⟨a0,e,h⟩:=Mg (TL:=29) (TP:=35) (BS (hi:=hi)) sK Q6 h1 h2 h3 h4
 cases e
 exact yG h
theorem Sw:Lx (base w0 hi) (au 33):=by
 intro M cs L k S Q h1 h2 h3 h4 h5
 obtain⟨a0,e,h⟩:=Mh (TL:=29) (TP:=35) Gr great Kq (Ue (hi:=hi)) string h1 h2 h3 h4 h5
 cases e
 exact yB h
theorem Rt:H6 (base w0 hi) (rE tf) (au 12):=by
 intro M cs L k S Q h1 h2 h3 h4 h5
 obtain⟨a0,e,h⟩:=Kh (TL:=29) (SF (hi:=hi)) Sw fold h1 h2 h3 h4 h5
 cases e
 exact xN h
end
theorem P6:KT (au 39):=by
 intro M cs L k S Q h1 h2 h3 h4
 obtain⟨a0,a1,a2,e,h⟩:=MF (TL:=46) Pv Qr h1 h2 h3 h4
 cases e
 exact wM h
theorem Og:JA (au 20):=by
 intro M cs L k S Q h1 h2 h3 h4 h5
 exact xV (FI (TL:=46) Pv P6 OZ Pw Qf h1 h2 h3 h4 h5)
theorem uX {H:Type} : ∀ {ds:List (DataW H)} {d:DataW H},d∈ds→Rows.uptoBulk d≤Rows.uptoBulkAll ds
 | [],_,h=>by cases h
 | x :: ds,d,h=>by
   simp only[Rows.uptoBulkAll]
   rcases List.mem_cons.1 h with rfl | h
   ·omega
   ·have:=uX h; omega
theorem NQ {H:Type} (d:DataW H) : 1≤Rows.uptoBulk d:=by
 cases d with
 | lit l=>cases l <;> simp[Rows.uptoBulk]
 | _=>simp[Rows.uptoBulk]
theorem Gn {H:Type} : ∀ (ds:List (DataW H)),ds.length≤Rows.uptoBulkAll ds
 | []=>by simp
 | d :: ds=>by
   have h1:=NQ d
   have h2:=Gn ds
   simp only[Rows.uptoBulkAll,List.length_cons]
   omega
theorem Qw {H:Type} : Hl (H:=H) Rows.uptoBulk where
 str bs:=by simp[Rows.uptoBulk]
 len es sp:=by have:=Gn es; simp only[Rows.uptoBulk]; omega
 elem es sp d h:=by have:=uX h; simp only[Rows.uptoBulk]; omega
 spare es sp d h:=by have:=uX h; simp only[Rows.uptoBulk]; omega
 agg ps d h:=by have:=uX h; simp only[Rows.uptoBulk]; omega
theorem Jq {α:Type} {R:lh α} {M:RM} {S:Nat→Prop} {size:Nat} (p:α→Prop) : ∀ (n:Nat) (ds:List AV),ds.length=n * size→(∀ i,i<n→∃ a,p a∧R.rel M ((ds.drop (i * size)).take size) a S) →
  ∃ xs:List α,xs.length=n∧dZ R M S ds xs∧∀ x∈xs,p x
 | 0,ds,hl,_=>⟨[],rfl,by
   have:ds=[]:=List.eq_nil_of_length_eq_zero (by simpa using hl)
   subst this; exact .nil,by simp⟩
 | n + 1,ds,hl,h=>by
   obtain⟨a,pa,ha⟩:=h 0 (by omega)
   simp only[Nat.zero_mul,List.drop_zero] at ha
   have hl' : (ds.drop size).length=n * size:=by rw[List.length_drop,hl,Nat.succ_mul]; omega
   obtain⟨xs,h1,h2,h3⟩:=Jq (R:=R) p n (ds.drop size) hl' fun i hi=>by
    obtain⟨b,pb,hb⟩:=h (i + 1) (by omega)
    refine⟨b,pb, ?_⟩
    rw[List.drop_drop,show size + i * size=(i + 1) * size by rw[Nat.succ_mul,Nat.add_comm]]; exact hb
   refine⟨a :: xs,by simp[h1], ?_,fun x hx=>?_⟩
   ·have:=dZ.cons ha h2
    rwa [List.take_append_drop] at this
   ·rcases List.mem_cons.1 hx with rfl | hx
    ·exact pa
    ·exact h3 x hx
theorem CP:Tryd.prog.cellsOf 9=1:=by kernel_rfl
theorem cells3:Tryd.prog.cellsOf 3=1:=by kernel_rfl
theorem Qi:Tryd.prog.cellsOf 33=1:=by kernel_rfl
theorem PZ:Tryd.prog.cellsOf 27=1:=by kernel_rfl
theorem D9:Tryd.prog.cellsOf 35=2:=by kernel_rfl
theorem PH:Tryd.prog.cellsOf 29=5:=by kernel_rfl
theorem K7 {B:Nat} {M:RM} {cs:List AV} (h:cO B Tryd.prog M 33 cs) : ∃ v,∃ l:List (List UInt8),cs=[v]∧df fZ.kV M v l (fun b=>b<M.next)∧l.length≤B∧∀ s∈l,s.length≤B:=by
 obtain⟨v,n,ds,rfl,hs,hb,_,he⟩:=h.E8 Tryd.underlying33 (by rw[CP]; decide)
 rw[CP] at hs he
 obtain⟨xs,rfl,rfl,hp⟩:=Fa (size:=1) fZ.cells (fun s:List UInt8=>s.length≤B) (fun _=>rfl) n ds hs.length fun i hi=>by
  obtain⟨d,e,h1⟩:=(he i hi).uO Tryd.underlying9
  exact⟨d,h1,e⟩
 exact⟨v,xs,rfl,df.Pn (E:=fZ) hs (fU.lt hs),hb,hp⟩
theorem L6 {B:Nat} {M:RM} {cs:List AV} (h:cO B Tryd.prog M 35 cs) : ∃ p:jr,(p.1.length≤B∧p.2.length≤B∧∀ v∈p.2,v.length≤B)∧iT.rel M cs p (fun b=>b<M.next):=by
 obtain⟨hl,hf⟩:=h.DI Tryd.underlying35
 rw[D9] at hl
 match cs,hl with
 | [a,b],_ =>
   have f0:cO B Tryd.prog M 9 (([a,b].drop 0).take (Tryd.prog.cellsOf 9)):=hf 0 _ rfl
   have f1:cO B Tryd.prog M 33 (([a,b].drop 1).take (Tryd.prog.cellsOf 33)):=hf 1 _ rfl
   rw[CP] at f0
   rw[Qi] at f1
   obtain⟨s,e0,hs⟩:=f0.uO Tryd.underlying9
   obtain⟨v,l,e1,hv,hl1,hl2⟩:=K7 f1
   cases e0; cases e1
   exact⟨(s,l),⟨hs,hl1,hl2⟩,u6 hv⟩
theorem J4 {B:Nat} {M:RM} {cs:List AV} (h:cO B Tryd.prog M 29 cs) : ∃ (L:Ln) (k:Int),gF.rel M cs (L,k) (fun b=>b<M.next)∧LB B L:=by
 obtain⟨hl,hf⟩:=h.DI Tryd.underlying29
 rw[PH] at hl
 match cs,hl with
 | [a,b,c,d,e],_ =>
   have f0:cO B Tryd.prog M 9 (([a,b,c,d,e].drop 0).take (Tryd.prog.cellsOf 9)):=hf 0 _ rfl
   have f1:cO B Tryd.prog M 9 (([a,b,c,d,e].drop 1).take (Tryd.prog.cellsOf 9)):=hf 1 _ rfl
   have f2:cO B Tryd.prog M 27 (([a,b,c,d,e].drop 2).take (Tryd.prog.cellsOf 27)):=hf 2 _ rfl
   have f3:cO B Tryd.prog M 9 (([a,b,c,d,e].drop 3).take (Tryd.prog.cellsOf 9)):=hf 3 _ rfl
   have f4:cO B Tryd.prog M 3 (([a,b,c,d,e].drop 4).take (Tryd.prog.cellsOf 3)):=hf 4 _ rfl
   rw[CP] at f0 f1 f3
   rw[PZ] at f2
   rw[cells3] at f4
   obtain⟨g,e0,hg⟩:=f0.uO Tryd.underlying9
   obtain⟨n,e1,hn⟩:=f1.uO Tryd.underlying9
   obtain⟨w,e3,hw⟩:=f3.uO Tryd.underlying9
   obtain⟨k,e4,_,_⟩:=f4.PR Tryd.underlying3
   obtain⟨v,m,ds,e2,hs,hb,_,he⟩:=f2.E8 Tryd.underlying27 (by rw[D9]; decide)
   rw[D9] at hs he
   obtain⟨ps,rfl,hr,hp⟩:=Jq (R:=iT) (size:=2) (S:=fun b=>b<M.next) (fun p:jr=>p.1.length≤B∧p.2.length≤B∧∀ v∈p.2,v.length≤B) m ds hs.length fun i hi=>L6 (he i hi)
   cases e0; cases e1; cases e2; cases e3; cases e4
   exact⟨⟨g,n,ps,w⟩,k,⟨_,rfl,ds,hs,fU.lt hs,hr⟩,⟨hg,hn,hw,hb,fun p h=>(hp p h).1,fun p h=>(hp p h).2.1,fun p h=>(hp p h).2.2⟩⟩
end Go.Proofs.YtmilkhdicmkmbaaDoor.uC
namespace Go.Proofs.YtmilkhdicmkmbaaDoor.vlinePrints
open Go Go.Ab Go.ChangeShapes Go.WideShapes Go.ChangeAt Go.RowKit
theorem own:ownKnob Tryd.prog.godebug=none:=by kernel_rfl
open Go.Ab.Vl Go.Proofs.YtmilkhdicmkmbaaDoor.uC
theorem laid_eq:Rows.vlinePrintsUptoRow.laid=[("unicode/utf8.acceptRanges",Lib.acceptData),("unicode/utf8.first",Lib.firstData)]:=by kernel_rfl
theorem inv_of (w:World) (h:laidMetH Tryd.prog Rows.vlinePrintsUptoRow.laid w) : Inv w:=by
 rw[MakeChecks.laidMetH_plain _ _ _ (by kernel_rfl),laid_eq] at h
 exact utf8Tabs_of_reads (ρ:=A8) Qb ⟨by kernel_rfl,by kernel_rfl,by kernel_rfl,by kernel_rfl,by kernel_rfl,by kernel_rfl,by kernel_rfl⟩ (Lib.laidMet.reads h (.tail _ (.head _))) (Lib.laidMet.reads h (.head _))
theorem walk (w:World) (hi:Inv w) (v0:Value) (h0:uL 1048576 Tryd.prog (RM.old (base w hi) w) 29 (zU w.heap.size v0)) :
  Calls Tryd.prog 5 #[v0] w fun e w'=>e=.returned (.bool true)∧Below w.heap.size w w':=by
 obtain⟨cs,e0,hf⟩:=h0.agg (by kernel_rfl)
 obtain⟨L,k,hrel,hB⟩:=J4 hf
 refine eP.close (base:=base w hi) rfl hi ?_
 simp only[List.map_cons,List.map_nil]
 rw[show zU (base w hi).n v0=.agg cs from e0]
 exact pV (Lb awake (Rt (hi:=hi)) U2 Og (qF.one (readAll (hi:=hi))) Pw hrel hB fun M'=>rfl)
set_option maxRecDepth 100000 in
theorem lifted (os:Os) (started:os.Started) (H:Type) (enc:TypeId × Value→H) (F:Stop.Interp) :
  ReturnsInHanded {} Tryd.checked os 5 .any ((Rows.OpenSpec.upto Rows.vlinePrintsSpec).preRow enc Tryd.prog Tryd.f5 Rows.vlinePrintsUptoRow.domain false Rows.vlinePrintsUptoRow.laid) (((Rows.OpenSpec.upto Rows.vlinePrintsSpec).at F).post enc Tryd.prog Tryd.f5 false true false false):=by
 refine returnsInHanded_of_row (C:=Tryd.checked) (s:=Rows.OpenSpec.upto Rows.vlinePrintsSpec) own started (by kernel_rfl) Tryd.func5
  (witness_row_at (enc:=enc) (C:=Tryd.checked) false (World.laidAll Tryd.prog os Rows.vlinePrintsUptoRow.laid) #[.agg ⟨[.string ⟨#[]⟩,.string ⟨#[]⟩,.slice none 0 0,.string ⟨#[]⟩,.int .i64 0]⟩] (World.laidAll_os _ _ _) (by kernel_rfl) (by kernel_rfl) (by kernel_rfl)
   (OpenSpec.preRow_of_cond 8 (x:=([.agg [.lit (.string []),.lit (.string []),.nil,.lit (.string []),.lit (.int .i64 0)]],[],[])) (by kernel_rfl) (by kernel_rfl) (fun k hk=>by cases hk; kernel_rfl) (by kernel_rfl) (by rw[MakeChecks.laidMetH_plain _ _ _ (by kernel_rfl)]; exact laidMet_laidAll _ (by kernel_rfl) (by kernel_rfl)))) ?_
 intro W b0 args ds gs before hval hW hcnd hcond hwt hL hsh _
 have hW':=hW
 obtain⟨p,q,hA,hV,rfl,hfz,hnd⟩:=hW
 rw[Tryd.params5] at hA
 have hi:Inv W:=inv_of W hL
 obtain⟨rfl,rfl⟩:=trodVars_none hV
 have hkk:=hcond _ rfl
 simp only[List.append_nil] at hW' hkk
 have hlt:∀ x∈p,x.block<W.heap.size:=fun x hx=>hW'.lt x hx
 have hva:∀ (j:Nat) t v,([29] : List TypeId)[j]?=some t→args[j]?=some v→Value.okWide Tryd.prog W .any b0 t v:=fun j t v hj hv=>hval j t v (by rw[Tryd.params5]; simpa using hj) hv
 obtain⟨v0,d0,rfl,rfl,h0⟩:=trodAll_one hA
 have RQ:Rows.uptoBulkAll [d0]≤1048576:=of_decide_eq_true hkk
 simp only[Rows.uptoBulkAll] at RQ
 refine(walk W hi v0 (MJ (base:=base W hi) Qw rfl (hva 0 _ _ rfl rfl) h0 (by omega))).mono fun e W' ⟨he,hg⟩=>?_
 subst he
 exact⟨_,rfl,FD (pa:=p) (pv:=[]) hW' (fun _ _ _=>(trodAll_cons_mk (shut_bool Tryd.underlying4 _) trodAll_mk0)) (fun sp hsp=>by
   rw[Tryd.params5]
   exact xM (by kernel_rfl) hg (fun t ht=>by
    have ht:t=29:=by simpa using ht
    subst ht; exact⟨by kernel_rfl,of_decide_eq_true (by kernel_rfl)⟩) hA hlt hsp) (fun _ _=>rfl) (by simp)
  hg (ok_one (by kernel_rfl) rfl (okWide_bool_mk Tryd.underlying4 _))⟩
theorem over:Rows.VlinePrintsUptoSaid :=
 OpenClaim.holds_of_cond 5 Tryd.f5 rfl rfl rfl rfl rfl rfl rfl ⟨rfl,rfl,rfl,rfl,rfl⟩ rfl rfl rfl rfl rfl (by kernel_rfl) Tryd.func5 (by kernel_rfl)
  (of_decide_eq_true (by kernel_rfl)) (by unfold Func.isWrapper; first | (rw[if_pos (by decide +kernel)]; kernel_rfl) | (rw[if_neg (by decide +kernel)]; exact⟨rfl,rfl⟩))
  (fun os started H enc _ F=>by rw[OpenClaim.pre_eq_preRow]; exact lifted os started H enc F)
theorem proved:Rows.VlinePrintsUptoCardSaid :=
 Claim7.holds_tied_plain_at .later [] _ _ _ _
  over (fun _ h=>by cases h) (by kernel_rfl) (fun _ h=>by cases h) vlinePrintsUpto_row_tie rfl ⟨rfl,rfl⟩ (by kernel_rfl) rfl
  (fun f fn hf hfn=>by
   obtain rfl:f=5:=Option.some.inj ((show Tryd.prog.funcNamed "rolodex/rolodexlaw23.VlinePrints" = some 5 by kernel_rfl).symm.trans hf) |>.symm
   obtain rfl:fn=Tryd.f5:=(Option.some.inj (Tryd.func5.symm.trans hfn)).symm
   exact⟨by kernel_rfl,fun j t ht=>by
    rw[Tryd.params5] at ht
    have hm:=Array.mem_of_getElem? ht
    have hm:t=29:=by simpa using hm
    subst hm
    ·exact(by kernel_rfl:Tryd.prog.wantsStandIn 29=false)⟩)
  (by kernel_rfl)
end Go.Proofs.YtmilkhdicmkmbaaDoor.vlinePrints
