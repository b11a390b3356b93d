/- 'VlineAnywhere' returns true where what is read is of bulk at most 1048576: a line that is folded anywhere is the same line. The card's listed variables are tied to the program's text. By an AI agent. -/
import Derived.Test.YtmilkhdicmkmbaaDoorVla5
import Derived.KernelRfl
import Derived.Test.YtmilkhdicmkmbaaDoorProg
import Derived.Shelf.Unicode.ValidAny
import Derived.Shelf.Strings.SlTrimAscii
import Derived.Shelf.Strings.IndexAnyAll
import Derived.Shelf.Unicode.DecodeAny
import Derived.Lib.LaidU8
import Derived.Test.YtmilkhdicmkmbaaDoorRows
import Derived.Test.YtmilkhdicmkmbaaDoorTie
import Derived.Test.YtmilkhdicmkmbaaDoorCards
import Derived.Carry
import Derived.WalkKit
import Derived.ProofKit
import Derived.OpenShut
import Derived.LaidMore
import Derived.Lay
import Derived.SevenTiedAt
import Derived.Stop.Joined
import Derived.JoinedCond
import Derived.Deep.DeepHandedRow
namespace Go.Proofs.YtmilkhdicmkmbaaDoor
open Go Go.Ab Go.RowKit
def ext:Ext := { split:=[],yP:=[],qK:=[63] }
theorem Gl:vB Tryd.prog ext where
 ng:=Fa (by kernel_rfl)
 yP:=fun f hf=>by cases hf
 qK:=by
  intro f hf
  have:f=63:=by
   unfold ext at hf
   simp only[has] at hf
   split at hf
   ·rename_i h; exact(Nat.eq_of_beq_eq_true h).symm
   ·cases hf
  subst this
  exact⟨Tryd.f63,by kernel_rfl,by kernel_rfl,by kernel_rfl,by kernel_rfl⟩
theorem mixed:Tryd.prog.follows .mixedOrders=true:=by kernel_rfl
def Iv:World→Prop:=fun _=>True
def T0:Table:=[]
theorem t0:iD Tryd.prog Iv T0:=iD.nil
def B1:Table:=[(74,[{ args:=[(.sc (.string ⟨⟨[84,69,76,59,84,89,80,69,61,104,111,109,101,58,49,50,10]⟩⟩)),(.sc (.string ⟨⟨[10]⟩⟩))],nx:=0,ans:=.val (.sc (.int .i64 16)) },
    { args:=[(.sc (.string ⟨⟨[65,58,49,10,66]⟩⟩)),(.sc (.string ⟨⟨[10]⟩⟩))],nx:=14,ans:=.val (.sc (.int .i64 3)) },
    { args:=[(.sc (.string ⟨⟨[66]⟩⟩)),(.sc (.string ⟨⟨[10]⟩⟩))],nx:=18,ans:=.val (.sc (.int .i64 (-1))) },
    { args:=[(.sc (.string ⟨⟨[97,10,32,98,13,10,99]⟩⟩)),(.sc (.string ⟨⟨[10]⟩⟩))],nx:=26,ans:=.val (.sc (.int .i64 1)) },
    { args:=[(.sc (.string ⟨⟨[32,98,13,10,99]⟩⟩)),(.sc (.string ⟨⟨[10]⟩⟩))],nx:=30,ans:=.val (.sc (.int .i64 3)) },
    { args:=[(.sc (.string ⟨⟨[99]⟩⟩)),(.sc (.string ⟨⟨[10]⟩⟩))],nx:=30,ans:=.val (.sc (.int .i64 (-1))) }]),
 (37,[{ args:=[(.sc (.string ⟨⟨[84,69,76,59,84,89,80,69,61,104,111,109,101,58,49,50]⟩⟩)),(.sc (.string ⟨⟨[13]⟩⟩))],nx:=0,ans:=.val (.sc (.string ⟨⟨[84,69,76,59,84,89,80,69,61,104,111,109,101,58,49,50]⟩⟩)) },
  { args:=[(.sc (.string ⟨⟨[65,58,49]⟩⟩)),(.sc (.string ⟨⟨[13]⟩⟩))],nx:=14,ans:=.val (.sc (.string ⟨⟨[65,58,49]⟩⟩)) },
  { args:=[(.sc (.string ⟨⟨[97]⟩⟩)),(.sc (.string ⟨⟨[13]⟩⟩))],nx:=26,ans:=.val (.sc (.string ⟨⟨[97]⟩⟩)) },
  { args:=[(.sc (.string ⟨⟨[32,98,13]⟩⟩)),(.sc (.string ⟨⟨[13]⟩⟩))],nx:=30,ans:=.val (.sc (.string ⟨⟨[32,98]⟩⟩)) }]),
 (51,[{ args:=[(.sc (.string ⟨⟨[84,69,76,59,84,89,80,69,61,104,111,109,101,58,49,50]⟩⟩))],nx:=5,ans:=.val (.sc (.bool true)) },
  { args:=[(.sc (.string ⟨⟨[104,111,109,101]⟩⟩))],nx:=8,ans:=.val (.sc (.bool true)) },
  { args:=[(.sc (.string ⟨⟨[49,50]⟩⟩))],nx:=12,ans:=.val (.sc (.bool true)) },
  { args:=[(.sc (.string ⟨⟨[65,58,49]⟩⟩))],nx:=23,ans:=.val (.sc (.bool true)) },
  { args:=[(.sc (.string ⟨⟨[49]⟩⟩))],nx:=25,ans:=.val (.sc (.bool true)) },
  { args:=[(.sc (.string ⟨⟨[66]⟩⟩))],nx:=26,ans:=.val (.sc (.bool true)) }]),
 (71,[{ args:=[(.sc (.string ⟨⟨[84,69,76,59,84,89,80,69,61,104,111,109,101,58,49,50]⟩⟩))],nx:=6,ans:=.val (.sc (.string ⟨⟨[116,101,108,59,116,121,112,101,61,104,111,109,101,58,49,50]⟩⟩)) },
  { args:=[(.sc (.string ⟨⟨[84,69,76]⟩⟩))],nx:=6,ans:=.val (.sc (.string ⟨⟨[116,101,108]⟩⟩)) },
  { args:=[(.sc (.string ⟨⟨[84,89,80,69,61,104,111,109,101,58,49,50]⟩⟩))],nx:=7,ans:=.val (.sc (.string ⟨⟨[116,121,112,101,61,104,111,109,101,58,49,50]⟩⟩)) },
  { args:=[(.sc (.string ⟨⟨[84,89,80,69]⟩⟩))],nx:=7,ans:=.val (.sc (.string ⟨⟨[116,121,112,101]⟩⟩)) },
  { args:=[(.sc (.string ⟨⟨[65,58,49]⟩⟩))],nx:=24,ans:=.val (.sc (.string ⟨⟨[97,58,49]⟩⟩)) },
  { args:=[(.sc (.string ⟨⟨[65]⟩⟩))],nx:=24,ans:=.val (.sc (.string ⟨⟨[97]⟩⟩)) },
  { args:=[(.sc (.string ⟨⟨[66]⟩⟩))],nx:=27,ans:=.val (.sc (.string ⟨⟨[98]⟩⟩)) }]),
 (70,[{ args:=[(.sc (.string ⟨⟨[116,101,108,59,116,121,112,101,61,104,111,109,101,58,49,50]⟩⟩)),(.sc (.string ⟨⟨[97,98,99,100,101,102,103,104,105,106,107,108,109,110,111,112,113,114,115,116,117,118,119,120,121,122,48,49,50,51,52,53,54,55,56,57,45]⟩⟩))],nx:=6,ans:=.val (.sc (.string ⟨⟨[59,116,121,112,101,61,104,111,109,101,58,49,50]⟩⟩)) },
  { args:=[(.sc (.string ⟨⟨[116,121,112,101,61,104,111,109,101,58,49,50]⟩⟩)),(.sc (.string ⟨⟨[97,98,99,100,101,102,103,104,105,106,107,108,109,110,111,112,113,114,115,116,117,118,119,120,121,122,48,49,50,51,52,53,54,55,56,57,45]⟩⟩))],nx:=7,ans:=.val (.sc (.string ⟨⟨[61,104,111,109,101,58,49,50]⟩⟩)) },
  { args:=[(.sc (.string ⟨⟨[97,58,49]⟩⟩)),(.sc (.string ⟨⟨[97,98,99,100,101,102,103,104,105,106,107,108,109,110,111,112,113,114,115,116,117,118,119,120,121,122,48,49,50,51,52,53,54,55,56,57,45]⟩⟩))],nx:=24,ans:=.val (.sc (.string ⟨⟨[58,49]⟩⟩)) },
  { args:=[(.sc (.string ⟨⟨[98]⟩⟩)),(.sc (.string ⟨⟨[97,98,99,100,101,102,103,104,105,106,107,108,109,110,111,112,113,114,115,116,117,118,119,120,121,122,48,49,50,51,52,53,54,55,56,57,45]⟩⟩))],nx:=27,ans:=.val (.sc (.string ⟨⟨[]⟩⟩)) }]),
 (65,[{ args:=[(.sc (.string ⟨⟨[116,121,112,101]⟩⟩)),(.sc (.string ⟨⟨[97,98,99,100,101,102,103,104,105,106,107,108,109,110,111,112,113,114,115,116,117,118,119,120,121,122,48,49,50,51,52,53,54,55,56,57,45]⟩⟩))],nx:=7,ans:=.val (.sc (.string ⟨⟨[]⟩⟩)) },
  { args:=[(.sc (.string ⟨⟨[116,101,108]⟩⟩)),(.sc (.string ⟨⟨[97,98,99,100,101,102,103,104,105,106,107,108,109,110,111,112,113,114,115,116,117,118,119,120,121,122,48,49,50,51,52,53,54,55,56,57,45]⟩⟩))],nx:=11,ans:=.val (.sc (.string ⟨⟨[]⟩⟩)) },
  { args:=[(.sc (.string ⟨⟨[97]⟩⟩)),(.sc (.string ⟨⟨[97,98,99,100,101,102,103,104,105,106,107,108,109,110,111,112,113,114,115,116,117,118,119,120,121,122,48,49,50,51,52,53,54,55,56,57,45]⟩⟩))],nx:=24,ans:=.val (.sc (.string ⟨⟨[]⟩⟩)) },
  { args:=[(.sc (.string ⟨⟨[98]⟩⟩)),(.sc (.string ⟨⟨[97,98,99,100,101,102,103,104,105,106,107,108,109,110,111,112,113,114,115,116,117,118,119,120,121,122,48,49,50,51,52,53,54,55,56,57,45]⟩⟩))],nx:=27,ans:=.val (.sc (.string ⟨⟨[]⟩⟩)) }]),
 (30,[{ args:=[(.sc (.string ⟨⟨[44,59,58]⟩⟩)),(.sc (.int .u8 104))],nx:=8,ans:=.val (.sc (.int .i64 (-1))) },
  { args:=[(.sc (.string ⟨⟨[44,59,58]⟩⟩)),(.sc (.int .u8 111))],nx:=8,ans:=.val (.sc (.int .i64 (-1))) },
  { args:=[(.sc (.string ⟨⟨[44,59,58]⟩⟩)),(.sc (.int .u8 109))],nx:=8,ans:=.val (.sc (.int .i64 (-1))) },
  { args:=[(.sc (.string ⟨⟨[44,59,58]⟩⟩)),(.sc (.int .u8 101))],nx:=8,ans:=.val (.sc (.int .i64 (-1))) },
  { args:=[(.sc (.string ⟨⟨[44,59,58]⟩⟩)),(.sc (.int .u8 58))],nx:=8,ans:=.val (.sc (.int .i64 2)) },
  { args:=[(.sc (.string ⟨⟨[34]⟩⟩)),(.sc (.int .u8 104))],nx:=8,ans:=.val (.sc (.int .i64 (-1))) },
  { args:=[(.sc (.string ⟨⟨[34]⟩⟩)),(.sc (.int .u8 111))],nx:=8,ans:=.val (.sc (.int .i64 (-1))) },
  { args:=[(.sc (.string ⟨⟨[34]⟩⟩)),(.sc (.int .u8 109))],nx:=8,ans:=.val (.sc (.int .i64 (-1))) },
  { args:=[(.sc (.string ⟨⟨[34]⟩⟩)),(.sc (.int .u8 101))],nx:=8,ans:=.val (.sc (.int .i64 (-1))) },
  { args:=[(.sc (.string ⟨⟨[]⟩⟩)),(.sc (.int .u8 49))],nx:=12,ans:=.val (.sc (.int .i64 (-1))) },
  { args:=[(.sc (.string ⟨⟨[]⟩⟩)),(.sc (.int .u8 50))],nx:=12,ans:=.val (.sc (.int .i64 (-1))) }]),
 (49,[{ args:=[(.sc (.string ⟨⟨[116,101,108]⟩⟩))],nx:=31,ans:=.val (.sc (.string ⟨⟨[84,69,76]⟩⟩)) },
  { args:=[(.sc (.string ⟨⟨[116,121,112,101]⟩⟩))],nx:=33,ans:=.val (.sc (.string ⟨⟨[84,89,80,69]⟩⟩)) }]),
 (62,[{ args:=[(.sc (.string ⟨⟨[84,69,76,59,84,89,80,69,61,104,111,109,101,58,49,50]⟩⟩))],nx:=36,ans:=.val (.tup [(.sc (.int .i32 84)),(.sc (.int .i64 1))]) },
  { args:=[(.sc (.string ⟨⟨[69,76,59,84,89,80,69,61,104,111,109,101,58,49,50]⟩⟩))],nx:=36,ans:=.val (.tup [(.sc (.int .i32 69)),(.sc (.int .i64 1))]) },
  { args:=[(.sc (.string ⟨⟨[76,59,84,89,80,69,61,104,111,109,101,58,49,50]⟩⟩))],nx:=36,ans:=.val (.tup [(.sc (.int .i32 76)),(.sc (.int .i64 1))]) },
  { args:=[(.sc (.string ⟨⟨[59,84,89,80,69,61,104,111,109,101,58,49,50]⟩⟩))],nx:=36,ans:=.val (.tup [(.sc (.int .i32 59)),(.sc (.int .i64 1))]) },
  { args:=[(.sc (.string ⟨⟨[84,89,80,69,61,104,111,109,101,58,49,50]⟩⟩))],nx:=36,ans:=.val (.tup [(.sc (.int .i32 84)),(.sc (.int .i64 1))]) },
  { args:=[(.sc (.string ⟨⟨[89,80,69,61,104,111,109,101,58,49,50]⟩⟩))],nx:=36,ans:=.val (.tup [(.sc (.int .i32 89)),(.sc (.int .i64 1))]) },
  { args:=[(.sc (.string ⟨⟨[80,69,61,104,111,109,101,58,49,50]⟩⟩))],nx:=36,ans:=.val (.tup [(.sc (.int .i32 80)),(.sc (.int .i64 1))]) },
  { args:=[(.sc (.string ⟨⟨[69,61,104,111,109,101,58,49,50]⟩⟩))],nx:=36,ans:=.val (.tup [(.sc (.int .i32 69)),(.sc (.int .i64 1))]) },
  { args:=[(.sc (.string ⟨⟨[61,104,111,109,101,58,49,50]⟩⟩))],nx:=36,ans:=.val (.tup [(.sc (.int .i32 61)),(.sc (.int .i64 1))]) },
  { args:=[(.sc (.string ⟨⟨[104,111,109,101,58,49,50]⟩⟩))],nx:=36,ans:=.val (.tup [(.sc (.int .i32 104)),(.sc (.int .i64 1))]) },
  { args:=[(.sc (.string ⟨⟨[111,109,101,58,49,50]⟩⟩))],nx:=36,ans:=.val (.tup [(.sc (.int .i32 111)),(.sc (.int .i64 1))]) },
  { args:=[(.sc (.string ⟨⟨[109,101,58,49,50]⟩⟩))],nx:=36,ans:=.val (.tup [(.sc (.int .i32 109)),(.sc (.int .i64 1))]) },
  { args:=[(.sc (.string ⟨⟨[101,58,49,50]⟩⟩))],nx:=36,ans:=.val (.tup [(.sc (.int .i32 101)),(.sc (.int .i64 1))]) },
  { args:=[(.sc (.string ⟨⟨[58,49,50]⟩⟩))],nx:=36,ans:=.val (.tup [(.sc (.int .i32 58)),(.sc (.int .i64 1))]) },
  { args:=[(.sc (.string ⟨⟨[49,50]⟩⟩))],nx:=36,ans:=.val (.tup [(.sc (.int .i32 49)),(.sc (.int .i64 1))]) },
  { args:=[(.sc (.string ⟨⟨[50]⟩⟩))],nx:=36,ans:=.val (.tup [(.sc (.int .i32 50)),(.sc (.int .i64 1))]) }])]
theorem b1:lM Tryd.prog ext T0 100000 200 B1=true:=by kernel_rfl
def T1:Table:=B1++T0
theorem t1:iD Tryd.prog Iv T1:=t0.add Gl mixed b1
def B2:Table:=[(30,[{ args:=[(.sc (.string ⟨⟨[92,44,59,58]⟩⟩)),(.sc (.int .u8 44))],nx:=37,ans:=.val (.sc (.int .i64 1)) }]),
 (14,[{ args:=[(.sc (.string ⟨⟨[97,44,98,92,44,99]⟩⟩)),(.sc (.int .u8 44))],ans:=.rows 34 (.slc 37 0 2 (.op 1)) [(37,(.row 2 (.node (.node .leaf (some (.sc (.string ⟨⟨[98,92,44,99]⟩⟩))) .leaf) (some (.sc (.string ⟨⟨[97]⟩⟩))) .leaf) [] true 9 0))] 38 }]),
 (62,[{ args:=[(.sc (.string ⟨⟨[48,49,50,51,52,53,54,55,56,57,48,49,50,51,52,53,54,55,56,57,48,49,50,51,52,53,54,55,56,57,48,49,50,51,52,53,54,55,56,57,48,49,50,51,52,53,54,55,56,57,48,49,50,51,52,53,54,55,56,57,48,49,50,51,52,53,54,55,56,57,48,49,50,51,52,53]⟩⟩))],nx:=39,ans:=.val (.tup [(.sc (.int .i32 48)),(.sc (.int .i64 1))]) },
  { args:=[(.sc (.string ⟨⟨[49,50,51,52,53,54,55,56,57,48,49,50,51,52,53,54,55,56,57,48,49,50,51,52,53,54,55,56,57,48,49,50,51,52,53,54,55,56,57,48,49,50,51,52,53,54,55,56,57,48,49,50,51,52,53,54,55,56,57,48,49,50,51,52,53,54,55,56,57,48,49,50,51,52,53]⟩⟩))],nx:=39,ans:=.val (.tup [(.sc (.int .i32 49)),(.sc (.int .i64 1))]) },
  { args:=[(.sc (.string ⟨⟨[50,51,52,53,54,55,56,57,48,49,50,51,52,53,54,55,56,57,48,49,50,51,52,53,54,55,56,57,48,49,50,51,52,53,54,55,56,57,48,49,50,51,52,53,54,55,56,57,48,49,50,51,52,53,54,55,56,57,48,49,50,51,52,53,54,55,56,57,48,49,50,51,52,53]⟩⟩))],nx:=39,ans:=.val (.tup [(.sc (.int .i32 50)),(.sc (.int .i64 1))]) },
  { args:=[(.sc (.string ⟨⟨[51,52,53,54,55,56,57,48,49,50,51,52,53,54,55,56,57,48,49,50,51,52,53,54,55,56,57,48,49,50,51,52,53,54,55,56,57,48,49,50,51,52,53,54,55,56,57,48,49,50,51,52,53,54,55,56,57,48,49,50,51,52,53,54,55,56,57,48,49,50,51,52,53]⟩⟩))],nx:=39,ans:=.val (.tup [(.sc (.int .i32 51)),(.sc (.int .i64 1))]) },
  { args:=[(.sc (.string ⟨⟨[52,53,54,55,56,57,48,49,50,51,52,53,54,55,56,57,48,49,50,51,52,53,54,55,56,57,48,49,50,51,52,53,54,55,56,57,48,49,50,51,52,53,54,55,56,57,48,49,50,51,52,53,54,55,56,57,48,49,50,51,52,53,54,55,56,57,48,49,50,51,52,53]⟩⟩))],nx:=39,ans:=.val (.tup [(.sc (.int .i32 52)),(.sc (.int .i64 1))]) },
  { args:=[(.sc (.string ⟨⟨[53,54,55,56,57,48,49,50,51,52,53,54,55,56,57,48,49,50,51,52,53,54,55,56,57,48,49,50,51,52,53,54,55,56,57,48,49,50,51,52,53,54,55,56,57,48,49,50,51,52,53,54,55,56,57,48,49,50,51,52,53,54,55,56,57,48,49,50,51,52,53]⟩⟩))],nx:=39,ans:=.val (.tup [(.sc (.int .i32 53)),(.sc (.int .i64 1))]) },
  { args:=[(.sc (.string ⟨⟨[54,55,56,57,48,49,50,51,52,53,54,55,56,57,48,49,50,51,52,53,54,55,56,57,48,49,50,51,52,53,54,55,56,57,48,49,50,51,52,53,54,55,56,57,48,49,50,51,52,53,54,55,56,57,48,49,50,51,52,53,54,55,56,57,48,49,50,51,52,53]⟩⟩))],nx:=39,ans:=.val (.tup [(.sc (.int .i32 54)),(.sc (.int .i64 1))]) },
  { args:=[(.sc (.string ⟨⟨[55,56,57,48,49,50,51,52,53,54,55,56,57,48,49,50,51,52,53,54,55,56,57,48,49,50,51,52,53,54,55,56,57,48,49,50,51,52,53,54,55,56,57,48,49,50,51,52,53,54,55,56,57,48,49,50,51,52,53,54,55,56,57,48,49,50,51,52,53]⟩⟩))],nx:=39,ans:=.val (.tup [(.sc (.int .i32 55)),(.sc (.int .i64 1))]) },
  { args:=[(.sc (.string ⟨⟨[56,57,48,49,50,51,52,53,54,55,56,57,48,49,50,51,52,53,54,55,56,57,48,49,50,51,52,53,54,55,56,57,48,49,50,51,52,53,54,55,56,57,48,49,50,51,52,53,54,55,56,57,48,49,50,51,52,53,54,55,56,57,48,49,50,51,52,53]⟩⟩))],nx:=39,ans:=.val (.tup [(.sc (.int .i32 56)),(.sc (.int .i64 1))]) },
  { args:=[(.sc (.string ⟨⟨[57,48,49,50,51,52,53,54,55,56,57,48,49,50,51,52,53,54,55,56,57,48,49,50,51,52,53,54,55,56,57,48,49,50,51,52,53,54,55,56,57,48,49,50,51,52,53,54,55,56,57,48,49,50,51,52,53,54,55,56,57,48,49,50,51,52,53]⟩⟩))],nx:=39,ans:=.val (.tup [(.sc (.int .i32 57)),(.sc (.int .i64 1))]) },
  { args:=[(.sc (.string ⟨⟨[48,49,50,51,52,53,54,55,56,57,48,49,50,51,52,53,54,55,56,57,48,49,50,51,52,53,54,55,56,57,48,49,50,51,52,53,54,55,56,57,48,49,50,51,52,53,54,55,56,57,48,49,50,51,52,53,54,55,56,57,48,49,50,51,52,53]⟩⟩))],nx:=39,ans:=.val (.tup [(.sc (.int .i32 48)),(.sc (.int .i64 1))]) },
  { args:=[(.sc (.string ⟨⟨[49,50,51,52,53,54,55,56,57,48,49,50,51,52,53,54,55,56,57,48,49,50,51,52,53,54,55,56,57,48,49,50,51,52,53,54,55,56,57,48,49,50,51,52,53,54,55,56,57,48,49,50,51,52,53,54,55,56,57,48,49,50,51,52,53]⟩⟩))],nx:=39,ans:=.val (.tup [(.sc (.int .i32 49)),(.sc (.int .i64 1))]) },
  { args:=[(.sc (.string ⟨⟨[50,51,52,53,54,55,56,57,48,49,50,51,52,53,54,55,56,57,48,49,50,51,52,53,54,55,56,57,48,49,50,51,52,53,54,55,56,57,48,49,50,51,52,53,54,55,56,57,48,49,50,51,52,53,54,55,56,57,48,49,50,51,52,53]⟩⟩))],nx:=39,ans:=.val (.tup [(.sc (.int .i32 50)),(.sc (.int .i64 1))]) },
  { args:=[(.sc (.string ⟨⟨[51,52,53,54,55,56,57,48,49,50,51,52,53,54,55,56,57,48,49,50,51,52,53,54,55,56,57,48,49,50,51,52,53,54,55,56,57,48,49,50,51,52,53,54,55,56,57,48,49,50,51,52,53,54,55,56,57,48,49,50,51,52,53]⟩⟩))],nx:=39,ans:=.val (.tup [(.sc (.int .i32 51)),(.sc (.int .i64 1))]) },
  { args:=[(.sc (.string ⟨⟨[52,53,54,55,56,57,48,49,50,51,52,53,54,55,56,57,48,49,50,51,52,53,54,55,56,57,48,49,50,51,52,53,54,55,56,57,48,49,50,51,52,53,54,55,56,57,48,49,50,51,52,53,54,55,56,57,48,49,50,51,52,53]⟩⟩))],nx:=39,ans:=.val (.tup [(.sc (.int .i32 52)),(.sc (.int .i64 1))]) },
  { args:=[(.sc (.string ⟨⟨[53,54,55,56,57,48,49,50,51,52,53,54,55,56,57,48,49,50,51,52,53,54,55,56,57,48,49,50,51,52,53,54,55,56,57,48,49,50,51,52,53,54,55,56,57,48,49,50,51,52,53,54,55,56,57,48,49,50,51,52,53]⟩⟩))],nx:=39,ans:=.val (.tup [(.sc (.int .i32 53)),(.sc (.int .i64 1))]) },
  { args:=[(.sc (.string ⟨⟨[54,55,56,57,48,49,50,51,52,53,54,55,56,57,48,49,50,51,52,53,54,55,56,57,48,49,50,51,52,53,54,55,56,57,48,49,50,51,52,53,54,55,56,57,48,49,50,51,52,53,54,55,56,57,48,49,50,51,52,53]⟩⟩))],nx:=39,ans:=.val (.tup [(.sc (.int .i32 54)),(.sc (.int .i64 1))]) },
  { args:=[(.sc (.string ⟨⟨[55,56,57,48,49,50,51,52,53,54,55,56,57,48,49,50,51,52,53,54,55,56,57,48,49,50,51,52,53,54,55,56,57,48,49,50,51,52,53,54,55,56,57,48,49,50,51,52,53,54,55,56,57,48,49,50,51,52,53]⟩⟩))],nx:=39,ans:=.val (.tup [(.sc (.int .i32 55)),(.sc (.int .i64 1))]) },
  { args:=[(.sc (.string ⟨⟨[56,57,48,49,50,51,52,53,54,55,56,57,48,49,50,51,52,53,54,55,56,57,48,49,50,51,52,53,54,55,56,57,48,49,50,51,52,53,54,55,56,57,48,49,50,51,52,53,54,55,56,57,48,49,50,51,52,53]⟩⟩))],nx:=39,ans:=.val (.tup [(.sc (.int .i32 56)),(.sc (.int .i64 1))]) },
  { args:=[(.sc (.string ⟨⟨[57,48,49,50,51,52,53,54,55,56,57,48,49,50,51,52,53,54,55,56,57,48,49,50,51,52,53,54,55,56,57,48,49,50,51,52,53,54,55,56,57,48,49,50,51,52,53,54,55,56,57,48,49,50,51,52,53]⟩⟩))],nx:=39,ans:=.val (.tup [(.sc (.int .i32 57)),(.sc (.int .i64 1))]) },
  { args:=[(.sc (.string ⟨⟨[48,49,50,51,52,53,54,55,56,57,48,49,50,51,52,53,54,55,56,57,48,49,50,51,52,53,54,55,56,57,48,49,50,51,52,53,54,55,56,57,48,49,50,51,52,53,54,55,56,57,48,49,50,51,52,53]⟩⟩))],nx:=39,ans:=.val (.tup [(.sc (.int .i32 48)),(.sc (.int .i64 1))]) },
  { args:=[(.sc (.string ⟨⟨[49,50,51,52,53,54,55,56,57,48,49,50,51,52,53,54,55,56,57,48,49,50,51,52,53,54,55,56,57,48,49,50,51,52,53,54,55,56,57,48,49,50,51,52,53,54,55,56,57,48,49,50,51,52,53]⟩⟩))],nx:=39,ans:=.val (.tup [(.sc (.int .i32 49)),(.sc (.int .i64 1))]) },
  { args:=[(.sc (.string ⟨⟨[50,51,52,53,54,55,56,57,48,49,50,51,52,53,54,55,56,57,48,49,50,51,52,53,54,55,56,57,48,49,50,51,52,53,54,55,56,57,48,49,50,51,52,53,54,55,56,57,48,49,50,51,52,53]⟩⟩))],nx:=39,ans:=.val (.tup [(.sc (.int .i32 50)),(.sc (.int .i64 1))]) },
  { args:=[(.sc (.string ⟨⟨[51,52,53,54,55,56,57,48,49,50,51,52,53,54,55,56,57,48,49,50,51,52,53,54,55,56,57,48,49,50,51,52,53,54,55,56,57,48,49,50,51,52,53,54,55,56,57,48,49,50,51,52,53]⟩⟩))],nx:=39,ans:=.val (.tup [(.sc (.int .i32 51)),(.sc (.int .i64 1))]) },
  { args:=[(.sc (.string ⟨⟨[52,53,54,55,56,57,48,49,50,51,52,53,54,55,56,57,48,49,50,51,52,53,54,55,56,57,48,49,50,51,52,53,54,55,56,57,48,49,50,51,52,53,54,55,56,57,48,49,50,51,52,53]⟩⟩))],nx:=39,ans:=.val (.tup [(.sc (.int .i32 52)),(.sc (.int .i64 1))]) },
  { args:=[(.sc (.string ⟨⟨[53,54,55,56,57,48,49,50,51,52,53,54,55,56,57,48,49,50,51,52,53,54,55,56,57,48,49,50,51,52,53,54,55,56,57,48,49,50,51,52,53,54,55,56,57,48,49,50,51,52,53]⟩⟩))],nx:=39,ans:=.val (.tup [(.sc (.int .i32 53)),(.sc (.int .i64 1))]) },
  { args:=[(.sc (.string ⟨⟨[54,55,56,57,48,49,50,51,52,53,54,55,56,57,48,49,50,51,52,53,54,55,56,57,48,49,50,51,52,53,54,55,56,57,48,49,50,51,52,53,54,55,56,57,48,49,50,51,52,53]⟩⟩))],nx:=39,ans:=.val (.tup [(.sc (.int .i32 54)),(.sc (.int .i64 1))]) },
  { args:=[(.sc (.string ⟨⟨[55,56,57,48,49,50,51,52,53,54,55,56,57,48,49,50,51,52,53,54,55,56,57,48,49,50,51,52,53,54,55,56,57,48,49,50,51,52,53,54,55,56,57,48,49,50,51,52,53]⟩⟩))],nx:=39,ans:=.val (.tup [(.sc (.int .i32 55)),(.sc (.int .i64 1))]) },
  { args:=[(.sc (.string ⟨⟨[56,57,48,49,50,51,52,53,54,55,56,57,48,49,50,51,52,53,54,55,56,57,48,49,50,51,52,53,54,55,56,57,48,49,50,51,52,53,54,55,56,57,48,49,50,51,52,53]⟩⟩))],nx:=39,ans:=.val (.tup [(.sc (.int .i32 56)),(.sc (.int .i64 1))]) },
  { args:=[(.sc (.string ⟨⟨[57,48,49,50,51,52,53,54,55,56,57,48,49,50,51,52,53,54,55,56,57,48,49,50,51,52,53,54,55,56,57,48,49,50,51,52,53,54,55,56,57,48,49,50,51,52,53]⟩⟩))],nx:=39,ans:=.val (.tup [(.sc (.int .i32 57)),(.sc (.int .i64 1))]) },
  { args:=[(.sc (.string ⟨⟨[48,49,50,51,52,53,54,55,56,57,48,49,50,51,52,53,54,55,56,57,48,49,50,51,52,53,54,55,56,57,48,49,50,51,52,53,54,55,56,57,48,49,50,51,52,53]⟩⟩))],nx:=39,ans:=.val (.tup [(.sc (.int .i32 48)),(.sc (.int .i64 1))]) },
  { args:=[(.sc (.string ⟨⟨[49,50,51,52,53,54,55,56,57,48,49,50,51,52,53,54,55,56,57,48,49,50,51,52,53,54,55,56,57,48,49,50,51,52,53,54,55,56,57,48,49,50,51,52,53]⟩⟩))],nx:=39,ans:=.val (.tup [(.sc (.int .i32 49)),(.sc (.int .i64 1))]) },
  { args:=[(.sc (.string ⟨⟨[50,51,52,53,54,55,56,57,48,49,50,51,52,53,54,55,56,57,48,49,50,51,52,53,54,55,56,57,48,49,50,51,52,53,54,55,56,57,48,49,50,51,52,53]⟩⟩))],nx:=39,ans:=.val (.tup [(.sc (.int .i32 50)),(.sc (.int .i64 1))]) },
  { args:=[(.sc (.string ⟨⟨[51,52,53,54,55,56,57,48,49,50,51,52,53,54,55,56,57,48,49,50,51,52,53,54,55,56,57,48,49,50,51,52,53,54,55,56,57,48,49,50,51,52,53]⟩⟩))],nx:=39,ans:=.val (.tup [(.sc (.int .i32 51)),(.sc (.int .i64 1))]) },
  { args:=[(.sc (.string ⟨⟨[52,53,54,55,56,57,48,49,50,51,52,53,54,55,56,57,48,49,50,51,52,53,54,55,56,57,48,49,50,51,52,53,54,55,56,57,48,49,50,51,52,53]⟩⟩))],nx:=39,ans:=.val (.tup [(.sc (.int .i32 52)),(.sc (.int .i64 1))]) },
  { args:=[(.sc (.string ⟨⟨[53,54,55,56,57,48,49,50,51,52,53,54,55,56,57,48,49,50,51,52,53,54,55,56,57,48,49,50,51,52,53,54,55,56,57,48,49,50,51,52,53]⟩⟩))],nx:=39,ans:=.val (.tup [(.sc (.int .i32 53)),(.sc (.int .i64 1))]) },
  { args:=[(.sc (.string ⟨⟨[54,55,56,57,48,49,50,51,52,53,54,55,56,57,48,49,50,51,52,53,54,55,56,57,48,49,50,51,52,53,54,55,56,57,48,49,50,51,52,53]⟩⟩))],nx:=39,ans:=.val (.tup [(.sc (.int .i32 54)),(.sc (.int .i64 1))]) },
  { args:=[(.sc (.string ⟨⟨[55,56,57,48,49,50,51,52,53,54,55,56,57,48,49,50,51,52,53,54,55,56,57,48,49,50,51,52,53,54,55,56,57,48,49,50,51,52,53]⟩⟩))],nx:=39,ans:=.val (.tup [(.sc (.int .i32 55)),(.sc (.int .i64 1))]) },
  { args:=[(.sc (.string ⟨⟨[56,57,48,49,50,51,52,53,54,55,56,57,48,49,50,51,52,53,54,55,56,57,48,49,50,51,52,53,54,55,56,57,48,49,50,51,52,53]⟩⟩))],nx:=39,ans:=.val (.tup [(.sc (.int .i32 56)),(.sc (.int .i64 1))]) },
  { args:=[(.sc (.string ⟨⟨[57,48,49,50,51,52,53,54,55,56,57,48,49,50,51,52,53,54,55,56,57,48,49,50,51,52,53,54,55,56,57,48,49,50,51,52,53]⟩⟩))],nx:=39,ans:=.val (.tup [(.sc (.int .i32 57)),(.sc (.int .i64 1))]) },
  { args:=[(.sc (.string ⟨⟨[48,49,50,51,52,53,54,55,56,57,48,49,50,51,52,53,54,55,56,57,48,49,50,51,52,53,54,55,56,57,48,49,50,51,52,53]⟩⟩))],nx:=39,ans:=.val (.tup [(.sc (.int .i32 48)),(.sc (.int .i64 1))]) },
  { args:=[(.sc (.string ⟨⟨[49,50,51,52,53,54,55,56,57,48,49,50,51,52,53,54,55,56,57,48,49,50,51,52,53,54,55,56,57,48,49,50,51,52,53]⟩⟩))],nx:=39,ans:=.val (.tup [(.sc (.int .i32 49)),(.sc (.int .i64 1))]) },
  { args:=[(.sc (.string ⟨⟨[50,51,52,53,54,55,56,57,48,49,50,51,52,53,54,55,56,57,48,49,50,51,52,53,54,55,56,57,48,49,50,51,52,53]⟩⟩))],nx:=39,ans:=.val (.tup [(.sc (.int .i32 50)),(.sc (.int .i64 1))]) },
  { args:=[(.sc (.string ⟨⟨[51,52,53,54,55,56,57,48,49,50,51,52,53,54,55,56,57,48,49,50,51,52,53,54,55,56,57,48,49,50,51,52,53]⟩⟩))],nx:=39,ans:=.val (.tup [(.sc (.int .i32 51)),(.sc (.int .i64 1))]) },
  { args:=[(.sc (.string ⟨⟨[52,53,54,55,56,57,48,49,50,51,52,53,54,55,56,57,48,49,50,51,52,53,54,55,56,57,48,49,50,51,52,53]⟩⟩))],nx:=39,ans:=.val (.tup [(.sc (.int .i32 52)),(.sc (.int .i64 1))]) },
  { args:=[(.sc (.string ⟨⟨[53,54,55,56,57,48,49,50,51,52,53,54,55,56,57,48,49,50,51,52,53,54,55,56,57,48,49,50,51,52,53]⟩⟩))],nx:=39,ans:=.val (.tup [(.sc (.int .i32 53)),(.sc (.int .i64 1))]) },
  { args:=[(.sc (.string ⟨⟨[54,55,56,57,48,49,50,51,52,53,54,55,56,57,48,49,50,51,52,53,54,55,56,57,48,49,50,51,52,53]⟩⟩))],nx:=39,ans:=.val (.tup [(.sc (.int .i32 54)),(.sc (.int .i64 1))]) },
  { args:=[(.sc (.string ⟨⟨[55,56,57,48,49,50,51,52,53,54,55,56,57,48,49,50,51,52,53,54,55,56,57,48,49,50,51,52,53]⟩⟩))],nx:=39,ans:=.val (.tup [(.sc (.int .i32 55)),(.sc (.int .i64 1))]) },
  { args:=[(.sc (.string ⟨⟨[56,57,48,49,50,51,52,53,54,55,56,57,48,49,50,51,52,53,54,55,56,57,48,49,50,51,52,53]⟩⟩))],nx:=39,ans:=.val (.tup [(.sc (.int .i32 56)),(.sc (.int .i64 1))]) },
  { args:=[(.sc (.string ⟨⟨[57,48,49,50,51,52,53,54,55,56,57,48,49,50,51,52,53,54,55,56,57,48,49,50,51,52,53]⟩⟩))],nx:=39,ans:=.val (.tup [(.sc (.int .i32 57)),(.sc (.int .i64 1))]) },
  { args:=[(.sc (.string ⟨⟨[48,49,50,51,52,53,54,55,56,57,48,49,50,51,52,53,54,55,56,57,48,49,50,51,52,53]⟩⟩))],nx:=39,ans:=.val (.tup [(.sc (.int .i32 48)),(.sc (.int .i64 1))]) },
  { args:=[(.sc (.string ⟨⟨[49,50,51,52,53,54,55,56,57,48,49,50,51,52,53,54,55,56,57,48,49,50,51,52,53]⟩⟩))],nx:=39,ans:=.val (.tup [(.sc (.int .i32 49)),(.sc (.int .i64 1))]) },
  { args:=[(.sc (.string ⟨⟨[50,51,52,53,54,55,56,57,48,49,50,51,52,53,54,55,56,57,48,49,50,51,52,53]⟩⟩))],nx:=39,ans:=.val (.tup [(.sc (.int .i32 50)),(.sc (.int .i64 1))]) },
  { args:=[(.sc (.string ⟨⟨[51,52,53,54,55,56,57,48,49,50,51,52,53,54,55,56,57,48,49,50,51,52,53]⟩⟩))],nx:=39,ans:=.val (.tup [(.sc (.int .i32 51)),(.sc (.int .i64 1))]) },
  { args:=[(.sc (.string ⟨⟨[52,53,54,55,56,57,48,49,50,51,52,53,54,55,56,57,48,49,50,51,52,53]⟩⟩))],nx:=39,ans:=.val (.tup [(.sc (.int .i32 52)),(.sc (.int .i64 1))]) },
  { args:=[(.sc (.string ⟨⟨[53,54,55,56,57,48,49,50,51,52,53,54,55,56,57,48,49,50,51,52,53]⟩⟩))],nx:=39,ans:=.val (.tup [(.sc (.int .i32 53)),(.sc (.int .i64 1))]) },
  { args:=[(.sc (.string ⟨⟨[54,55,56,57,48,49,50,51,52,53,54,55,56,57,48,49,50,51,52,53]⟩⟩))],nx:=39,ans:=.val (.tup [(.sc (.int .i32 54)),(.sc (.int .i64 1))]) },
  { args:=[(.sc (.string ⟨⟨[55,56,57,48,49,50,51,52,53,54,55,56,57,48,49,50,51,52,53]⟩⟩))],nx:=39,ans:=.val (.tup [(.sc (.int .i32 55)),(.sc (.int .i64 1))]) }])]
theorem b2:lM Tryd.prog ext T1 100000 200 B2=true:=by kernel_rfl
def T2:Table:=B2++T1
theorem t2:iD Tryd.prog Iv T2:=t1.add Gl mixed b2
def B3:Table:=[(62,[{ args:=[(.sc (.string ⟨⟨[56,57,48,49,50,51,52,53,54,55,56,57,48,49,50,51,52,53]⟩⟩))],nx:=39,ans:=.val (.tup [(.sc (.int .i32 56)),(.sc (.int .i64 1))]) },
    { args:=[(.sc (.string ⟨⟨[57,48,49,50,51,52,53,54,55,56,57,48,49,50,51,52,53]⟩⟩))],nx:=39,ans:=.val (.tup [(.sc (.int .i32 57)),(.sc (.int .i64 1))]) },
    { args:=[(.sc (.string ⟨⟨[48,49,50,51,52,53,54,55,56,57,48,49,50,51,52,53]⟩⟩))],nx:=39,ans:=.val (.tup [(.sc (.int .i32 48)),(.sc (.int .i64 1))]) },
    { args:=[(.sc (.string ⟨⟨[49,50,51,52,53,54,55,56,57,48,49,50,51,52,53]⟩⟩))],nx:=39,ans:=.val (.tup [(.sc (.int .i32 49)),(.sc (.int .i64 1))]) },
    { args:=[(.sc (.string ⟨⟨[50,51,52,53,54,55,56,57,48,49,50,51,52,53]⟩⟩))],nx:=39,ans:=.val (.tup [(.sc (.int .i32 50)),(.sc (.int .i64 1))]) },
    { args:=[(.sc (.string ⟨⟨[51,52,53,54,55,56,57,48,49,50,51,52,53]⟩⟩))],nx:=39,ans:=.val (.tup [(.sc (.int .i32 51)),(.sc (.int .i64 1))]) },
    { args:=[(.sc (.string ⟨⟨[52,53,54,55,56,57,48,49,50,51,52,53]⟩⟩))],nx:=39,ans:=.val (.tup [(.sc (.int .i32 52)),(.sc (.int .i64 1))]) },
    { args:=[(.sc (.string ⟨⟨[53,54,55,56,57,48,49,50,51,52,53]⟩⟩))],nx:=39,ans:=.val (.tup [(.sc (.int .i32 53)),(.sc (.int .i64 1))]) },
    { args:=[(.sc (.string ⟨⟨[54,55,56,57,48,49,50,51,52,53]⟩⟩))],nx:=39,ans:=.val (.tup [(.sc (.int .i32 54)),(.sc (.int .i64 1))]) },
    { args:=[(.sc (.string ⟨⟨[55,56,57,48,49,50,51,52,53]⟩⟩))],nx:=39,ans:=.val (.tup [(.sc (.int .i32 55)),(.sc (.int .i64 1))]) },
    { args:=[(.sc (.string ⟨⟨[56,57,48,49,50,51,52,53]⟩⟩))],nx:=39,ans:=.val (.tup [(.sc (.int .i32 56)),(.sc (.int .i64 1))]) },
    { args:=[(.sc (.string ⟨⟨[57,48,49,50,51,52,53]⟩⟩))],nx:=39,ans:=.val (.tup [(.sc (.int .i32 57)),(.sc (.int .i64 1))]) },
    { args:=[(.sc (.string ⟨⟨[48,49,50,51,52,53]⟩⟩))],nx:=39,ans:=.val (.tup [(.sc (.int .i32 48)),(.sc (.int .i64 1))]) },
    { args:=[(.sc (.string ⟨⟨[49,50,51,52,53]⟩⟩))],nx:=39,ans:=.val (.tup [(.sc (.int .i32 49)),(.sc (.int .i64 1))]) },
    { args:=[(.sc (.string ⟨⟨[50,51,52,53]⟩⟩))],nx:=39,ans:=.val (.tup [(.sc (.int .i32 50)),(.sc (.int .i64 1))]) },
    { args:=[(.sc (.string ⟨⟨[51,52,53]⟩⟩))],nx:=39,ans:=.val (.tup [(.sc (.int .i32 51)),(.sc (.int .i64 1))]) },
    { args:=[(.sc (.string ⟨⟨[52,53]⟩⟩))],nx:=39,ans:=.val (.tup [(.sc (.int .i32 52)),(.sc (.int .i64 1))]) },
    { args:=[(.sc (.string ⟨⟨[53]⟩⟩))],nx:=39,ans:=.val (.tup [(.sc (.int .i32 53)),(.sc (.int .i64 1))]) }]),
 (25,[{ args:=[(.sc (.string ⟨⟨[97,44,98]⟩⟩))],nx:=38,ans:=.val (.sc (.string ⟨⟨[97,92,44,98]⟩⟩)) }])]
theorem b3:lM Tryd.prog ext T2 100000 200 B3=true:=by kernel_rfl
def T3:Table:=B3++T2
theorem t3:iD Tryd.prog Iv T3:=t2.add Gl mixed b3
def B4:Table:=[(36,[{ args:=[(.sc (.string ⟨⟨[84,69,76,59,84,89,80,69,61,104,111,109,101,58,49,50,10]⟩⟩)),(.sc (.string ⟨⟨[10]⟩⟩))],nx:=0,ans:=.val (.tup [(.sc (.string ⟨⟨[84,69,76,59,84,89,80,69,61,104,111,109,101,58,49,50]⟩⟩)),(.sc (.string ⟨⟨[]⟩⟩)),(.sc (.bool true))]) },
    { args:=[(.sc (.string ⟨⟨[65,58,49,10,66]⟩⟩)),(.sc (.string ⟨⟨[10]⟩⟩))],nx:=14,ans:=.val (.tup [(.sc (.string ⟨⟨[65,58,49]⟩⟩)),(.sc (.string ⟨⟨[66]⟩⟩)),(.sc (.bool true))]) },
    { args:=[(.sc (.string ⟨⟨[66]⟩⟩)),(.sc (.string ⟨⟨[10]⟩⟩))],nx:=18,ans:=.val (.tup [(.sc (.string ⟨⟨[66]⟩⟩)),(.sc (.string ⟨⟨[]⟩⟩)),(.sc (.bool false))]) },
    { args:=[(.sc (.string ⟨⟨[97,10,32,98,13,10,99]⟩⟩)),(.sc (.string ⟨⟨[10]⟩⟩))],nx:=26,ans:=.val (.tup [(.sc (.string ⟨⟨[97]⟩⟩)),(.sc (.string ⟨⟨[32,98,13,10,99]⟩⟩)),(.sc (.bool true))]) },
    { args:=[(.sc (.string ⟨⟨[32,98,13,10,99]⟩⟩)),(.sc (.string ⟨⟨[10]⟩⟩))],nx:=30,ans:=.val (.tup [(.sc (.string ⟨⟨[32,98,13]⟩⟩)),(.sc (.string ⟨⟨[99]⟩⟩)),(.sc (.bool true))]) },
    { args:=[(.sc (.string ⟨⟨[99]⟩⟩)),(.sc (.string ⟨⟨[10]⟩⟩))],nx:=30,ans:=.val (.tup [(.sc (.string ⟨⟨[99]⟩⟩)),(.sc (.string ⟨⟨[]⟩⟩)),(.sc (.bool false))]) }]),
 (52,[{ args:=[(.sc (.string ⟨⟨[84,69,76,59,84,89,80,69,61,104,111,109,101,58,49,50]⟩⟩))],nx:=6,ans:=.val (.tup [(.sc (.string ⟨⟨[116,101,108]⟩⟩)),(.sc (.string ⟨⟨[59,84,89,80,69,61,104,111,109,101,58,49,50]⟩⟩))]) },
  { args:=[(.sc (.string ⟨⟨[84,89,80,69,61,104,111,109,101,58,49,50]⟩⟩))],nx:=7,ans:=.val (.tup [(.sc (.string ⟨⟨[116,121,112,101]⟩⟩)),(.sc (.string ⟨⟨[61,104,111,109,101,58,49,50]⟩⟩))]) },
  { args:=[(.sc (.string ⟨⟨[65,58,49]⟩⟩))],nx:=24,ans:=.val (.tup [(.sc (.string ⟨⟨[97]⟩⟩)),(.sc (.string ⟨⟨[58,49]⟩⟩))]) },
  { args:=[(.sc (.string ⟨⟨[66]⟩⟩))],nx:=27,ans:=.val (.tup [(.sc (.string ⟨⟨[98]⟩⟩)),(.sc (.string ⟨⟨[]⟩⟩))]) }]),
 (45,[{ args:=[(.sc (.string ⟨⟨[116,121,112,101]⟩⟩))],nx:=7,ans:=.val (.sc (.bool true)) },
  { args:=[(.sc (.string ⟨⟨[116,101,108]⟩⟩))],nx:=11,ans:=.val (.sc (.bool true)) },
  { args:=[(.sc (.string ⟨⟨[97]⟩⟩))],nx:=24,ans:=.val (.sc (.bool true)) },
  { args:=[(.sc (.string ⟨⟨[98]⟩⟩))],nx:=27,ans:=.val (.sc (.bool true)) }]),
 (68,[{ args:=[(.sc (.string ⟨⟨[104,111,109,101,58,49,50]⟩⟩)),(.sc (.string ⟨⟨[44,59,58]⟩⟩))],nx:=7,ans:=.val (.sc (.int .i64 4)) },
  { args:=[(.sc (.string ⟨⟨[104,111,109,101]⟩⟩)),(.sc (.string ⟨⟨[44,59,58]⟩⟩))],nx:=34,ans:=.val (.sc (.int .i64 (-1))) }]),
 (46,[{ args:=[(.sc (.string ⟨⟨[104,111,109,101]⟩⟩)),(.sc (.string ⟨⟨[34]⟩⟩))],nx:=7,ans:=.val (.sc (.bool true)) },
  { args:=[(.sc (.string ⟨⟨[49,50]⟩⟩)),(.sc (.string ⟨⟨[]⟩⟩))],nx:=11,ans:=.val (.sc (.bool true)) },
  { args:=[(.sc (.string ⟨⟨[49]⟩⟩)),(.sc (.string ⟨⟨[]⟩⟩))],nx:=24,ans:=.val (.sc (.bool true)) }]),
 (40,[{ args:=[(.sc (.string ⟨⟨[84,69,76,59,84,89,80,69,61,104,111,109,101,58,49,50]⟩⟩)),(.sc (.int .i64 75))],nx:=36,ans:=.val (.sc (.int .i64 16)) },
  { args:=[(.sc (.string ⟨⟨[48,49,50,51,52,53,54,55,56,57,48,49,50,51,52,53,54,55,56,57,48,49,50,51,52,53,54,55,56,57,48,49,50,51,52,53,54,55,56,57,48,49,50,51,52,53,54,55,56,57,48,49,50,51,52,53,54,55,56,57,48,49,50,51,52,53,54,55,56,57,48,49,50,51,52,53]⟩⟩)),(.sc (.int .i64 75))],nx:=39,ans:=.val (.sc (.int .i64 75)) },
  { args:=[(.sc (.string ⟨⟨[53]⟩⟩)),(.sc (.int .i64 74))],nx:=41,ans:=.val (.sc (.int .i64 1)) }]),
 (11,[{ args:=[(.sc (.string ⟨⟨[97,92,44,98]⟩⟩))],nx:=34,ans:=.val (.tup [(.sc (.string ⟨⟨[97,44,98]⟩⟩)),(.sc (.int .i64 0))]) }])]
theorem b4:lM Tryd.prog ext T3 100000 200 B4=true:=by kernel_rfl
def T4:Table:=B4++T3
theorem t4:iD Tryd.prog Iv T4:=t3.add Gl mixed b4
def B5:Table:=[(73,[{ args:=[(.sc (.string ⟨⟨[104,111,109,101,58,49,50]⟩⟩))],nx:=7,ans:=.val (.tup [(.sc (.string ⟨⟨[104,111,109,101]⟩⟩)),(.sc (.string ⟨⟨[58,49,50]⟩⟩)),(.sc (.bool true))]) }]),
 (34,[{ args:=[(.sc (.string ⟨⟨[65,58,49]⟩⟩))],nx:=22,ans:=.val (.tup [(.agg [(.sc (.string ⟨⟨[]⟩⟩)),(.sc (.string ⟨⟨[97]⟩⟩)),(.sc (.slice none 0 0)),(.sc (.string ⟨⟨[49]⟩⟩)),(.sc (.int .i64 0))]),(.sc (.bool true))]) },
  { args:=[(.sc (.string ⟨⟨[66]⟩⟩))],nx:=25,ans:=.val (.tup [(.agg [(.sc (.string ⟨⟨[]⟩⟩)),(.sc (.string ⟨⟨[]⟩⟩)),(.sc (.slice none 0 0)),(.sc (.string ⟨⟨[]⟩⟩)),(.sc (.int .i64 0))]),(.sc (.bool false))]) }]),
 (48,[{ args:=[(.sc (.string ⟨⟨[104,111,109,101]⟩⟩))],nx:=29,ans:=.val (.sc (.bool false)) }]),
 (50,[{ args:=[(.sc (.string ⟨⟨[104,111,109,101]⟩⟩)),(.sc (.string ⟨⟨[44,59,58]⟩⟩))],nx:=34,ans:=.val (.sc (.bool false)) }]),
 (21,[{ args:=[(.sc (.string ⟨⟨[84,69,76,59,84,89,80,69,61,104,111,109,101,58,49,50]⟩⟩))],nx:=35,ans:=.val (.sc (.string ⟨⟨[84,69,76,59,84,89,80,69,61,104,111,109,101,58,49,50]⟩⟩)) },
  { args:=[(.sc (.string ⟨⟨[48,49,50,51,52,53,54,55,56,57,48,49,50,51,52,53,54,55,56,57,48,49,50,51,52,53,54,55,56,57,48,49,50,51,52,53,54,55,56,57,48,49,50,51,52,53,54,55,56,57,48,49,50,51,52,53,54,55,56,57,48,49,50,51,52,53,54,55,56,57,48,49,50,51,52,53]⟩⟩))],nx:=38,ans:=.val (.sc (.string ⟨⟨[48,49,50,51,52,53,54,55,56,57,48,49,50,51,52,53,54,55,56,57,48,49,50,51,52,53,54,55,56,57,48,49,50,51,52,53,54,55,56,57,48,49,50,51,52,53,54,55,56,57,48,49,50,51,52,53,54,55,56,57,48,49,50,51,52,53,54,55,56,57,48,49,50,51,52,13,10,32,53]⟩⟩)) }])]
theorem b5:lM Tryd.prog ext T4 100000 200 B5=true:=by kernel_rfl
def T5:Table:=B5++T4
theorem t5:iD Tryd.prog Iv T5:=t4.add Gl mixed b5
def B6:Table:=[(34,[{ args:=[(.sc (.string ⟨⟨[84,69,76,59,84,89,80,69,61,104,111,109,101,58,49,50]⟩⟩))],ans:=.rows 4 (.tup [(.agg [(.sc (.string ⟨⟨[]⟩⟩)),(.sc (.string ⟨⟨[116,101,108]⟩⟩)),(.slc 10 0 1 (.op 2)),(.sc (.string ⟨⟨[49,50]⟩⟩)),(.sc (.int .i64 0))]),(.sc (.bool true))]) [(8,(.row 1 (.node .leaf (some (.sc (.string ⟨⟨[104,111,109,101]⟩⟩))) .leaf) [] true 9 0)),(10,(.row 2 (.node (.node .leaf (some (.slc 8 0 1 (.op 1))) .leaf) (some (.sc (.string ⟨⟨[116,121,112,101]⟩⟩))) .leaf) [] true 35 0))] 11 }]),
 (12,[{ args:=[(.agg [(.sc (.string ⟨⟨[]⟩⟩)),(.sc (.string ⟨⟨[116,101,108]⟩⟩)),(.slc 10 0 1 (.op 2)),(.sc (.string ⟨⟨[49,50]⟩⟩)),(.sc (.int .i64 1))])],fp:=[(8,(.row 1 (.node .leaf (some (.sc (.string ⟨⟨[104,111,109,101]⟩⟩))) .leaf) [] true 9 0)),(10,(.row 2 (.node (.node .leaf (some (.slc 8 0 1 (.op 1))) .leaf) (some (.sc (.string ⟨⟨[116,121,112,101]⟩⟩))) .leaf) [] true 35 0))],nx:=26,ans:=.val (.tup [(.sc (.string ⟨⟨[84,69,76,59,84,89,80,69,61,104,111,109,101,58,49,50,13,10]⟩⟩)),(.sc (.int .i64 0))]) }])]
theorem b6:lM Tryd.prog ext T5 100000 200 B6=true:=by kernel_rfl
def T6:Table:=B6++T5
theorem t6:iD Tryd.prog Iv T6:=t5.add Gl mixed b6
theorem t:iD Tryd.prog Iv T6:=t6
abbrev T:Table:=T6
def BA:Table:=[(10,[{ args:=[],ans:=.val (.sc (.bool true)) }])]
theorem bA:lM Tryd.prog ext T 100000 200 BA=true:=by kernel_rfl
def TA:Table:=BA++T
theorem tA:iD Tryd.prog Iv TA:=t.add Gl mixed bA
end Go.Proofs.YtmilkhdicmkmbaaDoor
set_option maxRecDepth 100000
set_option linter.unusedVariables false
set_option linter.unusedSimpArgs false
namespace Go.Proofs.YtmilkhdicmkmbaaDoor
open Go Go.Ab Go.Ab.Vl
abbrev ak := @dE Tryd.prog
theorem Qf:Cb Tryd.prog:=⟨Fa (by kernel_rfl),by kernel_rfl⟩
theorem bI {f:FuncId} {fn:Func} {args:List AV} {M:RM} {Q:af} {B:Prop} (h:B) (hfn:Tryd.prog.funcs[f]?=some fn:=by kernel_rfl) (e:B=Cw Tryd.prog fn args M Q:=by kernel_rfl) : ak f args M Q:=KN Qf hfn (e▸h)
variable {a0 a1 a2 a3 a4 a5 a6 a7:AV} {M:RM} {Q:af}
theorem kQ (h:fF (ak 43) 5 a0 a1 M Q) : ak 29 [a0,a1] M Q:=bI (fn:=Tryd.f29) h
theorem oK (h:mq (ak 44) a0 a1 M Q) : ak 30 [a0,a1] M Q:=bI (fn:=Tryd.f30) h
theorem mf (h:gI 5 a0 M Q) : ak 31 [a0] M Q:=bI (fn:=Tryd.f31) h
theorem fI (h:bR (ak 43) 5 a0 a1 M Q) : ak 41 [a0,a1] M Q:=bI (fn:=Tryd.f41) h
theorem kP (h:fD (tH Tryd.prog 63) 61 a0 M Q) : ak 43 [a0] M Q:=bI (fn:=Tryd.f43) h
theorem jG (h:gH (tH Tryd.prog 64) a0 a1 M Q) : ak 44 [a0,a1] M Q:=bI (fn:=Tryd.f44) h
end Go.Proofs.YtmilkhdicmkmbaaDoor
namespace Go.Proofs.YtmilkhdicmkmbaaDoor
open Go Go.Ab Go.Ab.Vl
variable {a0 a1 a2 a3 a4 a5 a6 a7:AV} {M:RM} {Q:af}
theorem uK (h:mY (ak 36) (ak 37) 9 3 a0 M Q) : ak 16 [a0] M Q:=bI (fn:=Tryd.f16) h
theorem xW (h:qc 61 (ak 40) (ak 41) (ak 31) a0 M Q) : ak 21 [a0] M Q:=bI (fn:=Tryd.f21) h
theorem mD (h:jq (ak 59) a0 a1 M Q) : ak 36 [a0,a1] M Q:=bI (fn:=Tryd.f36) h
theorem oh (h:ji (ak 60) a0 a1 M Q) : ak 37 [a0,a1] M Q:=bI (fn:=Tryd.f37) h
theorem vK (h:nZ (ak 62) a0 a1 M Q) : ak 40 [a0,a1] M Q:=bI (fn:=Tryd.f40) h
theorem gM (h:cZ (ak 74) a0 a1 M Q) : ak 59 [a0,a1] M Q:=bI (fn:=Tryd.f59) h
theorem jr (h:dM (ak 75) a0 a1 M Q) : ak 60 [a0,a1] M Q:=bI (fn:=Tryd.f60) h
theorem gp (h:bV (ak 44) (tH Tryd.prog 88) (ak 89) (ak 90) a0 a1 M Q) : ak 74 [a0,a1] M Q:=bI (fn:=Tryd.f74) h
theorem jH (h:dV a0 a1 M Q) : ak 75 [a0,a1] M Q:=bI (fn:=Tryd.f75) h
end Go.Proofs.YtmilkhdicmkmbaaDoor
namespace Go.Proofs.YtmilkhdicmkmbaaDoor
open Go Go.Ab Go.Ab.Vl
variable {a0 a1 a2 a3 a4 a5 a6 a7:AV} {M:RM} {Q:af}
theorem vS (h:pU (ak 16) (ak 34) 29 a0 M Q) : ak 13 [a0] M Q:=bI (fn:=Tryd.f13) h
theorem xJ (h:qh 46 a0 a1 M Q) : ak 18 [a0,a1] M Q:=bI (fn:=Tryd.f18) h
theorem AZ (h:uC 29 46 75 a0 M Q) : ak 19 [a0] M Q:=bI (fn:=Tryd.f19) h
theorem rR (h:lh (ak 65) a0 M Q) : ak 45 [a0] M Q:=bI (fn:=Tryd.f45) h
theorem qH (h:kH 5 (ak 66) (ak 30) (ak 51) a0 a1 M Q) : ak 46 [a0,a1] M Q:=bI (fn:=Tryd.f46) h
theorem xO (h:qo (ak 71) (ak 70) a0 M Q) : ak 52 [a0] M Q:=bI (fn:=Tryd.f52) h
theorem oP (h:jF (ak 72) a0 a1 M Q) : ak 53 [a0,a1] M Q:=bI (fn:=Tryd.f53) h
theorem tN (h:mE (ak 53) 35 (ak 52) (ak 45) (ak 73) 9 a0 M Q) : ak 54 [a0] M Q:=bI (fn:=Tryd.f54) h
theorem uQ (h:si (ak 78) (ak 77) (ak 79) 106 (ak 81) (ak 80) (ak 83) (ak 82) a0 a1 M Q) : ak 65 [a0,a1] M Q:=bI (fn:=Tryd.f65) h
theorem vJ (h:nW a0 M Q) : ak 66 [a0] M Q:=bI (fn:=Tryd.f66) h
theorem ql (h:jU (ak 84) (ak 85) (ak 79) 106 (ak 86) a0 a1 M Q) : ak 68 [a0,a1] M Q:=bI (fn:=Tryd.f68) h
theorem pE (h:nI (ak 77) (ak 79) 106 (ak 80) (ak 82) a0 a1 M Q) : ak 70 [a0,a1] M Q:=bI (fn:=Tryd.f70) h
theorem vI (h:oo 5 a0 M Q) : ak 71 [a0] M Q:=bI (fn:=Tryd.f71) h
theorem jD (h:dS a0 a1 M Q) : ak 72 [a0,a1] M Q:=bI (fn:=Tryd.f72) h
theorem vH (h:om (ak 87) (ak 36) (ak 46) (ak 68) a0 M Q) : ak 73 [a0] M Q:=bI (fn:=Tryd.f73) h
theorem ou (h:jI (ak 94) a0 a1 M Q) : ak 87 [a0,a1] M Q:=bI (fn:=Tryd.f87) h
theorem jE (h:dW (ak 72) a0 a1 M Q) : ak 94 [a0,a1] M Q:=bI (fn:=Tryd.f94) h
end Go.Proofs.YtmilkhdicmkmbaaDoor
namespace Go.Proofs.YtmilkhdicmkmbaaDoor.lib
open Go Go.Ab Go.Ab.Vl Go.RowKit
def GQ:Go.Shelf.Ren:=⟨fun | 196=>51 | 259=>69 | n=>n,fun | 9=>9 | 4=>4 | 3=>3 | 5=>5 | 12=>12 | 119=>98 | 0=>0 | 46=>102 | 139=>101 | 138=>100 | 53=>113 | n=>n,fun | 3=>0 | 4=>1 | n=>n⟩
theorem NP:Go.Proofs.Lays.n196 Tryd.prog GQ where
 mixed:=by kernel_rfl
 f196:=Tryd.func51.trans (congrArg some (by kernel_rfl))
 f259:=Tryd.func69.trans (congrArg some (by kernel_rfl))
 t0:=Tryd.underlying0
 a0:=Tryd.isAgg0
 z0:=Tryd.sizeOf0
 v0:=Tryd.zeroValue0
 t3:=Tryd.underlying3
 a3:=Tryd.isAgg3
 z3:=Tryd.sizeOf3
 v3:=Tryd.zeroValue3
 t4:=Tryd.underlying4
 a4:=Tryd.isAgg4
 z4:=Tryd.sizeOf4
 v4:=Tryd.zeroValue4
 t5:=Tryd.underlying5
 a5:=Tryd.isAgg5
 z5:=Tryd.sizeOf5
 v5:=Tryd.zeroValue5
 t9:=Tryd.underlying9
 a9:=Tryd.isAgg9
 z9:=Tryd.sizeOf9
 v9:=Tryd.zeroValue9
 t12:=Tryd.underlying12
 a12:=Tryd.isAgg12
 z12:=Tryd.sizeOf12
 v12:=Tryd.zeroValue12
 t46:=Tryd.underlying102
 a46:=Tryd.isAgg102
 z46:=Tryd.sizeOf102
 v46:=Tryd.zeroValue102
 t53:=Tryd.underlying113
 a53:=Tryd.isAgg113
 z53:=Tryd.sizeOf113
 v53:=Tryd.zeroValue113
 t119:=Tryd.underlying98
 a119:=Tryd.isAgg98
 z119:=Tryd.sizeOf98
 t138:=Tryd.underlying100
 a138:=Tryd.isAgg100
 z138:=Tryd.sizeOf100
 v138:=Tryd.zeroValue100
 t139:=Tryd.underlying101
 a139:=Tryd.isAgg101
 z139:=Tryd.sizeOf101
 v139:=Tryd.zeroValue101
 g3:=by kernel_rfl
 g4:=by kernel_rfl
def GA:Go.Shelf.Ren:=⟨fun | 160=>65 | 232=>78 | 231=>77 | 227=>79 | 234=>81 | 233=>80 | 236=>83 | 235=>82 | 228=>86 | 271=>92 | 151=>91 | 197=>62 | 120=>96 | 152=>84 | 260=>76 | 137=>30 | 119=>93 | 224=>89 | 225=>88 | 217=>44 | 266=>64 | n=>n,fun | 9=>9 | 4=>4 | 3=>3 | 5=>5 | 117=>107 | 116=>106 | 0=>0 | 124=>110 | 21=>21 | 105=>91 | 46=>102 | 119=>98 | 139=>101 | 138=>100 | n=>n,fun | 3=>0 | 4=>1 | n=>n⟩
theorem NN:Go.Proofs.Lays.n160 Tryd.prog GA where
 mixed:=by kernel_rfl
 f119:=Tryd.func93.trans (congrArg some (by kernel_rfl))
 f120:=Tryd.func96.trans (congrArg some (by kernel_rfl))
 f137:=Tryd.func30.trans (congrArg some (by kernel_rfl))
 f151:=Tryd.func91.trans (congrArg some (by kernel_rfl))
 f152:=Tryd.func84.trans (congrArg some (by kernel_rfl))
 f160:=Tryd.func65.trans (congrArg some (by kernel_rfl))
 f197:=Tryd.func62.trans (congrArg some (by kernel_rfl))
 f217:=Tryd.func44.trans (congrArg some (by kernel_rfl))
 f224:=Tryd.func89.trans (congrArg some (by kernel_rfl))
 f225:=Tryd.func88.trans (congrArg some (by kernel_rfl))
 f227:=Tryd.func79.trans (congrArg some (by kernel_rfl))
 f228:=Tryd.func86.trans (congrArg some (by kernel_rfl))
 f231:=Tryd.func77.trans (congrArg some (by kernel_rfl))
 f232:=Tryd.func78.trans (congrArg some (by kernel_rfl))
 f233:=Tryd.func80.trans (congrArg some (by kernel_rfl))
 f234:=Tryd.func81.trans (congrArg some (by kernel_rfl))
 f235:=Tryd.func82.trans (congrArg some (by kernel_rfl))
 f236:=Tryd.func83.trans (congrArg some (by kernel_rfl))
 f260:=Tryd.func76.trans (congrArg some (by kernel_rfl))
 f266:=Tryd.func64.trans (congrArg some (by kernel_rfl))
 f271:=Tryd.func92.trans (congrArg some (by kernel_rfl))
 t0:=Tryd.underlying0
 a0:=Tryd.isAgg0
 z0:=Tryd.sizeOf0
 v0:=Tryd.zeroValue0
 t3:=Tryd.underlying3
 a3:=Tryd.isAgg3
 z3:=Tryd.sizeOf3
 v3:=Tryd.zeroValue3
 t4:=Tryd.underlying4
 a4:=Tryd.isAgg4
 z4:=Tryd.sizeOf4
 v4:=Tryd.zeroValue4
 t5:=Tryd.underlying5
 a5:=Tryd.isAgg5
 z5:=Tryd.sizeOf5
 v5:=Tryd.zeroValue5
 t9:=Tryd.underlying9
 a9:=Tryd.isAgg9
 z9:=Tryd.sizeOf9
 v9:=Tryd.zeroValue9
 t21:=Tryd.underlying21
 a21:=Tryd.isAgg21
 z21:=Tryd.sizeOf21
 v21:=Tryd.zeroValue21
 t46:=Tryd.underlying102
 a46:=Tryd.isAgg102
 z46:=Tryd.sizeOf102
 v46:=Tryd.zeroValue102
 t105:=Tryd.underlying91
 a105:=Tryd.isAgg91
 z105:=Tryd.sizeOf91
 v105:=Tryd.zeroValue91
 t116:=Tryd.underlying106
 a116:=Tryd.isAgg106
 z116:=Tryd.sizeOf106
 t117:=Tryd.underlying107
 a117:=Tryd.isAgg107
 z117:=Tryd.sizeOf107
 v117:=Tryd.zeroValue107
 t119:=Tryd.underlying98
 a119:=Tryd.isAgg98
 z119:=Tryd.sizeOf98
 t124:=Tryd.underlying110
 a124:=Tryd.isAgg110
 z124:=Tryd.sizeOf110
 v124:=Tryd.zeroValue110
 t138:=Tryd.underlying100
 a138:=Tryd.isAgg100
 z138:=Tryd.sizeOf100
 v138:=Tryd.zeroValue100
 t139:=Tryd.underlying101
 a139:=Tryd.isAgg101
 z139:=Tryd.sizeOf101
 v139:=Tryd.zeroValue101
 g3:=by kernel_rfl
 g4:=by kernel_rfl
def Gr:Go.Shelf.Ren:=⟨fun | 161=>70 | 231=>77 | 227=>79 | 233=>80 | 235=>82 | 228=>86 | 197=>62 | 151=>91 | 260=>76 | 152=>84 | 137=>30 | 119=>93 | 224=>89 | 225=>88 | 217=>44 | 266=>64 | n=>n,fun | 9=>9 | 4=>4 | 3=>3 | 5=>5 | 117=>107 | 116=>106 | 0=>0 | 124=>110 | 105=>91 | 21=>21 | 119=>98 | 46=>102 | 139=>101 | 138=>100 | n=>n,fun | 3=>0 | 4=>1 | n=>n⟩
theorem N9:Go.Proofs.Lays.n161 Tryd.prog Gr where
 mixed:=by kernel_rfl
 f119:=Tryd.func93.trans (congrArg some (by kernel_rfl))
 f137:=Tryd.func30.trans (congrArg some (by kernel_rfl))
 f151:=Tryd.func91.trans (congrArg some (by kernel_rfl))
 f152:=Tryd.func84.trans (congrArg some (by kernel_rfl))
 f161:=Tryd.func70.trans (congrArg some (by kernel_rfl))
 f197:=Tryd.func62.trans (congrArg some (by kernel_rfl))
 f217:=Tryd.func44.trans (congrArg some (by kernel_rfl))
 f224:=Tryd.func89.trans (congrArg some (by kernel_rfl))
 f225:=Tryd.func88.trans (congrArg some (by kernel_rfl))
 f227:=Tryd.func79.trans (congrArg some (by kernel_rfl))
 f228:=Tryd.func86.trans (congrArg some (by kernel_rfl))
 f231:=Tryd.func77.trans (congrArg some (by kernel_rfl))
 f233:=Tryd.func80.trans (congrArg some (by kernel_rfl))
 f235:=Tryd.func82.trans (congrArg some (by kernel_rfl))
 f260:=Tryd.func76.trans (congrArg some (by kernel_rfl))
 f266:=Tryd.func64.trans (congrArg some (by kernel_rfl))
 t0:=Tryd.underlying0
 a0:=Tryd.isAgg0
 z0:=Tryd.sizeOf0
 v0:=Tryd.zeroValue0
 t3:=Tryd.underlying3
 a3:=Tryd.isAgg3
 z3:=Tryd.sizeOf3
 v3:=Tryd.zeroValue3
 t4:=Tryd.underlying4
 a4:=Tryd.isAgg4
 z4:=Tryd.sizeOf4
 v4:=Tryd.zeroValue4
 t5:=Tryd.underlying5
 a5:=Tryd.isAgg5
 z5:=Tryd.sizeOf5
 v5:=Tryd.zeroValue5
 t9:=Tryd.underlying9
 a9:=Tryd.isAgg9
 z9:=Tryd.sizeOf9
 v9:=Tryd.zeroValue9
 t21:=Tryd.underlying21
 a21:=Tryd.isAgg21
 z21:=Tryd.sizeOf21
 v21:=Tryd.zeroValue21
 t46:=Tryd.underlying102
 a46:=Tryd.isAgg102
 z46:=Tryd.sizeOf102
 v46:=Tryd.zeroValue102
 t105:=Tryd.underlying91
 a105:=Tryd.isAgg91
 z105:=Tryd.sizeOf91
 v105:=Tryd.zeroValue91
 t116:=Tryd.underlying106
 a116:=Tryd.isAgg106
 z116:=Tryd.sizeOf106
 t117:=Tryd.underlying107
 a117:=Tryd.isAgg107
 z117:=Tryd.sizeOf107
 v117:=Tryd.zeroValue107
 t119:=Tryd.underlying98
 a119:=Tryd.isAgg98
 z119:=Tryd.sizeOf98
 t124:=Tryd.underlying110
 a124:=Tryd.isAgg110
 z124:=Tryd.sizeOf110
 v124:=Tryd.zeroValue110
 t138:=Tryd.underlying100
 a138:=Tryd.isAgg100
 z138:=Tryd.sizeOf100
 v138:=Tryd.zeroValue100
 t139:=Tryd.underlying101
 a139:=Tryd.isAgg101
 z139:=Tryd.sizeOf101
 v139:=Tryd.zeroValue101
 g3:=by kernel_rfl
 g4:=by kernel_rfl
theorem valid {B:Base} (hB:∀ w,B.inv w→Lib.Utf8Tabs 0 1 w) : BV B (ak 51):=by
 intro M s Q hM hl hQ
 refine dE.pM (v:=Bo (bZ s)) ⟨Tryd.f51,_,Tryd.func51,rfl⟩ (fun ρ w us hus hw=>?_) hQ
 cases hus with
 | cons _ u1 _ us r1 hus =>
 cases hus
 obtain⟨rfl,_⟩:=av r1
 have hT:Lib.Utf8Tabs 0 1 w:=hB w (by have:=bi.inv hw; rw[hM] at this; exact this)
 refine(Any.utf8_ValidString NP ⟨⟨s⟩⟩ w (by show s.length≤_; omega) hT).mono fun e w' ⟨he,hb⟩=>⟨_,he,hb, ?_⟩
 rw[show(⟨⟨s⟩⟩ : ByteArray).data.toList=s from rfl,A8 s.length s (Nat.le_refl _)]
 exact .sc _ rfl
theorem BS:∀ (j:Nat) b,(⟨⟨bP⟩⟩ : ByteArray).data.toList[j]?=some b→b.toNat<128:=fun j b h=>by
 have hm:b∈bP:=List.mem_of_getElem? h
 have:bP.all (fun b=>decide (b.toNat<128))=true:=by decide
 exact of_decide_eq_true (List.all_eq_true.1 this b hm)
theorem trimLeft {B:Base} : Kk B (ak 70):=by
 intro M s Q hM hl hQ
 by_cases hne:s=[]
 ·subst hne
  refine pE ?_
  unfold nI
  simp only[fu,go_sem,beq_self_eq_true]
  exact hQ M (ag.refl _ _)
 have hp:=List.length_pos_iff.2 hne
 refine dE.pM (v:=St (s.dropWhile (bP.contains ·))) ⟨Tryd.f70,_,Tryd.func70,rfl⟩ (fun ρ w us hus hw=>?_) (hQ M (ag.refl _ _))
 cases hus with
 | cons _ u1 _ us r1 hus =>
 cases hus with
 | cons _ u2 _ us r2 hus =>
 cases hus
 obtain⟨rfl,_⟩:=av r1
 obtain⟨rfl,_⟩:=av r2
 refine(Any.strings_TrimLeft_set N9 Tryd.zeroValue106 (by kernel_rfl) ⟨⟨s⟩⟩ ⟨⟨bP⟩⟩ w (by decide) (by show 0<s.length; omega) (by decide) BS).mono fun e w' ⟨he,hb⟩=>⟨_,he, ?_,.sc _ rfl⟩
 rw[hb]
 have h1:=(Below.refl w.heap.size w).alloc (Nat.le_refl _) (.cells (Lib.setCells bP) 106)
 exact h1.alloc h1.size _
theorem trim {B:Base} : Gg B (fun s=>Lib.trimS s bP) (ak 65):=by
 intro M s Q hM hl hQ
 by_cases hne:s=[]
 ·subst hne
  refine uQ ?_
  unfold si
  simp only[fu,go_sem,beq_self_eq_true]
  exact hQ M (ag.refl _ _)
 have hp:=List.length_pos_iff.2 hne
 refine dE.pM (v:=St (Lib.trimS s bP)) ⟨Tryd.f65,_,Tryd.func65,rfl⟩ (fun ρ w us hus hw=>?_) (hQ M (ag.refl _ _))
 cases hus with
 | cons _ u1 _ us r1 hus =>
 cases hus with
 | cons _ u2 _ us r2 hus =>
 cases hus
 obtain⟨rfl,_⟩:=av r1
 obtain⟨rfl,_⟩:=av r2
 refine(Any.strings_Trim_set NN Tryd.zeroValue106 (by kernel_rfl) ⟨⟨s⟩⟩ ⟨⟨bP⟩⟩ w (by decide) (by show 0<s.length; omega) (by show s.length≤_; omega) (by decide) BS).mono fun e w' ⟨he,q,hb⟩=>⟨_,he, ?_,.sc _ rfl⟩
 rw[hb]
 have h1:=(Below.refl w.heap.size w).alloc (Nat.le_refl _) (.cells (Lib.setCells bP) 106)
 have h2:=h1.alloc h1.size (.cells (Lib.setCells bP) 106)
 exact⟨h2.os,h2.tape,h2.output,h2.size,h2.block⟩
end Go.Proofs.YtmilkhdicmkmbaaDoor.lib
namespace Go.Proofs.YtmilkhdicmkmbaaDoor
open Go Go.Ab Go.Ab.Vl
variable {a0 a1 a2 a3 a4 a5 a6 a7:AV} {M:RM} {Q:af}
theorem vX (h:qp 29 (ak 51) (ak 52) (ak 53) (ak 45) (ak 54) (ak 46) a0 M Q) : ak 34 [a0] M Q:=bI (fn:=Tryd.f34) h
theorem oC (h:jC (ak 30) (ak 93) a0 a1 M Q) : ak 84 [a0,a1] M Q:=bI (fn:=Tryd.f84) h
end Go.Proofs.YtmilkhdicmkmbaaDoor
namespace Go.Proofs.YtmilkhdicmkmbaaDoor
open Go Go.Ab Go.Ab.Vl
variable {a0 a1 a2 a3 a4 a5 a6 a7:AV} {M:RM} {Q:af}
theorem lT (h:gK a0 M Q) : ak 93 [a0] M Q:=bI (fn:=Tryd.f93) h
theorem kT (h:jb a0 M Q) : ak 85 [a0] M Q:=bI (fn:=Tryd.f85) h
end Go.Proofs.YtmilkhdicmkmbaaDoor
namespace Go.Proofs.YtmilkhdicmkmbaaDoor.lib
open Go Go.Ab Go.Ab.Vl Go.RowKit
def GH:Go.Shelf.Ren:=⟨fun | 153=>68 | 152=>84 | 226=>85 | 227=>79 | 228=>86 | 137=>30 | 119=>93 | 224=>89 | 225=>88 | 217=>44 | 266=>64 | n=>n,fun | 9=>9 | 3=>3 | 4=>4 | 5=>5 | 21=>21 | 117=>107 | 116=>106 | 0=>0 | 46=>102 | 124=>110 | n=>n,fun | n=>n⟩
theorem NL:Go.Proofs.Lays.n153 Tryd.prog GH where
 mixed:=by kernel_rfl
 f119:=Tryd.func93.trans (congrArg some (by kernel_rfl))
 f137:=Tryd.func30.trans (congrArg some (by kernel_rfl))
 f152:=Tryd.func84.trans (congrArg some (by kernel_rfl))
 f153:=Tryd.func68.trans (congrArg some (by kernel_rfl))
 f217:=Tryd.func44.trans (congrArg some (by kernel_rfl))
 f224:=Tryd.func89.trans (congrArg some (by kernel_rfl))
 f225:=Tryd.func88.trans (congrArg some (by kernel_rfl))
 f226:=Tryd.func85.trans (congrArg some (by kernel_rfl))
 f227:=Tryd.func79.trans (congrArg some (by kernel_rfl))
 f228:=Tryd.func86.trans (congrArg some (by kernel_rfl))
 f266:=Tryd.func64.trans (congrArg some (by kernel_rfl))
 t0:=Tryd.underlying0
 a0:=Tryd.isAgg0
 z0:=Tryd.sizeOf0
 v0:=Tryd.zeroValue0
 t3:=Tryd.underlying3
 a3:=Tryd.isAgg3
 z3:=Tryd.sizeOf3
 v3:=Tryd.zeroValue3
 t4:=Tryd.underlying4
 a4:=Tryd.isAgg4
 z4:=Tryd.sizeOf4
 v4:=Tryd.zeroValue4
 t5:=Tryd.underlying5
 a5:=Tryd.isAgg5
 z5:=Tryd.sizeOf5
 v5:=Tryd.zeroValue5
 t9:=Tryd.underlying9
 a9:=Tryd.isAgg9
 z9:=Tryd.sizeOf9
 v9:=Tryd.zeroValue9
 t21:=Tryd.underlying21
 a21:=Tryd.isAgg21
 z21:=Tryd.sizeOf21
 v21:=Tryd.zeroValue21
 t46:=Tryd.underlying102
 a46:=Tryd.isAgg102
 z46:=Tryd.sizeOf102
 v46:=Tryd.zeroValue102
 t116:=Tryd.underlying106
 a116:=Tryd.isAgg106
 z116:=Tryd.sizeOf106
 t117:=Tryd.underlying107
 a117:=Tryd.isAgg107
 z117:=Tryd.sizeOf107
 v117:=Tryd.zeroValue107
 t124:=Tryd.underlying110
 a124:=Tryd.isAgg110
 z124:=Tryd.sizeOf110
 v124:=Tryd.zeroValue110
def marks:List UInt8:=[44,59,58]
theorem wJ:Asc marks:=by
 intro x hx
 have:marks.all (fun b=>decide (b.toNat<128))=true:=by decide
 exact of_decide_eq_true (List.all_eq_true.1 this x hx)
theorem Gz:∀ (j:Nat) b,(⟨⟨marks⟩⟩ : ByteArray).data.toList[j]?=some b→b.toNat<128:=fun j b h=>wJ b (List.mem_of_getElem? h)
theorem validRune:tQ (ak 93):=by
 intro M r Q hQ
 obtain⟨a0,e,h⟩:=CX hQ
 cases e
 exact lT h
theorem K6 {idx:jS (ak 30)} : tK marks (ak 84):=by
 intro M r Q h1 h2
 obtain⟨a0,a1,e,h⟩:=Di wJ (by decide) idx validRune h1 h2
 cases e
 exact oC h
theorem indexAny {B:Base} (idx:jS (ak 30)) : wG marks B (ak 68):=by
 intro M s Q hM hl hQ
 by_cases h8:s.length≤8
 ·refine ql (Dm wJ (by decide) (by decide) h8 (K6 (idx:=idx)) ?_ hQ)
  intro M n Q h
  refine kT ?_
  unfold jb
  simp only[go_sem]
  rw[show decide ((n:Int) > 8)=decide (8<n) by simp; omega]
  exact h
 refine dE.pM (v:=N .i64 (Lib.indexAny s marks)) ⟨Tryd.f68,_,Tryd.func68,rfl⟩ (fun ρ w us hus hw=>?_) (hQ M (ag.refl _ _))
 cases hus with
 | cons _ u1 _ us r1 hus =>
 cases hus with
 | cons _ u2 _ us r2 hus =>
 cases hus
 obtain⟨rfl,_⟩:=av r1
 obtain⟨rfl,_⟩:=av r2
 refine(Any.strings_IndexAny_long NL Tryd.zeroValue106 (by kernel_rfl) ⟨⟨s⟩⟩ ⟨⟨marks⟩⟩ w (by decide) (by show 8<s.length; omega) (by show s.length<_; omega) (by decide) Gz).mono fun e w' ⟨he,hb⟩=>⟨_,he, ?_,.sc _ rfl⟩
 rw[hb]
 exact((Below.refl _ _).alloc (Nat.le_refl _) _).alloc (by simp) _
end Go.Proofs.YtmilkhdicmkmbaaDoor.lib
namespace Go.Proofs.YtmilkhdicmkmbaaDoor.sN
open Go Go.Ab Go.Ab.Vl Go.RowKit
theorem qK:Ll (tH Tryd.prog 63):=by
 intro v M Q hQ
 exact .inr (.inr (.inl ⟨⟨Tryd.f63,by kernel_rfl,by kernel_rfl,by kernel_rfl,by kernel_rfl⟩,v,rfl,hQ⟩))
theorem check:xS 61 (ak 43):=by
 intro M b addr buf Q hh ha hb hQ
 obtain⟨a0,e,h⟩:=Jb (TB:=61) qK hh ha hb hQ
 cases e
 exact kP h
theorem writeString:pW 61 5 (ak 41):=by
 intro n0 M b xs s Q h1 h2 h3
 obtain⟨a0,a1,e,h⟩:=AP check h1 h2 h3
 cases e
 exact fI h
theorem string:yH 61 5 (ak 31):=by
 intro n0 M b xs Q h1 h2 h3
 obtain⟨a0,e,h⟩:=G6 h1 h2 h3
 cases e
 exact mf h
theorem KX {M:RM} {s:List UInt8} {x:UInt8} : Ig Tryd.prog 64 [St s,By x] M (N .i64 (Lib.indexByte s x)):=by
 intro ρ w us hus hw
 cases hus with
 | cons _ u1 _ us r1 hus =>
 cases hus with
 | cons _ u2 _ us r2 hus =>
 cases hus
 obtain⟨rfl,_⟩:=av r1
 obtain⟨rfl,_⟩:=av r2
 refine⟨.int .i64 (Lib.indexByte s x), ?_,.sc _ rfl⟩
 refine uU (fn:=Tryd.f64) (s:=Extern.BytealgIndexByte.indexByte) (by kernel_rfl) (Qf.ng 64 Tryd.f64 (by kernel_rfl)) (by kernel_rfl) (by kernel_rfl) (by kernel_rfl) (fun w=>?_) w
 rw[Lib.run_indexByteString]
 congr 2
 simp
theorem JR:jS (ak 44):=by
 intro M s x Q hQ
 refine jG ?_
 unfold gH
 exact .inr (.inr (.inr (.inl ⟨_,KX,hQ⟩)))
theorem index:EK (ak 74):=by
 intro M s Q hQ
 obtain⟨a0,a1,e,h⟩:=index_spec JR (x:=tH Tryd.prog 88) (c1:=ak 89) (c2:=ak 90) hQ
 cases e
 exact gp h
theorem Rf:CV (ak 59):=by
 intro M s Q hl hQ
 obtain⟨a0,a1,e,h⟩:=Ee index hl hQ
 cases e
 exact gM h
theorem cut:CV (ak 36):=by
 intro M s Q hl hQ
 obtain⟨a0,a1,e,h⟩:=LY Rf hl hQ
 cases e
 exact mD h
theorem hasSuffix:uM (ak 75):=by
 intro M s Q hl hQ
 obtain⟨a0,a1,e,h⟩:=Df hl hQ
 cases e
 exact jH h
theorem Pz:yO (ak 60):=by
 intro M s Q hl hQ
 obtain⟨a0,a1,e,h⟩:=Cu hasSuffix hl hQ
 cases e
 exact jr h
theorem trim:yO (ak 37):=by
 intro M s Q hl hQ
 obtain⟨a0,a1,e,h⟩:=JX Pz hl hQ
 cases e
 exact oh h
def GI:Go.Shelf.Ren:=⟨fun | 197=>62 | 260=>76 | n=>n,fun | 9=>9 | 21=>21 | 3=>3 | 4=>4 | 5=>5 | 105=>91 | 119=>98 | 0=>0 | 46=>102 | 139=>101 | 138=>100 | n=>n,fun | 3=>0 | 4=>1 | n=>n⟩
theorem NC:Go.Proofs.Lays.n197 Tryd.prog GI where
 mixed:=by kernel_rfl
 f197:=Tryd.func62.trans (congrArg some (by kernel_rfl))
 f260:=Tryd.func76.trans (congrArg some (by kernel_rfl))
 t0:=Tryd.underlying0
 a0:=Tryd.isAgg0
 z0:=Tryd.sizeOf0
 v0:=Tryd.zeroValue0
 t3:=Tryd.underlying3
 a3:=Tryd.isAgg3
 z3:=Tryd.sizeOf3
 v3:=Tryd.zeroValue3
 t4:=Tryd.underlying4
 a4:=Tryd.isAgg4
 z4:=Tryd.sizeOf4
 v4:=Tryd.zeroValue4
 t5:=Tryd.underlying5
 a5:=Tryd.isAgg5
 z5:=Tryd.sizeOf5
 v5:=Tryd.zeroValue5
 t9:=Tryd.underlying9
 a9:=Tryd.isAgg9
 z9:=Tryd.sizeOf9
 v9:=Tryd.zeroValue9
 t21:=Tryd.underlying21
 a21:=Tryd.isAgg21
 z21:=Tryd.sizeOf21
 v21:=Tryd.zeroValue21
 t46:=Tryd.underlying102
 a46:=Tryd.isAgg102
 z46:=Tryd.sizeOf102
 v46:=Tryd.zeroValue102
 t105:=Tryd.underlying91
 a105:=Tryd.isAgg91
 z105:=Tryd.sizeOf91
 v105:=Tryd.zeroValue91
 t119:=Tryd.underlying98
 a119:=Tryd.isAgg98
 z119:=Tryd.sizeOf98
 t138:=Tryd.underlying100
 a138:=Tryd.isAgg100
 z138:=Tryd.sizeOf100
 v138:=Tryd.zeroValue100
 t139:=Tryd.underlying101
 a139:=Tryd.isAgg101
 z139:=Tryd.sizeOf101
 v139:=Tryd.zeroValue101
 g3:=by kernel_rfl
 g4:=by kernel_rfl
def zO:Go.Shelf.Ren:=⟨fun | 260=>76 | n=>n,fun | 9=>9 | 21=>21 | 3=>3 | 4=>4 | 5=>5 | 119=>98 | 0=>0 | 46=>102 | 139=>101 | 138=>100 | n=>n,fun | 3=>0 | 4=>1 | n=>n⟩
theorem NE:Go.Proofs.Lays.n260 Tryd.prog zO where
 mixed:=by kernel_rfl
 f260:=Tryd.func76.trans (congrArg some (by kernel_rfl))
 t0:=Tryd.underlying0
 a0:=Tryd.isAgg0
 z0:=Tryd.sizeOf0
 v0:=Tryd.zeroValue0
 t3:=Tryd.underlying3
 a3:=Tryd.isAgg3
 z3:=Tryd.sizeOf3
 v3:=Tryd.zeroValue3
 t4:=Tryd.underlying4
 a4:=Tryd.isAgg4
 z4:=Tryd.sizeOf4
 v4:=Tryd.zeroValue4
 t5:=Tryd.underlying5
 a5:=Tryd.isAgg5
 z5:=Tryd.sizeOf5
 v5:=Tryd.zeroValue5
 t9:=Tryd.underlying9
 a9:=Tryd.isAgg9
 z9:=Tryd.sizeOf9
 v9:=Tryd.zeroValue9
 t21:=Tryd.underlying21
 a21:=Tryd.isAgg21
 z21:=Tryd.sizeOf21
 v21:=Tryd.zeroValue21
 t46:=Tryd.underlying102
 a46:=Tryd.isAgg102
 z46:=Tryd.sizeOf102
 v46:=Tryd.zeroValue102
 t119:=Tryd.underlying98
 a119:=Tryd.isAgg98
 z119:=Tryd.sizeOf98
 t138:=Tryd.underlying100
 a138:=Tryd.isAgg100
 z138:=Tryd.sizeOf100
 v138:=Tryd.zeroValue100
 t139:=Tryd.underlying101
 a139:=Tryd.isAgg101
 z139:=Tryd.sizeOf101
 v139:=Tryd.zeroValue101
 g3:=by kernel_rfl
 g4:=by kernel_rfl
def Inv (w:World) : Prop:=Lib.Utf8Tabs 0 1 w
theorem Hu {w:World} {b o:Nat} {v:Value} (h:w.cell? ⟨b,o,none⟩=some v) : b<w.heap.size:=by
 unfold World.cell? at h
 cases hb:w.heap[b]? with
 | none=>simp[hb] at h
 | some x=>exact(Array.getElem?_eq_some_iff.1 hb).1
theorem xK {w w' : World} {b:Nat} (h:w'.heap[b]?=w.heap[b]?) (o:Nat) : w'.cell? ⟨b,o,none⟩=w.cell? ⟨b,o,none⟩:=by
 unfold World.cell?
 simp only[h]
def base (w:World) (hi:Inv w) : Base where
 n:=w.heap.size
 inv w':=Inv w'
 low u u' hlow hu:=by
  have h0:=Hu (hi.1 0 (by omega))
  have h1:=Hu (hi.2 0 (by omega)).1
  exact⟨fun c hc=>(xK (hlow 0 h0) c).trans (hu.1 c hc),fun i hi'=>⟨(xK (hlow 1 h1) _).trans (hu.2 i hi').1,(xK (hlow 1 h1) _).trans (hu.2 i hi').2⟩⟩
theorem OV (s:List UInt8) (h:s≠[]) : Lib.decodeGo ⟨⟨s⟩⟩=dec s:=by
 have hs:(⟨⟨s⟩⟩ : ByteArray).size=s.length:=rfl
 have hp:=List.length_pos_iff.2 h
 have g:∀ i,((⟨⟨s⟩⟩ : ByteArray).get! i).toNat=bt s i:=fun i=>by
  simp only[ByteArray.get!,bt,List.getD_eq_getElem?_getD]
  simp[getElem!_def]
  cases s[i]? <;> rfl
 rw[Lib.decodeGo,if_neg (by rw[hs]; omega),Lib.decode_at,g,g,g,g,hs]
 rfl
theorem decode {w0:World} {hi:Inv w0} : OE (base w0 hi) (ak 62):=by
 intro M s Q hM hne hl hQ
 refine dE.pM (v:=.tup [N .i32 ((dec s).1:Int),N .i64 (rs s:Int)]) ⟨Tryd.f62,_,Tryd.func62,rfl⟩ (fun ρ w us hus hw=>?_) (hQ _)
 cases hus with
 | cons _ u1 _ us r1 hus =>
 cases hus
 obtain⟨rfl,_⟩:=av r1
 have hT:Lib.Utf8Tabs 0 1 w:=by
  have:=bi.inv hw
  rw[hM] at this
  exact this
 refine(Any.utf8_DecodeRuneInString NC ⟨⟨s⟩⟩ w hT).mono fun e w' ⟨he,hb⟩=>⟨_,he,hb, ?_⟩
 rw[OV s hne,show(dec s).2=rs s by rw[rs,if_neg hne]]
 exact .tup _ _ (.cons _ _ _ _ (.sc _ rfl) (.cons _ _ _ _ (.sc _ rfl) .nil))
theorem piece {w0:World} {hi:Inv w0} : FD (base w0 hi) (ak 40):=by
 intro M s l Q h1 h2 h3 h4
 obtain⟨a0,a1,e,h⟩:=Jt (decode (hi:=hi)) h1 h2 h3 h4
 cases e
 exact vK h
theorem fold {w0:World} {hi:Inv w0} : J4 (base w0 hi) (ak 21):=by
 intro M s Q h1 h2 h3
 exact xW (Ko (T8:=5) (piece (hi:=hi)) writeString string h1 h2 h3)
theorem awake {B:Base} : J9 B (ak 10):=by
 intro M Q hM hQ
 exact Iu tA ⟨Tryd.f10,_,Tryd.func10,rfl⟩ (fun A=>by kernel_rfl) (fun _ _=>trivial) hQ
theorem Jy:jS (ak 30):=by
 intro M s x Q hQ
 refine oK ?_
 unfold mq
 exact JR hQ
theorem valid {w0:World} {hi:Inv w0} : BV (base w0 hi) (ak 51):=lib.valid (fun _ h=>h)
theorem OH {x:UInt8} : Dl x (ak 74):=by
 intro M s Q hQ
 obtain⟨a0,a1,e,h⟩:=GR JR (xx:=tH Tryd.prog 88) (c1:=ak 89) (c2:=ak 90) hQ
 cases e
 exact gp h
theorem PP {x:UInt8} : yT x (ak 59):=by
 intro M s Q hl hQ
 obtain⟨a0,a1,e,h⟩:=Db OH hl hQ
 cases e
 exact gM h
theorem QC {x:UInt8} : yT x (ak 36):=by
 intro M s Q hl hQ
 obtain⟨a0,a1,e,h⟩:=KF PP hl hQ
 cases e
 exact mD h
theorem Ij:lJ (ak 72):=by
 intro M s x Q hl hQ
 obtain⟨a0,a1,e,h⟩:=zQ hl hQ
 cases e
 exact jD h
theorem HY:lJ (ak 53):=by
 intro M s x Q hl hQ
 obtain⟨a0,a1,e,h⟩:=GY Ij hl hQ
 cases e
 exact oP h
theorem plain:Fw (ak 66):=by
 intro M x Q hQ
 obtain⟨a0,e,h⟩:=JL hQ
 cases e
 exact vJ h
theorem OG:EC (ak 71):=by
 intro M s Q hl hQ
 obtain⟨a0,e,h⟩:=JV (T8:=5) hl hQ
 cases e
 exact vI h
theorem Ju:ko (ak 94):=by
 intro M s x Q hl hQ
 obtain⟨a0,a1,e,h⟩:=vO Ij hl hQ
 cases e
 exact jE h
theorem KY:ko (ak 87):=by
 intro M s x Q hl hQ
 obtain⟨a0,a1,e,h⟩:=Cs Ju hl hQ
 cases e
 exact ou h
abbrev tf:List UInt8→List UInt8:=fun s=>Lib.trimS s bP
section
variable {w0:World} {hi:Inv w0}
theorem qY:j3 (base w0 hi) (ak 46):=by
 intro M s x Q hM hl hQ
 obtain⟨a0,a1,e,h⟩:=CK (T8:=5) plain Jy (valid (hi:=hi)) hM hl hQ
 cases e
 exact qH h
theorem Aq:nN (base w0 hi) tf (ak 45):=by
 intro M s Q hM hl hQ
 obtain⟨a0,e,h⟩:=Ef lib.trim hM hl hQ
 cases e
 exact rR h
theorem word:Ej (base w0 hi) (ak 52):=by
 intro M s Q hM hl hQ
 obtain⟨a0,e,h⟩:=KJ OG lib.trimLeft hM hl hQ
 cases e
 exact xO h
theorem value:FK (base w0 hi) (ak 73):=by
 intro M s Q hM hl hQ
 obtain⟨a0,e,h⟩:=Ir KY QC (qY (hi:=hi)) (lib.indexAny Jy) hM hl hQ
 cases e
 exact vH h
theorem params:Cy (base w0 hi) tf 35 (ak 54):=by
 intro M s Q hM hl h1 h2
 obtain⟨a0,e,h⟩:=Gw (TS:=9) HY (word (hi:=hi)) Aq value hM hl h1 h2
 cases e
 exact tN h
theorem PD:Pb (base w0 hi) tf (ak 34):=by
 intro M s Q hM hl h1 h2
 obtain⟨a0,e,h⟩:=Le (TP:=35) (TL:=29) (valid (hi:=hi)) word HY Aq params qY hM hl h1 h2
 cases e
 exact vX h
theorem He:tT 9 3 (ak 16):=by
 intro M s Q hl hQ
 obtain⟨a0,e,h⟩:=F9 (T:=9) (TI:=3) cut trim hl hQ
 cases e
 exact uK h
theorem readAll:qB (base w0 hi) tf (ak 13):=by
 intro M s Q hM hl h1 h2
 obtain⟨a0,e,h⟩:=FM (TL:=29) He (PD (hi:=hi)) hM hl h1 h2
 cases e
 exact vS h
end
theorem RV:OL (ak 19):=by
 intro M cs L k S Q h1 h2 h3
 obtain⟨a0,e,h⟩:=NT (T1:=29) (T2:=46) (T3:=75) h1 h2 h3
 cases e
 exact AZ h
theorem PE:JJ (ak 18):=by
 intro M cs ds L L' k k' S S' Q h1 h2 h3 h4 h5
 obtain⟨a0,a1,e,h⟩:=KE (T:=46) h1 h2 h3 h4 h5
 cases e
 exact xJ h
end Go.Proofs.YtmilkhdicmkmbaaDoor.sN
namespace Go.Proofs.YtmilkhdicmkmbaaDoor
open Go Go.Ab Go.Ab.Vl
end Go.Proofs.YtmilkhdicmkmbaaDoor
namespace Go.Proofs.YtmilkhdicmkmbaaDoor.sN
open Go Go.Ab Go.Ab.Vl Go.RowKit
end Go.Proofs.YtmilkhdicmkmbaaDoor.sN
namespace Go.Proofs.YtmilkhdicmkmbaaDoor
open Go Go.Ab Go.Ab.Vl
variable {a0 a1 a2 a3 a4 a5 a6 a7:AV} {M:RM} {Q:af}
theorem nO (h:iQ 29 (ak 10) (ak 12) (ak 16) (ak 13) (ak 19) (ak 18) a0 a1 a2 M Q) : ak 9 [a0,a1,a2] M Q:=bI (fn:=Tryd.f9) h
theorem vM (h:ol 29 (ak 32) (ak 33) (ak 21) a0 M Q) : ak 12 [a0] M Q:=bI (fn:=Tryd.f12) h
theorem vY (h:qF 29 (ak 45) (ak 46) 35 (ak 47) 48 a0 M Q) : ak 32 [a0] M Q:=bI (fn:=Tryd.f32) h
theorem vR (h:qA 29 61 (ak 41) (ak 49) 35 (ak 29) (ak 50) (ak 31) a0 M Q) : ak 33 [a0] M Q:=bI (fn:=Tryd.f33) h
theorem nQ (h:iM (ak 67) a0 a1 M Q) : ak 47 [a0,a1] M Q:=bI (fn:=Tryd.f47) h
theorem uL (h:mK (ak 46) a0 M Q) : ak 48 [a0] M Q:=bI (fn:=Tryd.f48) h
theorem vN (h:og 5 a0 M Q) : ak 49 [a0] M Q:=bI (fn:=Tryd.f49) h
theorem nM (h:iT (ak 68) a0 a1 M Q) : ak 50 [a0,a1] M Q:=bI (fn:=Tryd.f50) h
theorem qj (h:jP (ak) a0 a1 M Q) : ak 67 [a0,a1] M Q:=bI (fn:=Tryd.f67) h
end Go.Proofs.YtmilkhdicmkmbaaDoor
namespace Go.Proofs.YtmilkhdicmkmbaaDoor.sN
open Go Go.Ab Go.Ab.Vl Go.RowKit
theorem Js:uz 61 5 (ak 29):=by
 intro n0 M b xs x Q h1 h2 h3
 obtain⟨a0,a1,e,h⟩:=Be check h1 h2 h3
 cases e
 exact kQ h
theorem Fh:pz 61 5 (ak 41):=by
 intro n0 M b xs s Q h1 h2 h3
 obtain⟨a0,a1,e,h⟩:=yZ check h1 h2 h3
 cases e
 exact fI h
theorem great:Fv (ak 49):=by
 intro M s Q h1 h2
 obtain⟨a0,e,h⟩:=IL (T8:=5) h1 h2
 cases e
 exact vN h
section
variable {w0:World} {hi:Inv w0}
theorem QO:Ms (base w0 hi) (ak 50):=by
 intro M s Q h1 h2 h3
 obtain⟨a0,a1,e,h⟩:=L6 (lib.indexAny Jy) h1 h2 h3
 cases e
 exact nM h
theorem QA:L9 (base w0 hi) (ak 48):=by
 intro M s Q h1 h2 h3
 obtain⟨a0,e,h⟩:=JU (qY (hi:=hi)) h1 h2 h3
 cases e
 exact uL h
theorem Ph:Cz (base w0 hi) 48 (ak 67):=by
 intro M v xs Q h1 h2 h3 h4 h5
 obtain⟨a0,a1,e,h⟩:=Ei (n:=48) (cv:=ak) (QA (hi:=hi)) h1 h2 h3 h4 h5
 cases e
 exact qj h
theorem O5:Dn (base w0 hi) 48 (ak 47):=by
 intro M v xs Q h1 h2 h3 h4 h5
 obtain⟨a0,a1,e,h⟩:=AX (Ph (hi:=hi)) h1 h2 h3 h4 h5
 cases e
 exact nQ h
theorem PH:Gc (base w0 hi) tf (ak 32):=by
 intro M cs L k S Q h1 h2 h3 h4
 obtain⟨a0,e,h⟩:=JZ (TL:=29) (TP:=35) (Aq (hi:=hi)) qY O5 h1 h2 h3 h4
 cases e
 exact vY h
theorem P9:Iy (base w0 hi) (ak 33):=by
 intro M cs L k S Q h1 h2 h3 h4 h5
 obtain⟨a0,e,h⟩:=Kc (TL:=29) (TP:=35) Fh great Js (QO (hi:=hi)) string h1 h2 h3 h4 h5
 cases e
 exact vR h
theorem OY:Gf (base w0 hi) (wP tf) (ak 12):=by
 intro M cs L k S Q h1 h2 h3 h4 h5
 obtain⟨a0,e,h⟩:=Jw (TL:=29) (PH (hi:=hi)) P9 fold h1 h2 h3 h4 h5
 cases e
 exact vM h
end
theorem uF {H:Type} : ∀ {ds:List (DataW H)} {d:DataW H},d∈ds→Rows.uptoBulk d≤Rows.uptoBulkAll ds
 | [],_,h=>by cases h
 | x :: ds,d,h=>by
   simp only[Rows.uptoBulkAll]
   rcases List.mem_cons.1 h with rfl | h
   ·omega
   ·have:=uF h; omega
theorem Me {H:Type} (d:DataW H) : 1≤Rows.uptoBulk d:=by
 cases d with
 | lit l=>cases l <;> simp[Rows.uptoBulk]
 | _=>simp[Rows.uptoBulk]
theorem EE {H:Type} : ∀ (ds:List (DataW H)),ds.length≤Rows.uptoBulkAll ds
 | []=>by simp
 | d :: ds=>by
   have h1:=Me d
   have h2:=EE ds
   simp only[Rows.uptoBulkAll,List.length_cons]
   omega
theorem FB {H:Type} : Fg (H:=H) Rows.uptoBulk where
 str bs:=by simp[Rows.uptoBulk]
 len es sp:=by have:=EE es; simp only[Rows.uptoBulk]; omega
 elem es sp d h:=by have:=uF h; simp only[Rows.uptoBulk]; omega
 spare es sp d h:=by have:=uF h; simp only[Rows.uptoBulk]; omega
 agg ps d h:=by have:=uF h; simp only[Rows.uptoBulk]; omega
theorem Ht {α:Type} {R:jY α} {M:RM} {S:Nat→Prop} {size:Nat} (p:α→Prop) : ∀ (n:Nat) (ds:List AV),ds.length=n * size→(∀ i,i<n→∃ a,p a∧R.rel M ((ds.drop (i * size)).take size) a S) →
  ∃ xs:List α,xs.length=n∧di R M S ds xs∧∀ x∈xs,p x
 | 0,ds,hl,_=>⟨[],rfl,by
   have:ds=[]:=List.eq_nil_of_length_eq_zero (by simpa using hl)
   subst this; exact .nil,by simp⟩
 | n + 1,ds,hl,h=>by
   obtain⟨a,pa,ha⟩:=h 0 (by omega)
   simp only[Nat.zero_mul,List.drop_zero] at ha
   have hl' : (ds.drop size).length=n * size:=by rw[List.length_drop,hl,Nat.succ_mul]; omega
   obtain⟨xs,h1,h2,h3⟩:=Ht (R:=R) p n (ds.drop size) hl' fun i hi=>by
    obtain⟨b,pb,hb⟩:=h (i + 1) (by omega)
    refine⟨b,pb, ?_⟩
    rw[List.drop_drop,show size + i * size=(i + 1) * size by rw[Nat.succ_mul,Nat.add_comm]]; exact hb
   refine⟨a :: xs,by simp[h1], ?_,fun x hx=>?_⟩
   ·have:=di.cons ha h2
    rwa [List.take_append_drop] at this
   ·rcases List.mem_cons.1 hx with rfl | hx
    ·exact pa
    ·exact h3 x hx
theorem Ck:Tryd.prog.cellsOf 9=1:=by kernel_rfl
theorem cells3:Tryd.prog.cellsOf 3=1:=by kernel_rfl
theorem Om:Tryd.prog.cellsOf 33=1:=by kernel_rfl
theorem Od:Tryd.prog.cellsOf 27=1:=by kernel_rfl
theorem De:Tryd.prog.cellsOf 35=2:=by kernel_rfl
theorem Oe:Tryd.prog.cellsOf 29=5:=by kernel_rfl
theorem I8 {B:Nat} {M:RM} {cs:List AV} (h:bz B Tryd.prog M 33 cs) : ∃ v,∃ l:List (List UInt8),cs=[v]∧bT fU.kL M v l (fun b=>b<M.next)∧l.length≤B∧∀ s∈l,s.length≤B:=by
 obtain⟨v,n,ds,rfl,hs,hb,_,he⟩:=h.DY Tryd.underlying33 (by rw[Ck]; decide)
 rw[Ck] at hs he
 obtain⟨xs,rfl,rfl,hp⟩:=DR (size:=1) fU.cells (fun s:List UInt8=>s.length≤B) (fun _=>rfl) n ds hs.length fun i hi=>by
  obtain⟨d,e,h1⟩:=(he i hi).sK Tryd.underlying9
  exact⟨d,h1,e⟩
 exact⟨v,xs,rfl,bT.Qc (E:=fU) hs (dQ.lt hs),hb,hp⟩
theorem KH {B:Nat} {M:RM} {cs:List AV} (h:bz B Tryd.prog M 35 cs) : ∃ p:jJ,(p.1.length≤B∧p.2.length≤B∧∀ v∈p.2,v.length≤B)∧jV.rel M cs p (fun b=>b<M.next):=by
 obtain⟨hl,hf⟩:=h.Cq Tryd.underlying35
 rw[De] at hl
 match cs,hl with
 | [a,b],_ =>
   have f0:bz B Tryd.prog M 9 (([a,b].drop 0).take (Tryd.prog.cellsOf 9)):=hf 0 _ rfl
   have f1:bz B Tryd.prog M 33 (([a,b].drop 1).take (Tryd.prog.cellsOf 33)):=hf 1 _ rfl
   rw[Ck] at f0
   rw[Om] at f1
   obtain⟨s,e0,hs⟩:=f0.sK Tryd.underlying9
   obtain⟨v,l,e1,hv,hl1,hl2⟩:=I8 f1
   cases e0; cases e1
   exact⟨(s,l),⟨hs,hl1,hl2⟩,AY hv⟩
theorem I5 {B:Nat} {M:RM} {cs:List AV} (h:bz B Tryd.prog M 29 cs) : ∃ (L:Ln) (k:Int),iX.rel M cs (L,k) (fun b=>b<M.next)∧LB B L:=by
 obtain⟨hl,hf⟩:=h.Cq Tryd.underlying29
 rw[Oe] at hl
 match cs,hl with
 | [a,b,c,d,e],_ =>
   have f0:bz B Tryd.prog M 9 (([a,b,c,d,e].drop 0).take (Tryd.prog.cellsOf 9)):=hf 0 _ rfl
   have f1:bz B Tryd.prog M 9 (([a,b,c,d,e].drop 1).take (Tryd.prog.cellsOf 9)):=hf 1 _ rfl
   have f2:bz B Tryd.prog M 27 (([a,b,c,d,e].drop 2).take (Tryd.prog.cellsOf 27)):=hf 2 _ rfl
   have f3:bz B Tryd.prog M 9 (([a,b,c,d,e].drop 3).take (Tryd.prog.cellsOf 9)):=hf 3 _ rfl
   have f4:bz B Tryd.prog M 3 (([a,b,c,d,e].drop 4).take (Tryd.prog.cellsOf 3)):=hf 4 _ rfl
   rw[Ck] at f0 f1 f3
   rw[Od] at f2
   rw[cells3] at f4
   obtain⟨g,e0,hg⟩:=f0.sK Tryd.underlying9
   obtain⟨n,e1,hn⟩:=f1.sK Tryd.underlying9
   obtain⟨w,e3,hw⟩:=f3.sK Tryd.underlying9
   obtain⟨k,e4,_,_⟩:=f4.Hq Tryd.underlying3
   obtain⟨v,m,ds,e2,hs,hb,_,he⟩:=f2.DY Tryd.underlying27 (by rw[De]; decide)
   rw[De] at hs he
   obtain⟨ps,rfl,hr,hp⟩:=Ht (R:=jV) (size:=2) (S:=fun b=>b<M.next) (fun p:jJ=>p.1.length≤B∧p.2.length≤B∧∀ v∈p.2,v.length≤B) m ds hs.length fun i hi=>KH (he i hi)
   cases e0; cases e1; cases e2; cases e3; cases e4
   exact⟨⟨g,n,ps,w⟩,k,⟨_,rfl,ds,hs,dQ.lt hs,hr⟩,⟨hg,hn,hw,hb,fun p h=>(hp p h).1,fun p h=>(hp p h).2.1,fun p h=>(hp p h).2.2⟩⟩
end Go.Proofs.YtmilkhdicmkmbaaDoor.sN
namespace Go.Proofs.YtmilkhdicmkmbaaDoor.vlineAnywhere
open Go Go.Ab Go.ChangeShapes Go.WideShapes Go.ChangeAt Go.RowKit
theorem own:ownKnob Tryd.prog.godebug=none:=by kernel_rfl
open Go.Ab.Vl Go.Proofs.YtmilkhdicmkmbaaDoor.sN
theorem laid_eq:Rows.vlineAnywhereUptoRow.laid=[("unicode/utf8.acceptRanges",Lib.acceptData),("unicode/utf8.first",Lib.firstData)]:=by kernel_rfl
theorem inv_of (w:World) (h:laidMetH Tryd.prog Rows.vlineAnywhereUptoRow.laid w) : Inv w:=by
 rw[MakeChecks.laidMetH_plain _ _ _ (by kernel_rfl),laid_eq] at h
 exact utf8Tabs_of_reads (ρ:=zO) NE ⟨by kernel_rfl,by kernel_rfl,by kernel_rfl,by kernel_rfl,by kernel_rfl,by kernel_rfl,by kernel_rfl⟩ (Lib.laidMet.reads h (.tail _ (.head _))) (Lib.laidMet.reads h (.head _))
theorem walk (w:World) (hi:Inv w) (v0 v1 v2:Value) (h0:jZ 1048576 Tryd.prog (RM.old (base w hi) w) 29 (nV w.heap.size v0)) (h1:jZ 1048576 Tryd.prog (RM.old (base w hi) w) 3 (nV w.heap.size v1)) (h2:jZ 1048576 Tryd.prog (RM.old (base w hi) w) 4 (nV w.heap.size v2)) :
  Calls Tryd.prog 9 #[v0,v1,v2] w fun e w'=>e=.returned (.bool true)∧Below w.heap.size w w':=by
 obtain⟨cs,e0,hf⟩:=h0.agg (by kernel_rfl)
 obtain⟨L,k,hrel,hB⟩:=I5 hf
 obtain⟨n,e1,_,_⟩:=(h1.one (by kernel_rfl)).Hq Tryd.underlying3
 obtain⟨t,e2⟩:=(h2.one (by kernel_rfl)).MN Tryd.underlying4
 refine dE.close (base:=base w hi) rfl hi ?_
 simp only[List.map_cons,List.map_nil]
 rw[show nV (base w hi).n v0=.agg cs from e0,show nV (base w hi).n v1=N .i64 n from(List.cons.inj e1).1,show nV (base w hi).n v2=Bo t from(List.cons.inj e2).1]
 exact nO (Fx awake (OY (hi:=hi)) He (qB.one (readAll (hi:=hi))) RV PE hrel hB fun M'=>rfl)
set_option maxRecDepth 100000 in
theorem lifted (os:Os) (started:os.Started) (H:Type) (enc:TypeId × Value→H) (F:Stop.Interp) :
  ReturnsInHanded {} Tryd.checked os 9 .any ((Rows.OpenSpec.upto Rows.vlineAnywhereSpec).preRow enc Tryd.prog Tryd.f9 Rows.vlineAnywhereUptoRow.domain false Rows.vlineAnywhereUptoRow.laid) (((Rows.OpenSpec.upto Rows.vlineAnywhereSpec).at F).post enc Tryd.prog Tryd.f9 false true false false):=by
 refine returnsInHanded_of_row (C:=Tryd.checked) (s:=Rows.OpenSpec.upto Rows.vlineAnywhereSpec) own started (by kernel_rfl) Tryd.func9
  (witness_row_at (enc:=enc) (C:=Tryd.checked) false (World.laidAll Tryd.prog os Rows.vlineAnywhereUptoRow.laid) #[.agg ⟨[.string ⟨#[]⟩,.string ⟨#[]⟩,.slice none 0 0,.string ⟨#[]⟩,.int .i64 0]⟩,.int .i64 0,.bool false] (World.laidAll_os _ _ _) (by kernel_rfl) (by kernel_rfl) (by kernel_rfl)
   (OpenSpec.preRow_of_cond 8 (x:=([.agg [.lit (.string []),.lit (.string []),.nil,.lit (.string []),.lit (.int .i64 0)],.lit (.int .i64 0),.lit (.bool false)],[],[])) (by kernel_rfl) (by kernel_rfl) (fun k hk=>by cases hk; kernel_rfl) (by kernel_rfl) (by rw[MakeChecks.laidMetH_plain _ _ _ (by kernel_rfl)]; exact laidMet_laidAll _ (by kernel_rfl) (by kernel_rfl)))) ?_
 intro W b0 args ds gs before hval hW hcnd hcond hwt hL hsh _
 have hW':=hW
 obtain⟨p,q,hA,hV,rfl,hfz,hnd⟩:=hW
 rw[Tryd.params9] at hA
 have hi:Inv W:=inv_of W hL
 obtain⟨rfl,rfl⟩:=trodVars_none hV
 have hkk:=hcond _ rfl
 simp only[List.append_nil] at hW' hkk
 have hlt:∀ x∈p,x.block<W.heap.size:=fun x hx=>hW'.lt x hx
 have hva:∀ (j:Nat) t v,([29,3,4] : List TypeId)[j]?=some t→args[j]?=some v→Value.okWide Tryd.prog W .any b0 t v:=fun j t v hj hv=>hval j t v (by rw[Tryd.params9]; simpa using hj) hv
 obtain⟨v0,v1,v2,d0,d1,d2,p0,p1,p2,rfl,rfl,rfl,h0,h1,h2⟩:=trodAll_three hA
 have Pt:Rows.uptoBulkAll [d0,d1,d2]≤1048576:=of_decide_eq_true hkk
 simp only[Rows.uptoBulkAll] at Pt
 refine(walk W hi v0 v1 v2 (wM (base:=base W hi) FB rfl (hva 0 _ _ rfl rfl) h0 (by omega)) (wM (base:=base W hi) FB rfl (hva 1 _ _ rfl rfl) h1 (by omega)) (wM (base:=base W hi) FB rfl (hva 2 _ _ rfl rfl) h2 (by omega))).mono fun e W' ⟨he,hg⟩=>?_
 subst he
 exact⟨_,rfl,Eb (pa:=_) (pv:=[]) hW' (fun _ _ _=>(trodAll_cons_mk (shut_bool Tryd.underlying4 _) trodAll_mk0)) (fun sp hsp=>by
   rw[Tryd.params9]
   exact vD (by kernel_rfl) hg (fun t ht=>by
    have ht:t=29∨t=3∨t=4:=by simpa using ht
    rcases ht with rfl | rfl | rfl <;> exact⟨by kernel_rfl,of_decide_eq_true (by kernel_rfl)⟩) hA hlt hsp) (fun _ _=>rfl) (by simp)
  hg (ok_one (by kernel_rfl) rfl (okWide_bool_mk Tryd.underlying4 _))⟩
theorem over:Rows.VlineAnywhereUptoSaid :=
 OpenClaim.holds_of_cond 9 Tryd.f9 rfl rfl rfl rfl rfl rfl rfl ⟨rfl,rfl,rfl,rfl,rfl⟩ rfl rfl rfl rfl rfl (by kernel_rfl) Tryd.func9 (by kernel_rfl)
  (of_decide_eq_true (by kernel_rfl)) (by unfold Func.isWrapper; first | (rw[if_pos (by decide +kernel)]; kernel_rfl) | (rw[if_neg (by decide +kernel)]; exact⟨rfl,rfl⟩))
  (fun os started H enc _ F=>by rw[OpenClaim.pre_eq_preRow]; exact lifted os started H enc F)
theorem proved:Rows.VlineAnywhereUptoCardSaid :=
 Claim7.holds_tied_plain_at .later [] _ _ _ _
  over (fun _ h=>by cases h) (by kernel_rfl) (fun _ h=>by cases h) vlineAnywhereUpto_row_tie rfl ⟨rfl,rfl⟩ (by kernel_rfl) rfl
  (fun f fn hf hfn=>by
   obtain rfl:f=9:=Option.some.inj ((show Tryd.prog.funcNamed "rolodex/rolodexlaw23.VlineAnywhere" = some 9 by kernel_rfl).symm.trans hf) |>.symm
   obtain rfl:fn=Tryd.f9:=(Option.some.inj (Tryd.func9.symm.trans hfn)).symm
   exact⟨by kernel_rfl,fun j t ht=>by
    rw[Tryd.params9] at ht
    have hm:=Array.mem_of_getElem? ht
    have hm:t=29∨t=3∨t=4:=by simpa using hm
    rcases hm with rfl | rfl | rfl
    ·exact(by kernel_rfl:Tryd.prog.wantsStandIn 29=false)
    ·exact(by kernel_rfl:Tryd.prog.wantsStandIn 3=false)
    ·exact(by kernel_rfl:Tryd.prog.wantsStandIn 4=false)⟩)
  (by kernel_rfl)
end Go.Proofs.YtmilkhdicmkmbaaDoor.vlineAnywhere
