/- Part 9 of the ground of the proofs of this seat (texts TeTie to TeTie). By an AI agent. -/
import Derived.Test.YtcoihknokhdbkaaGreatDoorRows
import Derived.LaidByTextLater
import Derived.SevenTiedAt
namespace Go.Proofs.YtcoihknokhdbkaaGreatDoor.ties
open Go
abbrev ls:List (String×DataW Unit):=[("unicode/utf8.acceptRanges",Rows.laid_unicode_utf8_acceptRanges),("internal/strconv.uint64pow10",Rows.laid_internal_strconv_uint64pow10),("math/bits.deBruijn32tab",Rows.laid_math_bits_deBruijn32tab),("math/bits.deBruijn64tab",Rows.laid_math_bits_deBruijn64tab),("strconv.ErrSyntax",Rows.laid_strconv_ErrSyntax),("strconv.ErrRange",Rows.laid_strconv_ErrRange)]
theorem hg:Tryz.prog.funcNamed "gosem.cut.vars" = some 714:=by kernel_rfl
theorem hw:Tryz.prog.worded (varsWordLater true)=true:=by kernel_rfl
theorem hw' : Tryz.prog.worded (varsWordLater !true)=false:=by kernel_rfl
theorem hroot:Tryz.prog.worded rootWordLater=true:=by kernel_rfl
theorem hk:ls.map (fun x=>Tryz.prog.kindOfLater x.1)=[LaidKind.data,.data,.data,.data,.sentinel,.sentinel].map some:=by kernel_rfl
theorem hn:varsNamedLaterB Tryz.prog 714 ls=true:=by kernel_rfl
theorem hd(os:Os)(tape:Tape):varsDone Tryz.prog 400 714 os tape=true:=by kernel_rfl
theorem h1(os:Os)(tape:Tape):(DataW.laidRun Tryz.prog (varsWorld Tryz.prog 400 714 os tape).memory 8 (ls.map (·.1))).map (·.1)=some ls:=by kernel_rfl
theorem h2(os:Os)(tape:Tape):(DataW.laidRun Tryz.prog (varsWorld Tryz.prog 400 714 os tape).memory 8 (ls.map (·.1))).map (fun x=>decide x.2.Nodup&&laidRowsB Tryz.prog (varsWorld Tryz.prog 400 714 os tape).memory x.2)=some true:=by kernel_rfl
theorem tie:Tryz.prog.laidByTextLater ls [.data,.data,.data,.data,.sentinel,.sentinel] true :=
 Program.laidByTextLater_of_run 714 400 8 hw hw' hroot hk hg hn hd h1 h2 (by kernel_rfl)
theorem pin:Tryz.pinned.checked.prog.pinnedFits "unicode/utf8.first" = true:=by kernel_rfl
theorem ash:Tryz.pinned.checked.prog.headLifts.contains "ownunsafe" = false:=by kernel_rfl
theorem fits1:Tryz.pinned.checked.prog.listedFits (("unicode/utf8.first",Rows.laid_unicode_utf8_first)::ls)=true:=by
 unfold Program.listedFits
 rw[ash]
 kernel_rfl
theorem alL:Rows.topEvictedRow.laidByTextAt .later Tryz.pinned [.pinned,.data,.data,.data,.data,.sentinel,.sentinel] true :=
 OpenClaim.laidByTextAt_pinned rfl rfl tie rfl rfl rfl rfl (fun y hy _e=>by
  simp only[Rows.topEvictedRow,List.zip_cons_cons,List.zip_nil_right,List.mem_cons,List.mem_nil_iff,or_false]at hy
  rcases hy with rfl|rfl|rfl|rfl|rfl|rfl|rfl
  ·exact⟨pin,by kernel_rfl⟩
  ·cases _e
  ·cases _e
  ·cases _e
  ·cases _e
  ·cases _e
  ·cases _e) fits1
end Go.Proofs.YtcoihknokhdbkaaGreatDoor.ties
