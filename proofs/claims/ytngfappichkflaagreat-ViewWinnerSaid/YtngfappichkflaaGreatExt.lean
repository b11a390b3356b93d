/- View's program: the functions that are met otherwise than by their text; strings.Index by the shelf's contract. By an AI agent. -/
import Derived.Test.YtngfappichkflaaGreatAb19
import Derived.KernelRfl
import Derived.Test.YtngfappichkflaaGreatProg
import Derived.Shelf.LaysM
import Derived.Shelf.Strings.Search2
namespace Go.Proofs
open Go.Shelf
def Tryz.laysM219_ren : Go.Shelf.Ren := ⟨fun | 219 => 90 | 217 => 114 | 225 => 115 | 224 => 116 | 267 => 117 | 266 => 138 | 314 => 139 | n => n, fun | 9 => 9 | 3 => 3 | 4 => 4 | 5 => 5 | 46 => 107 | 146 => 175 | 51 => 135 | n => n, fun | 1 => 0 | n => n⟩
theorem Tryz.laysM219 : Go.Proofs.LaysM.n219 Tryz.prog Tryz.laysM219_ren where
  mixed := by kernel_rfl
  f217 := Tryz.func114.trans (congrArg some (by kernel_rfl))
  f219 := Tryz.func90.trans (congrArg some (by kernel_rfl))
  f224 := Tryz.func116.trans (congrArg some (by kernel_rfl))
  f225 := Tryz.func115.trans (congrArg some (by kernel_rfl))
  f266 := Tryz.func138.trans (congrArg some (by kernel_rfl))
  f267 := Tryz.func117.trans (congrArg some (by kernel_rfl))
  f314 := Tryz.func139.trans (congrArg some (by kernel_rfl))
  t3 := Tryz.underlying3
  a3 := Tryz.isAgg3
  z3 := Tryz.sizeOf3
  v3 := Tryz.zeroValue3
  t4 := Tryz.underlying4
  a4 := Tryz.isAgg4
  z4 := Tryz.sizeOf4
  v4 := Tryz.zeroValue4
  t5 := Tryz.underlying5
  a5 := Tryz.isAgg5
  z5 := Tryz.sizeOf5
  v5 := Tryz.zeroValue5
  t9 := Tryz.underlying9
  a9 := Tryz.isAgg9
  z9 := Tryz.sizeOf9
  v9 := Tryz.zeroValue9
  t46 := Tryz.underlying107
  a46 := Tryz.isAgg107
  z46 := Tryz.sizeOf107
  v46 := Tryz.zeroValue107
  t51 := Tryz.underlying135
  a51 := Tryz.isAgg135
  z51 := Tryz.sizeOf135
  v51 := Tryz.zeroValue135
  t146 := Tryz.underlying175
  a146 := Tryz.isAgg175
  z146 := Tryz.sizeOf175
  v146 := Tryz.zeroValue175
  g1 := by kernel_rfl
  i3 := by kernel_rfl
  i4 := by kernel_rfl
  i5 := by kernel_rfl
  i9 := by kernel_rfl
  i46 := by kernel_rfl
  i51 := by kernel_rfl
  i146 := by kernel_rfl
  m1 := by kernel_rfl
  s1_3 := fun w h => Go.Proofs.cell_of_shapedOpen_int (zero := #[.int .i64 0]) (t := 3) h (of_decide_eq_true (by kernel_rfl)) (by kernel_rfl) rfl (by kernel_rfl) (by kernel_rfl) Tryz.underlying3

theorem Tryz.index_fact (s sub : ByteArray) (m : Int) (w : World) (hs : s.size < 4294967281) (hm : w.cell? ⟨0, 0, none⟩ = some (.int .i64 m)) :
    Calls Tryz.prog 90 #[.string s, .string sub] w fun e w' => e = .returned (.int .i64 (Lib.index s.data.toList sub.data.toList)) ∧ w' = w :=
  Any.stringslite_Index { Tryz.laysM219 with } s sub m w hs hm
theorem Tryz.index_var (w : World) (h : w.ShapedOpen Tryz.prog) : ∃ m, w.cell? ⟨0, 0, none⟩ = some (.int .i64 m) := Tryz.laysM219.s1_3 w h
end Go.Proofs
namespace Go.Proofs.YtngfappichkflaaGreat
open Go Go.Ab Go.RowKit

def ext : Ext := { split := [96], overl := [122], noesc := [] }

theorem xok : XOk Tryz.prog ext where
  ng := names_of (by kernel_rfl)
  overl := by
    intro f hf
    have : f = 122 := by
      unfold ext at hf
      simp only [has] at hf
      split at hf
      · rename_i h; exact (Nat.eq_of_beq_eq_true h).symm
      · cases hf
    subst this
    exact ⟨Tryz.f122, 111, 25, 1, 4, by kernel_rfl, by kernel_rfl, by kernel_rfl, by kernel_rfl, by kernel_rfl, by kernel_rfl⟩
  noesc := fun f hf => by cases hf

theorem mixed : Tryz.prog.follows .mixedOrders = true := by kernel_rfl

/-- What is known of the world: internal/bytealg.MaxLen's cell holds some int. -/
def Iv : World → Prop := fun w => ∃ m, w.cell? ⟨0, 0, none⟩ = some (.int .i64 m)

theorem iv_low (w w1 w2 : World) (hw : Iv w) (h : ∀ c, c < w.heap.size → w2.heap[c]? = w1.heap[c]?) (h1 : Iv w1) : Iv w2 := by
  obtain ⟨m0, hm0⟩ := hw
  obtain ⟨m, hm⟩ := h1
  refine ⟨m, ?_⟩
  have hlt : 0 < w.heap.size := by
    rcases Nat.lt_or_ge 0 w.heap.size with h | h
    · exact h
    · simp [World.cell?, Array.getElem?_eq_none h] at hm0
  simpa [World.cell?, h 0 hlt] using hm

def row (x : List UInt8 × List UInt8 × Int) : Ent := { args := [.sc (.string ⟨⟨x.1⟩⟩), .sc (.string ⟨⟨x.2.1⟩⟩)], ans := .val (.sc (.int .i64 x.2.2)) }

theorem row_ok (x : List UInt8 × List UInt8 × Int) (h : Lib.index x.1 x.2.1 = x.2.2) (hl : x.1.length < 4294967281) : EntOk Tryz.prog Iv 90 (row x) := by
  refine EntOk.val rfl fun w ⟨m, hm⟩ ρ us hus => ?_
  cases hus with
  | cons _ u1 _ us r1 hus =>
  cases hus with
  | cons _ u2 _ us r2 hus =>
  cases hus
  obtain ⟨rfl, _⟩ := sc_inv r1
  obtain ⟨rfl, _⟩ := sc_inv r2
  refine (Tryz.index_fact _ _ m w (by simpa [ByteArray.size] using hl) hm).mono fun e w' hR => ?_
  obtain ⟨rfl, rfl⟩ := hR
  exact ⟨⟨_, rfl, fun ρ => by rw [← h]; exact .sc _ rfl⟩, rfl⟩

def known : List (List UInt8 × List UInt8 × Int) := [([99], [98, 111], -1), ([98, 111, 98], [98, 111], 0), ([99], [97, 110], -1), ([98, 111, 98], [97, 110], -1), ([53], [97, 110], -1), ([97], [], 0), ([98], [], 0)]
def T0 : Table := [(90, known.map row)]
theorem known_ok : (known.all fun x => decide (Lib.index x.1 x.2.1 = x.2.2) && Nat.ble x.1.length 4000) = true := by kernel_rfl
theorem t0 : TabOk Tryz.prog Iv T0 := by
  intro g hg e he
  have hg : g = (90, known.map row) := by simpa [T0] using hg
  subst hg
  obtain ⟨x, hx, rfl⟩ := List.mem_map.1 he
  have := List.all_eq_true.1 known_ok x hx
  rw [Bool.and_eq_true, decide_eq_true_iff] at this
  exact row_ok x this.1 (by have := ble_t this.2; omega)

end Go.Proofs.YtngfappichkflaaGreat
