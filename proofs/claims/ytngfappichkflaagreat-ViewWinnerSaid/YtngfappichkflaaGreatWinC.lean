import Derived.Test.YtngfappichkflaaGreatWWin
import Derived.Test.YtngfappichkflaaGreatR15
set_option linter.unusedVariables false
set_option linter.unusedSimpArgs false
namespace Go.Ab.Win
open Go Go.Ab

/-- A dot's cells. -/
structure Dt where
  d : Int
  n : Int
  deriving DecidableEq
abbrev Dt.cells (x : Dt) : List AV := [N .i64 x.d, N .u64 x.n]
def Dt.less (x y : Dt) : Bool := decide (x.n < y.n) || (decide (x.n = y.n) && decide (x.d < y.d))
def DtE : Enc Dt := ⟨2, Dt.cells, fun _ => rfl, fun _ => rfl⟩

structure En where
  dot : Dt
  c : List UInt8
  f : List UInt8
  v : List UInt8
  deriving DecidableEq
abbrev En.cells (x : En) : List AV := [N .i64 x.dot.d, N .u64 x.dot.n, St x.c, St x.f, St x.v]
def EnE : Enc En := ⟨5, En.cells, fun _ => rfl, fun _ => rfl⟩

def LessC (c : CallT) : Prop := ∀ {M : RM} {x y : Dt} {Q : PostV}, (∀ M', Keep [] M M' → Q (Bo (x.less y)) M') → c [.agg x.cells, .agg y.cells] M Q

theorem less_spec {T : Nat} : LessC fun args M Q => ∃ a0 a1, args = [a0, a1] ∧ W_rolodex_dot_Less T a0 a1 M Q := by
  intro M x y Q hQ
  refine ⟨_, _, rfl, ?_⟩
  have := hQ _ (((Keep.refl _ _).push (.row x.cells false T 0)).push (.row y.cells false T 0))
  unfold W_rolodex_dot_Less
  by_cases h1 : x.n < y.n
  · simpa [go_sem, Dt.less, h1] using this
  · by_cases h2 : x.n = y.n <;> simpa [go_sem, Dt.less, h1, h2] using this

theorem less13_spec {T : Nat} : LessC fun args M Q => ∃ a0 a1, args = [a0, a1] ∧ W_rolodex_rolodexref13_Less T a0 a1 M Q := by
  intro M x y Q hQ
  refine ⟨_, _, rfl, ?_⟩
  have := hQ _ (((Keep.refl _ _).push (.row x.cells false T 0)).push (.row y.cells false T 0))
  unfold W_rolodex_rolodexref13_Less
  by_cases h1 : x.n < y.n
  · simpa [go_sem, Dt.less, h1] using this
  · by_cases h2 : x.n = y.n <;> simpa [go_sem, Dt.less, h1, h2] using this

def best (b : En) : List En → En
  | [] => b
  | x :: xs => best (if b.dot.less x.dot then x else b) xs
def winner : List En → En × Bool
  | [] => (⟨⟨0, 0⟩, [], [], []⟩, false)
  | x :: xs => (best x (x :: xs), true)

def WinnerC (c : CallT) : Prop := ∀ {M : RM} {v : AV} {xs : List En} {Q : PostV}, Sl EnE M v xs → xs.length < 9223372036854775807 → (∀ M', Keep [] M M' → Q (.tup [.agg (winner xs).1.cells, Bo (winner xs).2]) M') → c [v] M Q

theorem best_append (b : En) : ∀ (xs ys : List En), best b (xs ++ ys) = best (best b xs) ys
  | [], ys => rfl
  | x :: xs, ys => by simp only [List.cons_append, best]; exact best_append _ xs ys

theorem winner_spec {T : Nat} {c : CallT} (hc : LessC c) : WinnerC fun args M Q => ∃ a0, args = [a0] ∧ W_rolodex_view_Winner T c a0 M Q := by
  intro M v xs Q h hn hQ
  refine ⟨_, rfl, ?_⟩
  unfold W_rolodex_view_Winner
  rw [newW_eq]
  simp only [SlR.len h, go_sem]
  refine ⟨fun h0 => ?_, fun h0 => ?_⟩
  · have : xs = [] := by cases xs with | nil => rfl | cons => simp at h0; omega
    subst this
    simpa [go_sem, fillL, winner, En.cells] using hQ _ ((Keep.refl _ _).push (.row [N .i64 0, N .u64 0, St [], St [], St []] false T 0))
  · cases xs with
    | nil => simp at h0
    | cons x xs =>
    obtain ⟨b, o, hb, hbm, hidx, hld⟩ := Sl.at h 5 0 (i := 0) (by simp)
    rw [hidx]
    simp only [go_sem, hld, Nat.ne_of_lt hb, List.getElem_cons_zero, EnE, En.cells]
    have hk0 := ((Keep.refl [] M).push (.row [N .i64 0, N .u64 0, St [], St [], St []] false T 0)).push (.row x.cells false T 0)
    refine loopW_inv (fun m ys M3 => ∃ (k : Nat) (b : En), m = (x :: xs).length - k ∧ ys = [N .i64 k] ∧ k ≤ (x :: xs).length ∧ Keep [] M M3 ∧ M.next + 2 ≤ M3.next ∧
      M3.heap M.next = some (.row [N .i64 0, N .u64 0, St [], St [], St []] false T 0) ∧ M3.heap (M.next + 1) = some (.row b.cells false T 0) ∧ best x ((x :: xs).take k) = b) _
      ⟨0, x, rfl, rfl, Nat.zero_le _, hk0, by simp [go_sem], by simp [go_sem], by simp [go_sem], rfl⟩ ?_
    rintro m ys M3 ⟨k, b, rfl, rfl, hk, hkeep, hnx, hz, hb4, hbest⟩
    simp only [go_sem]
    refine ⟨fun hlt => ?_, fun hge => ?_⟩
    · have hlt : k < (x :: xs).length := by simp at hlt; simp; omega
      obtain ⟨b', o', hb', hbm', hidx', hld'⟩ := Sl.at (SlR.keep h hkeep (by simp)) 5 k (i := k) hlt
      rw [hidx']
      have l4 := RM.loads_of hb4
      have n4 : M.next + 1 ≠ M3.next := by omega
      have n2 : M.next ≠ M3.next := by omega
      have hlen : (x :: xs).length = xs.length + 1 := rfl
      simp only [go_sem, hld', EnE, En.cells, l4, n4, Nat.reduceAdd, Nat.reduceLeDiff]
      generalize he : (x :: xs)[k] = y
      refine hc (x := b.dot) (y := y.dot) fun M4 hk4 => ?_
      have hb4' := hk4.heap_of (b := M.next + 1) (by simp only [go_sem, n4]; exact hb4) (by simp [go_sem]; omega) (by simp)
      have hz' := hk4.heap_of (b := M.next) (by simp only [go_sem, n2]; exact hz) (by simp [go_sem]; omega) (by simp)
      have h5' := hk4.heap_of (b := M3.next) (by simp only [go_sem]; rfl) (by simp [go_sem]) (by simp)
      have hnx' := hk4.next
      have hkk : Keep [] M M4 := (hkeep.push _).trans hk4
      have hb' : best x ((x :: xs).take (k + 1)) = if b.dot.less y.dot then y else b := by
        rw [List.take_succ_eq_append_getElem hlt, best_append, hbest, he]; rfl
      simp only [go_sem] at hnx'
      simp only [go_sem, RM.loads_of h5', RM.stores_of hb4', Nat.reduceAdd, Nat.reduceLeDiff, i64_succ (show k < 9223372036854775807 by omega)]
      refine ⟨fun hl => ⟨_, by omega, k + 1, y, rfl, rfl, by omega, hkk.put _ (.inl (by omega)), by omega, ?_, ?_, by rw [hb', if_pos hl]⟩,
        fun hl => ⟨_, by omega, k + 1, b, rfl, rfl, by omega, hkk, by omega, hz', hb4', by rw [hb', if_neg (by simp [hl])]⟩⟩
      · rw [if_neg (by omega)]; exact hz'
      · rfl
    · have hge : k = (x :: xs).length := by simp at hge; simp at hk ⊢; omega
      subst hge
      rw [List.take_length] at hbest
      have n2 : M.next ≠ M.next + 1 := by omega
      simp only [go_sem, RM.loads_of hb4, RM.stores_of hz, Nat.reduceAdd, Nat.reduceLeDiff]
      have := hQ _ (hkeep.put (.row b.cells false T 0) (b := M.next) (.inl (by omega)))
      simpa [winner, hbest] using this

theorem ite_dt (x y : Dt) : (if x.d = y.d then if x.n = y.n then some true else some false else some false) = some (decide (x = y)) := by
  obtain ⟨a, b⟩ := x
  obtain ⟨c, d⟩ := y
  by_cases h1 : a = c <;> by_cases h2 : b = d <;> simp [h1, h2]
theorem ite_en (x y : En) : (if x.dot.d = y.dot.d then if x.dot.n = y.dot.n then if x.c = y.c then if x.f = y.f then if x.v = y.v then some true else some false else some false else some false else some false else some false) = some (decide (x = y)) := by
  obtain ⟨⟨a, b⟩, c, d, e⟩ := x
  obtain ⟨⟨a', b'⟩, c', d', e'⟩ := y
  by_cases h1 : a = a' <;> by_cases h2 : b = b' <;> by_cases h3 : c = c' <;> by_cases h4 : d = d' <;> by_cases h5 : e = e' <;> simp [h1, h2, h3, h4, h5]

/-! ### the winner is the first one of the greatest dot -/
def Max (l : List En) (w : En) : Prop := ∀ y ∈ l, w.dot.less y.dot = false
def First (l : List En) (w : En) : Prop := ∃ j, l[j]? = some w ∧ ∀ (i : Nat) (y : En), i < j → l[i]? = some y → y.dot ≠ w.dot

theorem less_irrefl (x : Dt) : x.less x = false := by simp [Dt.less]
theorem less_trans {x y z : Dt} (h : x.less y = true) (k : y.less z = true) : x.less z = true := by
  simp [Dt.less] at h k ⊢; omega
theorem less_cases {x y : Dt} (h : x.less y = false) : x = y ∨ y.less x = true := by
  obtain ⟨a, b⟩ := x
  obtain ⟨c, d⟩ := y
  simp [Dt.less] at h ⊢; omega

theorem best_spec : ∀ (ys done : List En) (b : En), Max done b → First done b → Max (done ++ ys) (best b ys) ∧ First (done ++ ys) (best b ys)
  | [], done, b, h, k => by simpa [best] using ⟨h, k⟩
  | y :: ys, done, b, h, k => by
    have e : done ++ y :: ys = (done ++ [y]) ++ ys := by simp
    rw [e]
    simp only [best]
    refine best_spec ys _ _ ?_ ?_
    · intro z hz
      rcases List.mem_append.1 hz with hz | hz
      · by_cases hl : b.dot.less y.dot = true
        · rw [if_pos hl]
          cases hyz : y.dot.less z.dot with
          | false => rfl
          | true => rw [← h z hz, less_trans hl hyz]
        · rw [if_neg hl]; exact h z hz
      · simp at hz; subst hz
        by_cases hl : b.dot.less z.dot = true
        · rw [if_pos hl]; exact less_irrefl _
        · rw [if_neg hl]; simpa using hl
    · obtain ⟨j, hj, hf⟩ := k
      by_cases hl : b.dot.less y.dot = true
      · rw [if_pos hl]
        refine ⟨done.length, by simp, fun i z hi hz => ?_⟩
        rw [List.getElem?_append_left hi] at hz
        intro e2
        have := h z (List.mem_of_getElem? hz)
        rw [e2, hl] at this; cases this
      · rw [if_neg hl]
        have hjl : j < done.length := (List.getElem?_eq_some_iff.1 hj).1
        exact ⟨j, by rw [List.getElem?_append_left hjl]; exact hj, fun i z hi hz => hf i z hi (by rwa [List.getElem?_append_left (by omega)] at hz)⟩

theorem winner_max (x : En) (xs : List En) : Max (x :: xs) (winner (x :: xs)).1 ∧ First (x :: xs) (winner (x :: xs)).1 := by
  have : (winner (x :: xs)).1 = best x xs := by simp [winner, best, less_irrefl]
  rw [this]
  exact best_spec xs [x] x (by intro y hy; simp at hy; subst hy; exact less_irrefl _) ⟨0, rfl, by omega⟩

def AwakeC (B : Base) (c : CallT) : Prop := ∀ {M : RM} {Q : PostV}, M.base = B → Q (Bo true) M → c [] M Q

theorem law_spec {T : Nat} {M : RM} {ca cw cl : CallT} (ha : AwakeC M.base ca) (hw : WinnerC cw) (hl : LessC cl) {v : AV} {xs : List En} {Q : PostV} (h : Sl EnE M v xs) (hn : xs.length * 64 ≤ reachBytes) (hQ : ∀ M', Q (Bo true) M') :
    W_rolodex_rolodexlaw15_ViewWinner ca T cw cl v M Q := by
  unfold W_rolodex_rolodexlaw15_ViewWinner
  simp only [fuseM, fuseK]
  have hn' : xs.length * 64 ≤ 140737488351232 := hn
  refine ha rfl ?_
  simp only [go_sem, Bool.not_true, Bool.false_eq_true, false_implies, forall_const, true_implies]
  have k1 := (Keep.refl [] M).push (.row [] false T 0)
  refine app_all (E := EnE) (Ow.lit EnE M) k1.next (by decide) (SlR.keep h k1 (by simp)) (by simp; omega) (by simp; omega) fun v2 M2 h2 k2 _ _ => ?_
  have k2' : Keep [] M M2 := k1.then_new k2 fun c hc => .inl (by simp [blkOf] at hc; omega)
  rw [List.nil_append] at h2
  refine hw h2.slR (by omega) fun M3 k3 => ?_
  have k3' := k2'.trans k3
  have hv := (h.keep k3' (by simp))
  cases xs with
  | nil =>
    simp only [go_sem, SlR.len h, winner, En.cells]
    simp [go_sem, fillL]
    exact hQ _
  | cons x xs =>
    obtain ⟨hmax, j, hj, hfirst⟩ := winner_max x xs
    have hw2 : (winner (x :: xs)).2 = true := rfl
    generalize hwn : (winner (x :: xs)).1 = w at *
    have hlen : (x :: xs).length = xs.length + 1 := rfl
    generalize hl0 : x :: xs = l at *
    clear hwn
    have hne : ((l.length : Int) == 0) = false := by rw [hlen]; simp; omega
    simp only [go_sem, SlR.len h, En.cells, hw2, hne, Bool.false_eq_true, false_implies, Int.reduceNeg]
    have hjl : j < l.length := (List.getElem?_eq_some_iff.1 hj).1
    refine loopW_ind (fun m ys M4 => ∃ (i : Nat) (at_ : Int), m = l.length - i ∧ ys = [N .i64 at_, N .i64 i] ∧ i ≤ l.length ∧ Keep [] M M4 ∧ M3.next < M4.next ∧ M4.heap M3.next = some (.row w.cells false T 0) ∧
      ((at_ = -1 ∧ i ≤ j) ∨ (at_ = j ∧ j < i))) _ ⟨0, -1, rfl, rfl, Nat.zero_le _, k3'.push (.row w.cells false T 0), by simp [go_sem], by simp [go_sem], .inl ⟨rfl, Nat.zero_le _⟩⟩ ?_
    rintro next m ys M4 hnext ⟨i, at_, rfl, rfl, hi, k4, hnx, hw4, hat⟩
    have hv4 := h.keep k4 (by simp)
    simp only [go_sem]
    refine ⟨fun hlt => ?_, fun hge => ?_⟩
    · have hlt : i < l.length := by simpa using hlt
      obtain ⟨b', o', hb', hbm', hidx', hld'⟩ := Sl.at hv4 5 i (i := i) hlt
      generalize he : l[i] = y at *
      have hgy : l[i]? = some y := by rw [List.getElem?_eq_getElem hlt, he]
      simp only [go_sem, hidx', RM.loads_of hw4, loads_head hld' 2 (by decide), EnE, En.cells, Nat.reduceAdd, Nat.reduceLeDiff]
      refine hl (x := w.dot) (y := y.dot) fun M5 k5 => ?_
      rw [hmax y (List.mem_of_getElem? hgy)]
      have hw5 := k5.heap_of hw4 hnx (by simp)
      have k5' := k4.trans k5
      have hld5 : M5.loads b' o' 5 = some (EnE.cells y) := by rw [k5.loads hb' (by simp)]; exact hld'
      have hnx5 := k5.next
      rcases hat with ⟨rfl, hij⟩ | ⟨rfl, hij⟩
      · simp only [go_sem, Int.reduceNeg, Int.reduceLT, decide_true, hidx', loads_head hld5 2 (by decide), EnE, En.cells, RM.loads_of hw5, Nat.reduceAdd, Nat.reduceLeDiff]
        simp only [ite_dt, go_sem, i64_succ (show i < 9223372036854775807 by omega)]
        simp
        refine ⟨fun e => hnext _ _ _ ?_ ⟨i + 1, i, rfl, rfl, by omega, k5', by omega, hw5, .inr ?_⟩, fun e => hnext _ _ _ ?_ ⟨i + 1, -1, rfl, rfl, by omega, k5', by omega, hw5, .inl ⟨rfl, ?_⟩⟩⟩
        · omega
        · rcases Nat.lt_or_ge i j with hlt' | hge'
          · exact absurd e (fun e => hfirst i y hlt' hgy e)
          · have : i = j := by omega
            omega
        · omega
        · rcases Nat.lt_or_ge i j with hlt' | hge'
          · omega
          · have : i = j := by omega
            subst this
            rw [hj] at hgy; cases hgy
            exact absurd rfl e
      · have hjn : ¬ ((j : Int) < 0) := by omega
        simp only [go_sem, hjn, decide_false, i64_succ (show i < 9223372036854775807 by omega)]
        exact hnext _ _ _ (by omega) ⟨i + 1, j, rfl, rfl, by omega, k5', by omega, hw5, .inr ⟨rfl, by omega⟩⟩
    · have : i = l.length := by simp at hge; omega
      subst this
      rcases hat with ⟨rfl, hij⟩ | ⟨rfl, hij⟩
      · omega
      · obtain ⟨b', o', hb', hbm', hidx', hld'⟩ := Sl.at hv4 5 j (i := j) hjl
        have hjw : l[j] = w := by rw [List.getElem?_eq_getElem hjl] at hj; exact Option.some.inj hj
        have hjn : (j : Int) ≥ 0 := by omega
        rw [hjw] at hld'
        simp only [go_sem, hjn, decide_true, hidx', hld', RM.loads_of hw4, EnE, En.cells, Nat.reduceAdd, Nat.reduceLeDiff]
        simp
        exact hQ _
end Go.Ab.Win
