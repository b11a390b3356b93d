/- What abstract values and memory say of concrete ones. By an AI agent. -/
import Derived.Test.YtmilkhdicmkmbaaDoorAb1
import Derived.Laws.AppendOwn
set_option linter.unusedVariables false
set_option linter.unusedSimpArgs false
namespace Go.Ab
open Go

theorem beq_dec (a b : Nat) : Nat.beq a b = decide (a = b) := by
  cases hb : Nat.beq a b
  · simp [Nat.ne_of_beq_eq_false hb]
  · simp [Nat.eq_of_beq_eq_true hb]

theorem Tree.get_put {α : Type} : ∀ (f : Nat) (t : Tree α) (n : Nat) (x : Option α) (m : Nat), n + 1 < 2 ^ f →
    (Tree.put f t n x).get m = if m = n then x else t.get m := by
  intro f
  induction f with
  | zero => intro t n x m h; simp at h
  | succ f ih =>
    intro t n x m h
    rw [Nat.pow_succ] at h
    cases t with
    | leaf =>
      simp only [Tree.put, beq_dec]
      by_cases h0 : n = 0
      · subst h0
        by_cases hm : m = 0
        · subst hm; simp [Tree.get]
        · simp only [decide_true, Tree.get, beq_dec, hm, decide_false, if_false]; split <;> rfl
      · simp only [h0, decide_false]
        by_cases h1 : n % 2 = 1
        · simp only [h1, decide_true, Tree.get, beq_dec]
          by_cases hm : m = 0
          · subst hm; simp; omega
          · simp only [hm, decide_false]
            by_cases h2 : m % 2 = 1
            · simp only [h2, decide_true]
              rw [ih _ _ _ _ (by omega)]
              simp only [Tree.get]
              by_cases e : m = n
              · subst e; simp
              · rw [if_neg e, if_neg (by omega)]
            · simp only [h2, decide_false]; rw [if_neg (by omega)]
        · simp only [h1, decide_false, Tree.get, beq_dec]
          by_cases hm : m = 0
          · subst hm; simp; omega
          · simp only [hm, decide_false]
            by_cases h2 : m % 2 = 1
            · simp only [h2, decide_true]; rw [if_neg (by omega)]
            · simp only [h2, decide_false]
              rw [ih _ _ _ _ (by omega)]
              simp only [Tree.get]
              by_cases e : m = n
              · subst e; simp
              · rw [if_neg e, if_neg (by omega)]
    | node l v r =>
      simp only [Tree.put, beq_dec]
      by_cases h0 : n = 0
      · subst h0
        by_cases hm : m = 0
        · subst hm; simp [Tree.get]
        · simp only [decide_true, Tree.get, beq_dec, hm, decide_false, if_false]
      · simp only [h0, decide_false]
        by_cases h1 : n % 2 = 1
        · simp only [h1, decide_true, Tree.get, beq_dec]
          by_cases hm : m = 0
          · subst hm; simp; omega
          · simp only [hm, decide_false]
            by_cases h2 : m % 2 = 1
            · simp only [h2, decide_true]
              rw [ih _ _ _ _ (by omega)]
              by_cases e : m = n
              · subst e; simp
              · rw [if_neg e, if_neg (by omega)]
            · simp only [h2, decide_false]; rw [if_neg (by omega)]
        · simp only [h1, decide_false, Tree.get, beq_dec]
          by_cases hm : m = 0
          · subst hm; simp; omega
          · simp only [hm, decide_false]
            by_cases h2 : m % 2 = 1
            · simp only [h2, decide_true]; rw [if_neg (by omega)]
            · simp only [h2, decide_false]
              rw [ih _ _ _ _ (by omega)]
              by_cases e : m = n
              · subst e; simp
              · rw [if_neg e, if_neg (by omega)]

theorem Tree.get_set {α : Type} (t : Tree α) (n : Nat) (x : α) (m : Nat) : (t.set n x).get m = if m = n then some x else t.get m :=
  Tree.get_put _ _ _ _ _ Nat.lt_two_pow_self
theorem Tree.get_del {α : Type} (t : Tree α) (n : Nat) (m : Nat) : (t.del n).get m = if m = n then none else t.get m :=
  Tree.get_put _ _ _ _ _ Nat.lt_two_pow_self
theorem Tree.get_ofList {α : Type} : ∀ (l : List α) (o : Nat) (t : Tree α) (m : Nat), (Tree.ofList l o t).get m = if o ≤ m ∧ m < o + l.length then l[m - o]? else t.get m
  | [], o, t, m => by rw [if_neg]; rfl; simp only [List.length_nil]; omega
  | x :: l, o, t, m => by
    simp only [Tree.ofList, Tree.get_ofList l (o + 1) (t.set o x) m, Tree.get_set, List.length_cons]
    by_cases e : m = o
    · subst e; rw [if_neg (by omega), if_pos rfl, if_pos (by omega)]; simp
    · rw [if_neg e]
      by_cases h : o + 1 ≤ m ∧ m < o + 1 + l.length
      · rw [if_pos h, if_pos (by omega), show m - o = (m - (o + 1)) + 1 by omega]; simp
      · rw [if_neg h, if_neg (by omega)]

/-! ### renamings, and what values say -/
/-- Where an abstract block lies: the block, the place of its first cell there, how many elements there is room for from there on (of an open one), how many cells an element has. -/
structure Info where
  cb : Nat
  sh : Nat
  capN : Nat
  esz : Nat

abbrev Ren := Nat → Option Info

def fnPlain : Fn → Bool
  | .yield _ => false
  | _ => true

mutual
inductive VRel (ρ : Ren) : AV → Value → Prop
  | top (v : Value) : VRel ρ .top v
  | atl (k : Nat) (c : Nat) : k ≤ c → VRel ρ (.atl k) (.int .i64 c)
  | sc (v : Value) : plain v = true → VRel ρ (.sc v) v
  | ptr (b o : Nat) (i : Info) : ρ b = some i → VRel ρ (.ptr b o) (.pointer (some ⟨i.cb, i.sh + o, none⟩))
  | slcS (b o len c : Nat) (i : Info) : ρ b = some i → VRel ρ (.slc b o len (.ex c)) (.slice (some ⟨i.cb, i.sh + o, none⟩) len c)
  | slcO (b k len : Nat) (i : Info) : ρ b = some i → k + len ≤ i.capN → VRel ρ (.slc b (k * i.esz) len (.op i.esz)) (.slice (some ⟨i.cb, i.sh + k * i.esz, none⟩) len (i.capN - k))
  | emp (b : Nat) (a : Addr) (c : Nat) : VRel ρ (.emp b) (.slice (some a) 0 c)
  | map (b : Nat) (i : Info) : ρ b = some i → VRel ρ (.map b) (.map (some i.cb))
  | fn (f : Fn) (xs ys : List AV) (us vs : List Value) : fnPlain f = true → LRel ρ xs us → LRel ρ ys vs → VRel ρ (.fn f xs ys) (.func f ⟨us⟩ ⟨vs⟩)
  | ifc (t : TypeId) (x : AV) (v : Value) : VRel ρ x v → VRel ρ (.ifc t x) (.iface t v)
  | agg (xs : List AV) (vs : List Value) : LRel ρ xs vs → VRel ρ (.agg xs) (.agg ⟨vs⟩)
  | tup (xs : List AV) (vs : List Value) : LRel ρ xs vs → VRel ρ (.tup xs) (.tuple ⟨vs⟩)
inductive LRel (ρ : Ren) : List AV → List Value → Prop
  | nil : LRel ρ [] []
  | cons (x : AV) (v : Value) (xs : List AV) (vs : List Value) : VRel ρ x v → LRel ρ xs vs → LRel ρ (x :: xs) (v :: vs)
end

/-- A renaming that says no less. -/
def Ren.le (ρ ρ' : Ren) : Prop := ∀ b i, ρ b = some i → ρ' b = some i

mutual
theorem VRel.mono {ρ ρ' : Ren} (h : ρ.le ρ') : ∀ {x : AV} {v : Value}, VRel ρ x v → VRel ρ' x v
  | _, _, .top v => .top v
  | _, _, .atl k c p => .atl k c p
  | _, _, .sc v p => .sc v p
  | _, _, .ptr b o i e => .ptr b o i (h _ _ e)
  | _, _, .slcS b o l c i e => .slcS b o l c i (h _ _ e)
  | _, _, .slcO b k l i e q => .slcO b k l i (h _ _ e) q
  | _, _, .emp b a c => .emp b a c
  | _, _, .map b i e => .map b i (h _ _ e)
  | _, _, .fn f xs ys us vs p a b => .fn f xs ys us vs p (LRel.mono h a) (LRel.mono h b)
  | _, _, .ifc t x v a => .ifc t x v (VRel.mono h a)
  | _, _, .agg xs vs a => .agg xs vs (LRel.mono h a)
  | _, _, .tup xs vs a => .tup xs vs (LRel.mono h a)
theorem LRel.mono {ρ ρ' : Ren} (h : ρ.le ρ') : ∀ {xs : List AV} {vs : List Value}, LRel ρ xs vs → LRel ρ' xs vs
  | _, _, .nil => .nil
  | _, _, .cons x v xs vs a b => .cons x v xs vs (VRel.mono h a) (LRel.mono h b)
end

theorem LRel.length {ρ : Ren} : ∀ {xs : List AV} {vs : List Value}, LRel ρ xs vs → xs.length = vs.length
  | _, _, .nil => rfl
  | _, _, .cons _ _ _ _ _ b => by simp [LRel.length b]
theorem LRel.append {ρ : Ren} : ∀ {xs : List AV} {vs : List Value} {ys : List AV} {us : List Value}, LRel ρ xs vs → LRel ρ ys us → LRel ρ (xs ++ ys) (vs ++ us)
  | _, _, _, _, .nil, k => k
  | _, _, _, _, .cons x v xs vs a b, k => .cons x v _ _ a (LRel.append b k)
theorem LRel.take {ρ : Ren} : ∀ (n : Nat) {xs : List AV} {vs : List Value}, LRel ρ xs vs → LRel ρ (xs.take n) (vs.take n)
  | 0, _, _, _ => by simpa using .nil
  | _ + 1, _, _, .nil => by simpa using .nil
  | n + 1, _, _, .cons x v xs vs a b => by simpa using .cons x v _ _ a (LRel.take n b)
theorem LRel.drop {ρ : Ren} : ∀ (n : Nat) {xs : List AV} {vs : List Value}, LRel ρ xs vs → LRel ρ (xs.drop n) (vs.drop n)
  | 0, _, _, h => by simpa using h
  | _ + 1, _, _, .nil => by simpa using .nil
  | n + 1, _, _, .cons x v xs vs a b => by simpa using LRel.drop n b
theorem nth_getElem {β : Type} : ∀ (l : List β) (n : Nat), nth l n = l[n]?
  | [], _ => by simp [nth]
  | _ :: _, 0 => by simp [nth]
  | _ :: l, n + 1 => by simp [nth, nth_getElem l n]
theorem LRel.get {ρ : Ren} : ∀ {xs : List AV} {vs : List Value}, LRel ρ xs vs → ∀ {n : Nat} {x : AV}, xs[n]? = some x → ∃ v, vs[n]? = some v ∧ VRel ρ x v
  | _, _, .nil, _, _, h => by simp at h
  | _, _, .cons x v xs vs a b, 0, y, h => ⟨v, by simp, by simp at h; exact h ▸ a⟩
  | _, _, .cons x v xs vs a b, n + 1, y, h => by
    obtain ⟨u, h1, h2⟩ := LRel.get b (n := n) (x := y) (by simpa using h)
    exact ⟨u, by simpa using h1, h2⟩
theorem LRel.ofAll {ρ : Ren} {f : Operand → AV} {g : Operand → Value} : ∀ (l : List Operand), (∀ x ∈ l, VRel ρ (f x) (g x)) → LRel ρ (l.map f) (l.map g)
  | [], _ => .nil
  | x :: l, h => .cons _ _ _ _ (h x (.head _)) (LRel.ofAll l fun y hy => h y (.tail _ hy))

theorem oneCell_of {ρ : Ren} {x : AV} {v : Value} (h : VRel ρ x v) (h1 : oneCell x = true) : v.oneCell' = true := by
  cases h with
  | sc v p => cases v <;> simp_all [plain, Value.oneCell']
  | top v => simp [oneCell] at h1
  | agg xs vs a => simp [oneCell] at h1
  | tup xs vs a => simp [oneCell] at h1
  | _ => rfl
theorem VRel.cells {ρ : Ren} {x : AV} {v : Value} (h : VRel ρ x v) (ht : ∀ (_ : x = .top), False) : LRel ρ x.cells v.cells.toList := by
  cases h with
  | top => exact (ht rfl).elim
  | agg xs vs a => exact a
  | sc v p =>
    have : v.cells.toList = [v] := by cases v <;> first | rfl | simp [plain] at p
    rw [this]; exact .cons _ _ _ _ (.sc v p) .nil
  | atl k c p => exact .cons _ _ _ _ (.atl k c p) .nil
  | tup xs vs a => exact .cons _ _ _ _ (.tup xs vs a) .nil
  | ptr b o i e => exact .cons _ _ _ _ (.ptr b o i e) .nil
  | slcS b o l c i e => exact .cons _ _ _ _ (.slcS b o l c i e) .nil
  | slcO b k l i e q => exact .cons _ _ _ _ (.slcO b k l i e q) .nil
  | emp b a c => exact .cons _ _ _ _ (.emp b a c) .nil
  | map b i e => exact .cons _ _ _ _ (.map b i e) .nil
  | fn f xs ys us vs p a b => exact .cons _ _ _ _ (.fn f xs ys us vs p a b) .nil
  | ifc t x v a => exact .cons _ _ _ _ (.ifc t x v a) .nil

/-! ### plain values -/
theorem ofCell_rel (ρ : Ren) {v : Value} {x : AV} (h : ofCell v = some x) : VRel ρ x v := by
  unfold ofCell at h
  split at h
  · rename_i f
    cases f with
    | yield => simp at h
    | _ => simp at h; subst h; exact .fn _ _ _ _ _ rfl .nil .nil
  · rename_i t v
    split at h
    · rename_i hp; cases h; exact .ifc _ _ _ (.sc _ hp)
    · cases h
  · split at h
    · rename_i hp; cases h; exact .sc _ hp
    · cases h

end Go.Ab
