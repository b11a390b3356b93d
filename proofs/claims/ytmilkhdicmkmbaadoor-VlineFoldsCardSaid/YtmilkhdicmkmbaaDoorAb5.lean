/- Operations that only reckon are sound. By an AI agent. -/
import Derived.Test.YtmilkhdicmkmbaaDoorAb4
set_option linter.unusedVariables false
set_option linter.unusedSimpArgs false
namespace Go.Ab
open Go Go.RowKit

section
variable {P : Program} {ρ : Ren}

theorem mapO_some {β γ : Type} {f : β → Option γ} : ∀ {l : List β} {r : List γ}, mapO f l = some r → ∀ x ∈ l, ∃ y, f x = some y
  | [], _, _ => by simp
  | a :: l, r, h => by
    simp only [mapO] at h
    split at h
    · rename_i y hy
      split at h
      · rename_i ys hys
        intro x hx
        rcases List.mem_cons.1 hx with e | hx
        · exact ⟨y, by rw [e]; exact hy⟩
        · exact mapO_some hys x hx
      · cases h
    · cases h

theorem ofCells_rel : ∀ {l : List Value} {r : List AV}, mapO ofCell l = some r → LRel ρ r l
  | [], r, h => by simp [mapO] at h; subst h; exact .nil
  | a :: l, r, h => by
    simp only [mapO] at h
    split at h
    · rename_i y hy
      split at h
      · rename_i ys hys
        cases h
        exact .cons _ _ _ _ (ofCell_rel ρ hy) (ofCells_rel hys)
      · cases h
    · cases h

theorem ofVal_rel {v : Value} {x : AV} (h : ofVal v = some x) : VRel ρ x v := by
  unfold ofVal at h
  split at h
  · split at h
    · rename_i hl; cases h; exact .agg _ _ (ofCells_rel hl)
    · cases h
  · split at h
    · rename_i hl; cases h; exact .tup _ _ (ofCells_rel hl)
    · cases h
  · exact ofCell_rel ρ h

theorem sc_inv {v u : Value} (h : VRel ρ (.sc v) u) : u = v ∧ plain v = true := by cases h; exact ⟨rfl, ‹_›⟩
theorem LRel.nil_inv {u : List Value} (h : LRel ρ [] u) : u = [] := by cases h; rfl

theorem toCell_rel {x : AV} {u v : Value} (h : VRel ρ x v) (hu : toCell x = some u) : v = u := by
  unfold toCell at hu
  split at hu
  · cases hu; exact (sc_inv h).1
  · cases hu
    cases h with
    | fn f xs ys us vs p a b => rw [a.nil_inv, b.nil_inv]
  · cases hu
    cases h with
    | ifc t x v a => rw [(sc_inv a).1]
  · cases hu

theorem toCells_rel : ∀ {xs : List AV} {us vs : List Value}, LRel ρ xs vs → mapO toCell xs = some us → vs = us
  | [], us, _, h, hu => by simp [mapO] at hu; subst hu; exact h.nil_inv
  | x :: xs, us, _, .cons _ v _ vs a b, hu => by
    simp only [mapO] at hu
    split at hu
    · rename_i y hy
      split at hu
      · rename_i ys hys
        cases hu
        rw [toCell_rel a hy, toCells_rel b hys]
      · cases hu
    · cases hu

theorem toVal_rel {x : AV} {u v : Value} (h : VRel ρ x v) (hu : toVal x = some u) : v = u := by
  unfold toVal at hu
  split at hu
  · split at hu
    · rename_i hl; cases hu
      cases h with
      | agg xs vs a => rw [toCells_rel a hl]
    · cases hu
  · split at hu
    · rename_i hl; cases hu
      cases h with
      | tup xs vs a => rw [toCells_rel a hl]
    · cases hu
  · exact toCell_rel h hu

theorem pureRun_run {β : Type} : ∀ {s : Sem β} {a : β}, pureRun P s = some a → ∀ w, s.run P w = .ok a w
  | .pure b, a, h, w => by simp [pureRun] at h; subst h; rfl
  | .program k, a, h, w => by
    simp only [pureRun] at h
    exact pureRun_run h w
  | .mark m k, a, h, w => by
    simp only [pureRun] at h
    exact pureRun_run h w
  | .load .., a, h, _ | .store .., a, h, _ | .new .., a, h, _ | .shape .., a, h, _ | .freeze .., a, h, _ | .frozen .., a, h, _ | .getObj .., a, h, _
  | .setObj .., a, h, _ | .choose .., a, h, _ | .sys .., a, h, _ | .halt .., a, h, _ => by simp [pureRun] at h

/-- The operation gives a value like 'v', whatever the world. -/
def Gives (P : Program) (ρ : Ren) (o : Oper) (c : Operand → Value) (v : AV) : Prop :=
  ∃ v', (∀ w, (execOp c o).run P w = .ok (.value v') w) ∧ VRel ρ v v'

variable {o : Oper} {e : Operand → AV} {c : Operand → Value} {v : AV}

theorem genOp_sound (hs : ∀ cs b, o.op ≠ .select cs b) (he : ∀ x ∈ o.op.operands, VRel ρ (e x) (c x)) (h : genOp P o e = some v) : Gives P ρ o c v := by
  unfold genOp at h
  split at h
  · cases h
  · rename_i l hl
    split at h
    · rename_i u hu
      refine ⟨u, fun w => ?_, ofVal_rel h⟩
      rw [execOp_congr (ρ' := fun x => (toVal (e x)).getD default) o hs fun x hx => ?_]
      · exact pureRun_run hu w
      · obtain ⟨y, hy⟩ := mapO_some hl x (by simpa using hx)
        simp only [hy, Option.getD_some]
        exact toVal_rel (he x hx) hy
    · cases h

theorem ptr_inv {b p : Nat} {u : Value} (h : VRel ρ (.ptr b p) u) : ∃ i, ρ b = some i ∧ u = .pointer (some ⟨i.cb, i.sh + p, none⟩) := by
  cases h; exact ⟨_, ‹_›, rfl⟩
theorem agg_inv {cs : List AV} {u : Value} (h : VRel ρ (.agg cs) u) : ∃ vs, u = .agg ⟨vs⟩ ∧ LRel ρ cs vs := by
  cases h; exact ⟨_, rfl, ‹_›⟩
theorem tup_inv {cs : List AV} {u : Value} (h : VRel ρ (.tup cs) u) : ∃ vs, u = .tuple ⟨vs⟩ ∧ LRel ρ cs vs := by
  cases h; exact ⟨_, rfl, ‹_›⟩
theorem nat_inv {x : AV} {n : Nat} {u : Value} (h : VRel ρ x u) (hn : natOf x = some n) : ∃ k, u = .int k n := by
  unfold natOf at hn
  split at hn
  · cases hn; exact ⟨_, (sc_inv h).1⟩
  · cases hn

theorem sizeT_run {t : TypeId} {n : Nat} (h : sizeT P t = some n) (w : World) : (sizeOf t).run P w = .ok n w := by
  unfold sizeT at h
  cases hi : P.info? t with
  | none => simp [hi] at h
  | some i => simp [hi] at h; subst h; simp [sizeOf, typeInfo, hi]
theorem isAggT_run {t : TypeId} {b : Bool} (h : isAggT P t = some b) (w : World) : (isAgg t).run P w = .ok b w := by
  unfold isAggT at h
  cases hu : P.underlying t with
  | none => simp [hu] at h
  | some d =>
    simp only [isAgg, Sem.run_bind, run_underlying hu, Result.andThen_ok]
    rw [hu] at h
    cases d <;> (simp only [Option.some.injEq] at h; subst h; rfl)

theorem move_sound {x : Operand} (hop : o.op = .move x ∨ o.op = .assign x) (he : VRel ρ (e x) (c x)) : Gives P ρ o c (e x) :=
  ⟨c x, fun w => by rcases hop with h | h <;> simp [execOp, h], he⟩

theorem fieldAddr_sound {s : TypeId} {x : Operand} {f : Nat} {fields : Array Field} {b p n : Nat} {fd : Field} (hop : o.op = .fieldAddr s x f) (he : VRel ρ (e x) (c x))
    (hu : P.underlying s = some (.struct fields)) (hx : e x = .ptr b p) (hf : fields[f]? = some fd) (hs : sizeT P fd.type = some (n + 1)) :
    Gives P ρ o c (.ptr b (p + fd.offset)) := by
  rw [hx] at he
  obtain ⟨i, hb, hc⟩ := ptr_inv he
  refine ⟨_, fun w => ?_, .ptr b (p + fd.offset) i hb⟩
  simp only [execOp, hop, hc, Instr.fieldAt, Sem.run_bind, run_underlying hu, Result.andThen_ok, hf, Instr.sureAddr, Sem.run_pure, fieldPlace, sizeT_run hs]
  simp [add_off, Nat.add_assoc]

theorem slc_inv {b p len : Nat} {cap : Cap} {u : Value} (h : VRel ρ (.slc b p len cap) u) :
    ∃ i c, ρ b = some i ∧ u = .slice (some ⟨i.cb, i.sh + p, none⟩) len c := by
  cases h with
  | slcS _ _ _ _ i hb => exact ⟨i, _, hb, rfl⟩
  | slcO _ k _ i hb hk => exact ⟨i, _, hb, rfl⟩

theorem indexAddr_slice {t elem : TypeId} {x ix : Operand} {b p len j size : Nat} {cap : Cap} (hop : o.op = .indexAddr t x ix) (he : VRel ρ (e x) (c x)) (hi : VRel ρ (e ix) (c ix))
    (hu : P.underlying t = some (.slice elem)) (hx : e x = .slc b p len cap) (hj : natOf (e ix) = some j) (hl : j < len) (hs : sizeT P elem = some size) :
    Gives P ρ o c (.ptr b (p + j * size)) := by
  rw [hx] at he
  obtain ⟨i, cp, hb, hc⟩ := slc_inv he
  obtain ⟨k, hk⟩ := nat_inv hi hj
  refine ⟨_, fun w => ?_, .ptr b (p + j * size) i hb⟩
  simp only [execOp, hop, hc, hk, Instr.indexAt, Sem.run_bind, asIntOf, Sem.run_pure, run_underlying hu, Result.andThen_ok]
  simp [hl, sizeT_run hs, add_off, Nat.add_assoc]

theorem indexAddr_array {t elem : TypeId} {x ix : Operand} {b p len j size : Nat} (hop : o.op = .indexAddr t x ix) (he : VRel ρ (e x) (c x)) (hi : VRel ρ (e ix) (c ix))
    (hu : P.underlying t = some (.array len elem)) (hx : e x = .ptr b p) (hj : natOf (e ix) = some j) (hl : j < len) (hs : sizeT P elem = some size) :
    Gives P ρ o c (.ptr b (p + j * size)) := by
  rw [hx] at he
  obtain ⟨i, hb, hc⟩ := ptr_inv he
  obtain ⟨k, hk⟩ := nat_inv hi hj
  refine ⟨_, fun w => ?_, .ptr b (p + j * size) i hb⟩
  simp only [execOp, hop, hc, hk, Instr.indexAt, Sem.run_bind, asIntOf, Sem.run_pure, run_underlying hu, Result.andThen_ok, Instr.sureAddr]
  simp [hl, sizeT_run hs, add_off, Nat.add_assoc]

theorem part_sound {t : TypeId} {cs : List AV} {vs : List Value} {off : Nat} (h : partOf P t cs off = some v) (hr : LRel ρ cs vs) :
    ∃ v', (∀ w, (part t ⟨vs⟩ off).run P w = .ok v' w) ∧ VRel ρ v v' := by
  unfold partOf at h
  split at h
  · rename_i n ha hs
    split at h
    · rename_i hb
      cases h
      refine ⟨.agg ⟨(vs.drop off).take n⟩, fun w => ?_, .agg _ _ ((hr.drop off).take n)⟩
      simp only [part, Sem.run_bind, isAggT_run ha, Result.andThen_ok, if_true, sizeT_run hs, Sem.run_pure]
      simp [List.take_drop]
    · cases h
  · rename_i ha
    rw [nth_getElem] at h
    obtain ⟨u, hu, hv⟩ := hr.get h
    refine ⟨u, fun w => ?_, hv⟩
    simp only [part, Sem.run_bind, isAggT_run ha, Result.andThen_ok, Bool.false_eq_true, if_false]
    simp [hu]
  · cases h

theorem field_sound {t : TypeId} {x : Operand} {f : Nat} {fields : Array Field} {cs : List AV} {fd : Field} (hop : o.op = .field t x f) (he : VRel ρ (e x) (c x))
    (hu : P.underlying t = some (.struct fields)) (hx : e x = .agg cs) (hf : fields[f]? = some fd) (h : partOf P fd.type cs fd.offset = some v) : Gives P ρ o c v := by
  rw [hx] at he
  obtain ⟨vs, hc, hr⟩ := agg_inv he
  obtain ⟨v', h1, h2⟩ := part_sound h hr
  refine ⟨v', fun w => ?_, h2⟩
  simp only [execOp, hop, hc, Instr.field, Sem.run_bind, run_underlying hu, Result.andThen_ok, hf, asAgg, Sem.run_pure, h1]

theorem index_array {t elem : TypeId} {x ix : Operand} {cs : List AV} {len j size : Nat} (hop : o.op = .index t x ix) (he : VRel ρ (e x) (c x)) (hi : VRel ρ (e ix) (c ix))
    (hu : P.underlying t = some (.array len elem)) (hx : e x = .agg cs) (hj : natOf (e ix) = some j) (hl : j < len) (hs : sizeT P elem = some size)
    (h : partOf P elem cs (j * size) = some v) : Gives P ρ o c v := by
  rw [hx] at he
  obtain ⟨vs, hc, hr⟩ := agg_inv he
  obtain ⟨k, hk⟩ := nat_inv hi hj
  obtain ⟨v', h1, h2⟩ := part_sound h hr
  refine ⟨v', fun w => ?_, h2⟩
  simp only [execOp, hop, hc, hk, Instr.index, Sem.run_bind, asIntOf, Sem.run_pure, run_underlying hu, Result.andThen_ok]
  simp [hl, sizeT_run hs, h1]

theorem index_string {t : TypeId} {x ix : Operand} {s : ByteArray} {j : Nat} {b : UInt8} (hop : o.op = .index t x ix) (he : VRel ρ (e x) (c x)) (hi : VRel ρ (e ix) (c ix))
    (hu : P.underlying t = some .string) (hx : e x = .sc (.string s)) (hj : natOf (e ix) = some j) (hb : nth s.data.toList j = some b) : Gives P ρ o c (.sc (.int .u8 b.toNat)) := by
  rw [hx] at he
  have hc := (sc_inv he).1
  obtain ⟨k, hk⟩ := nat_inv hi hj
  refine ⟨_, fun w => ?_, .sc _ rfl⟩
  rw [nth_getElem] at hb
  have hlt : j < s.size := by
    have h0 := (List.getElem?_eq_some_iff.1 hb).1
    rw [Array.length_toList] at h0
    exact h0
  have hg : s[j]? = some b := by
    rw [getElem?_pos s j hlt]
    simp only [Array.getElem?_toList] at hb
    have h2 : s.data[j]? = some b := hb
    have h3 : j < s.data.size := hlt
    rw [Array.getElem?_eq_getElem h3] at h2
    exact h2
  simp only [execOp, hop, hc, hk, Instr.index, Sem.run_bind, asIntOf, Sem.run_pure, run_underlying hu, Result.andThen_ok, Int.natCast_nonneg, if_true, Int.toNat_natCast, hg]

theorem extract_sound {x : Operand} {i : Nat} {vs : List AV} (hop : o.op = .extract x i) (he : VRel ρ (e x) (c x)) (hx : e x = .tup vs) (h : nth vs i = some v) : Gives P ρ o c v := by
  rw [hx] at he
  obtain ⟨us, hc, hr⟩ := tup_inv he
  rw [nth_getElem] at h
  obtain ⟨u, hu, hv⟩ := hr.get h
  exact ⟨u, fun w => by simp only [execOp, hop, hc, Instr.extract, List.getElem?_toArray, hu, Sem.run_bind, Sem.run_pure, Result.andThen_ok], hv⟩

theorem makeInterface_sound {t : TypeId} {x : Operand} {d : TypeDesc} (hop : o.op = .makeInterface t x) (he : VRel ρ (e x) (c x)) (hu : P.underlying t = some d) (hn : ∀ ms, d ≠ .interface ms) :
    Gives P ρ o c (.ifc t (e x)) := by
  refine ⟨_, fun w => ?_, .ifc t _ _ he⟩
  simp only [execOp, hop, Instr.makeInterface, Sem.run_bind, run_underlying hu, Result.andThen_ok]
  cases d <;> first | rfl | exact absurd rfl (hn _)

theorem makeFunc_sound {f : Fn} {first captured : Array Operand} (hop : o.op = .makeFunc f first captured) (hf : fnPlain f = true) (he : ∀ x ∈ o.op.operands, VRel ρ (e x) (c x)) :
    Gives P ρ o c (.fn f (first.toList.map e) (captured.toList.map e)) := by
  rw [hop] at he
  simp only [Op.operands, Array.mem_append] at he
  refine ⟨.func f ⟨first.toList.map c⟩ ⟨captured.toList.map c⟩, fun w => ?_, .fn _ _ _ _ _ hf (LRel.ofAll _ fun x hx => he x (.inl (by simpa using hx))) (LRel.ofAll _ fun x hx => he x (.inr (by simpa using hx)))⟩
  simp only [execOp, hop, Instr.makeFunc, Sem.run_bind, Sem.run_pure, Result.andThen_ok]
  congr 3 <;> exact (Array.toList_map ..).symm ▸ rfl
end
end Go.Ab
