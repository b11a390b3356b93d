/- append is sound, part 2. By an AI agent. -/
import Derived.Test.YtmilkhdicmkmbaaDoorAb9
set_option linter.unusedVariables false
set_option linter.unusedSimpArgs false
namespace Go.Ab
open Go Go.RowKit

def AW.kill (A : AW) (b : Nat) : AW := { A with heap := A.heap.del b }

section
variable {P : Program} {base : Base} {ρ : Ren} {A : AW} {w : World}

theorem kill_rel (hw : WRel P base ρ A w) (b : Nat) : WRel P base ρ (A.kill b) w := by
  have hg : ∀ {c x}, (A.kill b).heap.get c = some x → c ≠ b ∧ A.heap.get c = some x := by
    intro c x h
    simp only [AW.kill, Tree.get_del] at h
    split at h
    · cases h
    · exact ⟨‹_›, h⟩
  exact ⟨hw.dom, fun c i x hc hx => hw.blk c i x hc (hg hx).2, fun c d i j x y hc hd hx hy => hw.sep c d i j x y hc hd (hg hx).2 (hg hy).2, fun c x hx => hw.top c x (hg hx).2, fun c i x hc hx => hw.lo c i x hc (hg hx).2, hw.inv⟩

variable {elem size bytes n : Nat} {zeros : Bool} {x : Value} {new : List AV} {us : List Value}

/-- A new row behind append. -/
theorem grown_does (hw : WRel P base ρ A w) (hbase : base ≤ w.heap.size) (h1 : 1 ≤ size) (hsz : sizeT P elem = some size) {need cap : Nat} {cs : Array Value} (hcs : cs.size = cap * size) (hge : need ≤ cap) {tree : Tree AV} {z : List AV} {fz : Nat}
    (hval : ∀ k x, cellAt tree z (need * size) k = some x → ∃ v, cs[k]? = some v ∧ VRel ρ x v) {run : World → Result Value}
    (hrun : run w = .ok (.slice (some ⟨w.heap.size, 0, none⟩) need cap) (w.drew.alloc (.cells cs elem))) :
    DoesV P base ρ A w run (.slc A.next 0 need (.op size)) (A.push (.row (need * size) tree z true elem fz)) := by
  have hb : ρ A.next = none := hw.fresh (Nat.le_refl _)
  have hrel : BlkRel P (ρ.add A.next ⟨w.heap.size, 0, cap, size⟩) ⟨w.heap.size, 0, cap, size⟩ (.row (need * size) tree z true elem fz) (.cells cs elem) := by
    refine ⟨cs, (0, 0), rfl, ⟨?_, fun k x h => ?_, fun k _ _ h => by simp at h, (fun h => by cases h), fun _ => ⟨h1, by simpa using hcs, hsz⟩, rfl⟩⟩
    · show 0 + need * size ≤ cs.size
      rw [hcs, Nat.zero_add]; exact Nat.mul_le_mul_right _ hge
    · obtain ⟨v, a, b⟩ := hval k x h
      exact ⟨v, by show cs[0 + k]? = _; rw [Nat.zero_add]; exact a, b.mono (Ren.le_add hb)⟩
  obtain ⟨h2, h3⟩ := alloc_rel hw.drew (w := w.drew) (by simpa using hbase) (i := ⟨w.heap.size, 0, cap, size⟩) rfl hrel
  refine ⟨_, _, _, hrun, (Step.drew (n := A.next)).trans h3 (Nat.le_refl _), h2, by simp [AW.push], ?_⟩
  have := VRel.slcO (ρ := ρ.add A.next ⟨w.heap.size, 0, cap, size⟩) A.next 0 need ⟨w.heap.size, 0, cap, size⟩ (by simp [Ren.add]) (by show 0 + need ≤ cap; omega)
  simpa using this

theorem cellAt_lt {t : Tree AV} {z : List AV} {n k : Nat} {x : AV} (h : cellAt t z n k = some x) : k < n := by
  unfold cellAt at h
  split at h
  · cases h
  · rename_i hb; have := ble_t hb; omega
theorem cellAt_bound {t : Tree AV} {z : List AV} {n m k : Nat} (h1 : k < n) (h2 : k < m) : cellAt t z n k = cellAt t z m k := by
  unfold cellAt
  rw [ble_iff.2 (show k + 1 ≤ n by omega), ble_iff.2 (show k + 1 ≤ m by omega)]

theorem getElem?_three (vs us : List Value) (r : Array Value) (k : Nat) : (((⟨vs⟩ : Array Value) ++ ⟨us⟩ ++ r)[k]? : Option Value) = if k < vs.length then vs[k]? else if k < vs.length + us.length then us[k - vs.length]? else r[k - (vs.length + us.length)]? := by
  rw [← Array.getElem?_toList, Array.toList_append, Array.toList_append]
  by_cases h1 : k < vs.length
  · rw [if_pos h1, List.append_assoc, List.getElem?_append_left h1]
  · rw [if_neg h1]
    by_cases h2 : k < vs.length + us.length
    · rw [if_pos h2, List.append_assoc, List.getElem?_append_right (by simpa using h1)]
      rw [List.getElem?_append_left (by show k - vs.length < us.length; omega)]
    · rw [if_neg h2, List.getElem?_append_right (by simp only [List.length_append]; omega), List.length_append, Array.getElem?_toList]

theorem appendS_sound (hw : WRel P base ρ A w) (hbase : base ≤ w.heap.size) (h1 : 1 ≤ size) {s v : AV} {u : Value} {A' : AW} (hs : VRel ρ s u) (hn : News P ρ w elem size zeros x n new us)
    {t : TypeId} {ts : Array TypeId} {ty : TypeId} (ht : ts[0]? = some t) (hu : P.underlying t = some (.slice elem)) (hzs : zerosArg P ts = some zeros)
    {it : TypeInfo} {z : Value} (hi : P.info? elem = some it) (hz : it.zero = some z) (hsi : it.size = size) (hzc : z.cells.size = size) (hb : it.bytes = bytes) (hnb : n * bytes ≤ 140737488355328) (hnl : n ≤ 140737488355328)
    (h : appendS elem size bytes n new s A = some (v, A')) : DoesV P base ρ A w (fun w => (Builtin.append_ ts ty #[u, x]).run P w) v A' := by
  have hsz : sizeT P elem = some size := by simp [sizeT, hi, hsi]
  have same : ∀ {ad : Option Addr} {l cp : Nat}, n = 0 → u = .slice ad l cp → l ≤ cp → (Builtin.append_ ts ty #[u, x]).run P w = .ok u w := by
    intro ad l cp h0 hu' hl
    subst h0 hu'
    have hus : us = [] := List.eq_nil_of_length_eq_zero (by simpa using hn.len)
    exact run_room hn ht hu hzs hi hsi hb hnb hnl (by omega) (w1 := w) (by cases ad <;> simp [hus, storeCells])
  have grow : ∀ {ad : Option Addr} {l cp : Nat} {vs : List Value} {old : List AV} {tree : Tree AV}, u = .slice ad l cp → ¬ l + n ≤ cp → LRel ρ old vs → vs.length = l * size →
      (∀ w', w'.heap = w.heap → (Builtin.firstCells size l (.slice ad l cp)).run P w' = .ok ⟨vs⟩ w') → (l + n) * bytes ≤ 140737488355328 → l + n ≤ 140737488355328 → putAll .leaf 0 (old ++ new) = some tree →
      DoesV P base ρ A w (fun w => (Builtin.append_ ts ty #[u, x]).run P w) (.slc A.next 0 (l + n) (.op size)) (A.push (.row ((l + n) * size) tree [] true elem 0)) := by
    intro ad l cp vs old tree hu' hroom hold hlen hfc hb1 hb2 htree
    subst hu'
    have hr := run_grow hn (ty := ty) ht hu hzs hi hz hsi hb hnb hnl hroom hb1 hb2 hfc
    have hge := grownCap_ge w (l + n) cp elem
    have hlen2 := hn.len
    refine grown_does hw hbase h1 hsz (cap := grownCap w (l + n) cp elem) ?_ hge (fun k y hk => ?_) hr
    · simp only [Array.size_append, List.size_toArray, size_zeroCells, hzc, hlen, hlen2, ← Nat.add_mul]
      congr 1; omega
    · obtain ⟨hk1, hk2⟩ := cellAt_nozeros hk
      obtain ⟨_, hget⟩ := putAll_get _ _ _ htree
      have ho := hold.length
      have hnw := hn.rel.length
      rw [hget, if_pos (by simp only [List.length_append, ho, hnw, hlen, hlen2, ← Nat.add_mul]; omega), Nat.sub_zero] at hk2
      rw [getElem?_three]
      by_cases hlt : k < vs.length
      · rw [if_pos hlt]
        rw [List.getElem?_append_left (by omega)] at hk2
        exact hold.get hk2
      · rw [if_neg hlt, if_pos (by rw [hlen, hlen2, ← Nat.add_mul]; omega)]
        rw [List.getElem?_append_right (by omega), ho] at hk2
        exact hn.rel.get hk2
  unfold appendS at h
  split at h
  · -- nil
    obtain ⟨rfl, _⟩ := sc_inv hs
    split at h
    · cases h
      exact ⟨ρ, w, _, same rfl rfl (Nat.le_refl _), Step.refl _ _ _, hw, Nat.le_refl _, hs⟩
    · rename_i m _ _
      split at h <;> first | cases h | skip
      rename_i tree htree
      have := grow (ad := none) (l := 0) (cp := 0) (vs := []) (old := []) rfl (by omega) .nil (by simp) (fun _ _ => by simp [Builtin.firstCells]) (by simpa using hnb) (by simpa using hnl) htree
      simpa using this
  · -- empty, somewhere
    rename_i b
    split at h <;> first | cases h | skip
    cases hs with
    | emp _ ad cp =>
    exact ⟨ρ, w, _, same rfl rfl (Nat.zero_le _), Step.refl _ _ _, hw, Nat.le_refl _, .emp b ad cp⟩
  · -- a known capacity
    rename_i b o len cc
    cases hs with
    | slcS _ _ _ _ i hbi =>
    split at h
    · rename_i hle
      have hle := ble_t hle
      split at h <;> first | cases h | skip
      rename_i A1 hst
      obtain ⟨w1, hrun, hw1, hstep, hnext⟩ := stores_rel hw hbi hn.rel hst
      refine ⟨ρ, w1, _, run_room hn ht hu hzs hi hsi hb hnb hnl hle (w1 := w1) ?_, hstep, hw1, by omega, .slcS b o (len + n) cc i hbi⟩
      simp only [add_off]
      exact hrun _ (by omega)
    · rename_i hle
      have hle := ble_f hle
      split at h <;> first | cases h | skip
      rename_i old hl hb1 hb2
      split at h <;> first | cases h | skip
      rename_i tree htree
      obtain ⟨vs, hr, hlen, hcell⟩ := loads_rel hw hbi hl
      refine grow rfl hle hr hlen (fun w' hw' => ?_) (ble_t hb1) (ble_t hb2) htree
      have := run_loadCells_list (P := P) w' ⟨i.cb, i.sh + o, none⟩ vs (fun j v hj => by rw [← hcell j v hj]; simp [World.cell?, hw'])
      rw [hlen] at this
      simp [Builtin.firstCells, this]
  · -- an open row
    rename_i b o len esz
    split at h
    · cases h
      cases hs with
      | slcO _ k _ i hbi hk =>
      exact ⟨ρ, w, _, same rfl rfl (by omega), Step.refl _ _ _, hw, Nat.le_refl _, .slcO b k len i hbi hk⟩
    · rename_i m
      split at h <;> first | cases h | skip
      rename_i kn tree zz opn el fz hg
      split at h <;> first | cases h | skip
      · rename_i he hle
        have hle := ble_t hle
        simp only [Bool.and_eq_true] at he
        have he2 := beq_t he.2
        split at h <;> first | cases h | skip
        rename_i A1 hst
        cases hs with
        | slcO _ k _ i hbi hk =>
        obtain ⟨ob, hob, c, fr, rfl, hr⟩ := hw.blk b i _ hbi hg
        obtain ⟨h0, hcs, _⟩ := hr.opn he.1
        have hfit : k + len + (m + 1) ≤ i.capN := by
          have hs1 := hr.size
          have : (k + len + (m + 1)) * i.esz ≤ i.capN * i.esz := by
            have e1 : (k + len + (m + 1)) * i.esz = k * i.esz + (len + (m + 1)) * i.esz := by rw [← Nat.add_mul, Nat.add_assoc]
            rw [e1]
            rw [← he2] at hle
            omega
          exact Nat.le_of_mul_le_mul_right this h0
        obtain ⟨w1, hrun, hw1, hstep, hnext⟩ := stores_rel hw hbi hn.rel hst
        refine ⟨ρ, w1, _, run_room hn ht hu hzs hi hsi hb hnb hnl (by omega) (w1 := w1) ?_, hstep, hw1, by omega, .slcO b k (len + (m + 1)) i hbi (by omega)⟩
        simp only [add_off]
        exact hrun _ (by omega)
      · rename_i he hle
        have hle := ble_f hle
        simp only [Bool.and_eq_true] at he
        have he2 := beq_t he.2
        split at h <;> first | cases h | skip
        rename_i old hl hcond
        simp only [Bool.and_eq_true] at hcond
        obtain ⟨⟨⟨⟨⟨c1, c2⟩, c3⟩, c4⟩, c5⟩, c6⟩ := hcond
        have c1 := beq_t c1; have c2 := ble_t c2; have c3 := ble_t c3; have c4 := beq_t c4; have c5 := beq_t c5; have c6 := ble_t c6
        split at h <;> first | cases h | skip
        rename_i tree' htree
        obtain ⟨hone, hget⟩ := putAll_get _ _ _ htree
        have hlen2 : us.length = (m + 1) * size := hn.len
        have hnw := hn.rel.length
        cases hs with
        | slcO _ k _ i hbi hk =>
        have hk0 : k = 0 := by
          rcases Nat.eq_zero_or_pos k with e | e
          · exact e
          · have : 0 < k * i.esz := Nat.mul_pos e (by omega)
            omega
        subst hk0
        obtain ⟨ob, hob, c, fr, rfl, hr⟩ := hw.blk b i _ hbi hg
        obtain ⟨h0, hcs, hels⟩ := hr.opn he.1
        subst c1
        obtain ⟨vs, hrl, hlen, hcell⟩ := loads_rel hw hbi hl
        have hcl := (cells_get (len * size) 0 (by unfold AW.loads at hl; rw [hg] at hl; simpa [c4] using hl)).2
        -- what the new row holds
        have hnew : ∀ k y, cellAt tree' zz ((len + (m + 1)) * size) k = some y → (k < len * size ∧ cellAt tree zz kn k = some y) ∨ (len * size ≤ k ∧ k < (len + (m + 1)) * size ∧ new[k - len * size]? = some y) := by
          intro k y hky
          have hklt := cellAt_lt hky
          rw [cellAt_put hget] at hky
          have e1 : len * size + new.length = (len + (m + 1)) * size := by rw [hnw, hlen2, ← Nat.add_mul]
          by_cases hin : len * size ≤ k ∧ k < len * size + new.length
          · rw [if_pos hin] at hky
            split at hky
            · exact .inr ⟨hin.1, hklt, hky⟩
            · cases hky
          · rw [if_neg hin] at hky
            have : k < len * size := by omega
            exact .inl ⟨this, by rw [← hky]; exact cellAt_bound (by omega) hklt⟩
        by_cases hroom : len + (m + 1) ≤ i.capN
        · -- in place
          have hone' : ∀ v ∈ us, v.oneCell' = true := by
            intro v hv
            obtain ⟨j, hj⟩ := List.mem_iff_getElem?.1 hv
            have hjl : j < new.length := by
              have := (List.getElem?_eq_some_iff.1 hj).1
              omega
            obtain ⟨u', hu', hrel⟩ := hn.rel.get (n := j) (x := new[j]) (by simp [hjl])
            rw [hj] at hu'; cases hu'
            exact oneCell_of hrel (hone _ (List.getElem_mem _))
          have hfit : (len + (m + 1)) * size ≤ i.capN * i.esz := by rw [he2]; exact Nat.mul_le_mul_right _ hroom
          have hsum : len * size + (m + 1) * size = (len + (m + 1)) * size := by rw [← Nat.add_mul]
          obtain ⟨cur', hrun, hcz, hcur⟩ := run_storeCells (P := P) i.cb (i.sh + len * size) el fr us 0 c w hob (by omega) hone' (fun k hk => by
            have := hr.free (len * size + k) (by omega) (by omega)
            simpa [Nat.add_assoc] using this)
          let i' : Info := ⟨i.cb, i.sh, i.capN, i.esz⟩
          have hfresh : ρ A.next = none := hw.fresh (Nat.le_refl _)
          have hle' : ρ.le (ρ.add A.next i') := Ren.le_add hfresh
          have hadd : ∀ c' j, ρ.add A.next i' c' = some j → (c' = A.next ∧ j = i') ∨ (c' ≠ A.next ∧ ρ c' = some j) := by
            intro c' j h
            unfold Ren.add at h
            split at h
            · cases h; exact .inl ⟨‹_›, rfl⟩
            · exact .inr ⟨‹_›, h⟩
          have hgA : ∀ {c' y}, ((A.heap.del b).set A.next (Blk.row ((len + (m + 1)) * size) tree' zz true el fz)).get c' = some y → (c' = A.next ∧ y = Blk.row ((len + (m + 1)) * size) tree' zz true el fz) ∨ (c' ≠ A.next ∧ c' ≠ b ∧ A.heap.get c' = some y) := by
            intro c' y h
            rw [Tree.get_set] at h
            split at h
            · cases h; exact .inl ⟨‹_›, rfl⟩
            · rw [Tree.get_del] at h
              split at h
              · cases h
              · exact .inr ⟨‹_›, ‹_›, h⟩
          have hrunA := run_room hn (ty := ty) ht hu hzs hi hsi hb hnb hnl (ad := some ⟨i.cb, i.sh + 0 * i.esz, none⟩) (sLen := len) (sCap := i.capN - 0) (by omega) (w1 := w.setRow i.cb cur') (by
            simp only [add_off, Nat.zero_mul, Nat.add_zero]; exact hrun)
          refine ⟨ρ.add A.next i', w.setRow i.cb cur', _, hrunA, ⟨rfl, rfl, rfl, by simp, ?_, ?_, ?_, fun k' hk' => setRow_other w i.cb k' cur' (fun e => by have := hw.lo b i _ hbi hg; omega)⟩, ⟨?_, ?_, ?_, ?_, ?_, base.low w _ (fun k' hk' => setRow_other w i.cb k' cur' (fun e => by have := hw.lo b i _ hbi hg; omega)) hw.inv⟩, by simp, ?_⟩
          · intro k' hk' hun
            exact setRow_other w i.cb k' cur' (fun e => hun b i hbi e.symm)
          · intro c' hc'; unfold Ren.add; rw [if_neg (by omega)]
          · intro c' j hj
            rcases hadd c' j hj with ⟨_, rfl⟩ | ⟨_, hj⟩
            · exact .inl ⟨b, i, hbi, rfl⟩
            · exact .inl ⟨c', j, hj, rfl⟩
          · intro c' j hj
            rcases hadd c' j hj with ⟨rfl, rfl⟩ | ⟨_, hj⟩
            · have := hw.dom b i hbi; exact ⟨by simp, by simpa using this.2⟩
            · have := hw.dom c' j hj; exact ⟨by show c' < A.next + 1; omega, by simpa using this.2⟩
          · intro c' j y hj hy
            rcases hgA hy with ⟨rfl, rfl⟩ | ⟨hne, hnb', hy⟩
            · rcases hadd _ j hj with ⟨_, rfl⟩ | ⟨h', _⟩
              · refine ⟨_, setRow_heap w i.cb c cur' el fr hob, cur', fr, rfl, ⟨?_, fun k y hk => ?_, fun k hk1 hk2 => hr.free k hk1 (by rw [hcz] at hk2; exact hk2), (fun h => by cases h), fun _ => ⟨h0, by rw [hcz]; exact hcs, hels⟩, hr.sh0⟩⟩
                · rw [hcz, hcs]; show i.sh + _ ≤ _; omega
                · show ∃ v, cur'[i.sh + k]? = some v ∧ _
                  rcases hnew k y hk with ⟨hlt, hold⟩ | ⟨hge, hlt, hnw'⟩
                  · obtain ⟨v, hv, hvr⟩ := hr.val k y hold
                    refine ⟨v, ?_, hvr.mono hle'⟩
                    rw [hcur, if_neg (by omega)]; exact hv
                  · obtain ⟨v, hv, hvr⟩ := hn.rel.get hnw'
                    refine ⟨v, ?_, hvr.mono hle'⟩
                    rw [hcur, if_pos (by rw [hlen2]; omega), show i.sh + k - (i.sh + len * size + 0) = k - len * size by omega]; exact hv
              · exact absurd rfl h'
            · rcases hadd c' j hj with ⟨h', _⟩ | ⟨_, hj⟩
              · exact absurd h' hne
              · obtain ⟨o', ho', hrel⟩ := hw.blk c' j y hj hy
                refine ⟨o', ?_, hrel.mono hle'⟩
                rw [setRow_other w i.cb j.cb cur' (fun e => hnb' (hw.sep _ _ _ _ _ _ hj hbi hy hg e))]
                exact ho'
          · intro c1 c2 i1 i2 x1 x2 hj1 hj2 hy1 hy2 he'
            rcases hgA hy1 with ⟨e1, _⟩ | ⟨n1, nb1, hy1⟩ <;> rcases hgA hy2 with ⟨e2, _⟩ | ⟨n2, nb2, hy2⟩
            · rw [e1, e2]
            · rcases hadd c1 i1 hj1 with ⟨_, f1⟩ | ⟨g1, _⟩
              · rcases hadd c2 i2 hj2 with ⟨g2, _⟩ | ⟨_, hj2⟩
                · exact absurd g2 n2
                · exact absurd (hw.sep _ _ _ _ _ _ hj2 hbi hy2 hg (by rw [← he', f1])) nb2
              · exact absurd e1 g1
            · rcases hadd c2 i2 hj2 with ⟨_, f2⟩ | ⟨g2, _⟩
              · rcases hadd c1 i1 hj1 with ⟨g1, _⟩ | ⟨_, hj1⟩
                · exact absurd g1 n1
                · exact absurd (hw.sep _ _ _ _ _ _ hj1 hbi hy1 hg (by rw [he', f2])) nb1
              · exact absurd e2 g2
            · rcases hadd c1 i1 hj1 with ⟨g1, _⟩ | ⟨_, hj1⟩
              · exact absurd g1 n1
              · rcases hadd c2 i2 hj2 with ⟨g2, _⟩ | ⟨_, hj2⟩
                · exact absurd g2 n2
                · exact hw.sep _ _ _ _ _ _ hj1 hj2 hy1 hy2 he'
          · intro c' y hy
            rcases hgA hy with ⟨rfl, _⟩ | ⟨_, _, hy⟩
            · simp
            · have := hw.top c' y hy; show c' < A.next + 1; omega
          · intro c' j y hj hy
            rcases hgA hy with ⟨rfl, _⟩ | ⟨hne, _, hy⟩
            · rcases hadd _ j hj with ⟨_, rfl⟩ | ⟨h', _⟩
              · exact hw.lo b i _ hbi hg
              · exact absurd rfl h'
            · rcases hadd c' j hj with ⟨h', _⟩ | ⟨_, hj⟩
              · exact absurd h' hne
              · exact hw.lo c' j y hj hy
          · have := VRel.slcO (ρ := ρ.add A.next i') A.next 0 (len + (m + 1)) i' (by simp [Ren.add]) (by show 0 + (len + (m + 1)) ≤ i.capN; omega)
            simp only [Nat.zero_mul] at this ⊢
            rw [show size = i'.esz from he2.symm]
            exact this
        · -- in a new row
          have hcl2 : ∀ w', w'.heap = w.heap → (Builtin.firstCells size len (.slice (some ⟨i.cb, i.sh + 0 * i.esz, none⟩) len (i.capN - 0))).run P w' = .ok ⟨vs⟩ w' := by
            intro w' hw'
            have := run_loadCells_list (P := P) w' ⟨i.cb, i.sh + 0 * i.esz, none⟩ vs (fun j v hj => by rw [← hcell j v hj]; simp [World.cell?, hw'])
            rw [hlen] at this
            simp only [Builtin.firstCells]; exact this
          have hr2 := run_grow hn (ty := ty) ht hu hzs hi hz hsi hb hnb hnl (ad := some ⟨i.cb, i.sh + 0 * i.esz, none⟩) (sLen := len) (sCap := i.capN - 0) (by omega) c2 c3 hcl2
          have hge := grownCap_ge w (len + (m + 1)) (i.capN - 0) el
          have hD := grown_does (kill_rel hw b) hbase h1 hsz (need := len + (m + 1)) (cap := grownCap w (len + (m + 1)) (i.capN - 0) el) (tree := tree') (z := zz) (fz := fz) (run := fun w => (Builtin.append_ ts ty #[.slice (some ⟨i.cb, i.sh + 0 * i.esz, none⟩) len (i.capN - 0), x]).run P w) ?_ hge (fun k y hk => ?_) hr2
          · obtain ⟨ρ', w', v', a1, a2, a3, a4, a5⟩ := hD
            exact ⟨ρ', w', v', a1, a2, a3, a4, a5⟩
          · simp only [Array.size_append, List.size_toArray, size_zeroCells, hzc, hlen, hlen2, ← Nat.add_mul, Nat.succ_eq_add_one]
            congr 1; omega
          · rw [getElem?_three]
            rcases hnew k y hk with ⟨hlt, hold⟩ | ⟨hge', hlt, hnw'⟩
            · rw [if_pos (by omega)]
              have hj : k < old.length := by have := hrl.length; omega
              have hck := hcl k old[k] (by simp [hj])
              rw [Nat.zero_add, hold] at hck
              cases hck
              exact hrl.get (by simp [hj])
            · rw [if_neg (by omega), if_pos (by rw [hlen, hlen2, ← Nat.add_mul]; omega), hlen]
              exact hn.rel.get hnw'
  · cases h
end
end Go.Ab
