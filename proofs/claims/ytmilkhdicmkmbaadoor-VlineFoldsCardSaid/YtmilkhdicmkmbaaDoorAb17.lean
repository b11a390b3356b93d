/- A call whose road hangs on a capacity; all calls. By an AI agent. -/
import Derived.Test.YtmilkhdicmkmbaaDoorAb16
set_option linter.unusedVariables false
set_option linter.unusedSimpArgs false
namespace Go.Ab
open Go Go.RowKit

section
variable {P : Program} {X : Ext} {base : Base}

theorem isSc_rel {ρ ρ' : Ren} {x : AV} {v : Value} (h : isSc x = true) (hr : VRel ρ x v) : VRel ρ' x v := by
  cases x <;> simp [isSc] at h
  obtain ⟨rfl, hp⟩ := sc_inv hr
  exact .sc _ hp

theorem ofList_cell {l : List AV} {n k : Nat} {x : AV} (h : cellAt (Tree.ofList l 0 .leaf) [] n k = some x) : k < n ∧ l[k]? = some x := by
  obtain ⟨h1, h2⟩ := cellAt_nozeros h
  rw [Tree.get_ofList] at h2
  split at h2
  · exact ⟨h1, by simpa using h2⟩
  · simp [Tree.get] at h2

theorem loads_cells {A : AW} {b k n : Nat} {tree : Tree AV} {zs xs : List AV} {opn : Bool} {el fz : Nat} (hg : A.heap.get b = some (.row n tree zs opn el fz)) (h : A.loads b 0 k = some xs) :
    xs.length = k ∧ ∀ j x, xs[j]? = some x → cellAt tree zs n j = some x := by
  unfold AW.loads at h
  rw [hg] at h
  obtain ⟨h1, h2⟩ := cells_get k 0 h
  exact ⟨h1, fun j x hx => by have := h2 j x hx; rwa [Nat.zero_add] at this⟩

/-- A row of plain cells says the same under whatever renaming. -/
theorem plainRow {ρ ρ' : Ren} {i : Info} {n : Nat} {tree : Tree AV} {zs : List AV} {opn : Bool} {el fz : Nat} {c : Array Value} {fr : Nat × Nat} (h : RowRel P ρ i n tree zs opn el fz c fr) {cs : List AV} {m : Nat} (hsc : cs.all isSc = true)
    (hcs : ∀ j x, cs[j]? = some x → cellAt tree zs n j = some x) (hm : i.sh + m ≤ c.size) : RowRel P ρ' i m (Tree.ofList cs 0 .leaf) [] opn el fz c fr :=
  ⟨hm, fun k x hk => by
    obtain ⟨_, hk⟩ := ofList_cell hk
    obtain ⟨v, h1, h2⟩ := h.val k x (hcs k x hk)
    exact ⟨v, h1, isSc_rel (List.all_eq_true.1 hsc x (List.mem_of_getElem? hk)) h2⟩, h.free, h.mark, h.opn, h.sh0⟩

theorem sameAll_spec {run : Nat → Option (List AV)} {C : List AV} : ∀ (n : Nat), sameAll run C n = true → ∀ j, j < n → run j = some C
  | 0, _, j, hj => by omega
  | n + 1, h, j, hj => by
    simp only [sameAll] at h
    split at h <;> first | (cases h; done) | skip
    rename_i C' hC
    simp only [Bool.and_eq_true] at h
    by_cases e : j = n
    · subst e; rw [hC, avsEq_eq _ _ h.1]
    · exact sameAll_spec n h.2 j (by omega)

theorem outcome_inv {A0 : AW} {b bv esz el want : Nat} {vrow : Blk} {r : Option (AV × AW)} {C : List AV} (h : outcome A0 b bv esz el want vrow r = some C) :
    ∃ rb A' kr tr zr, r = some (.slc rb 0 want (.op esz), A') ∧ A'.heap.get rb = some (.row kr tr zr true el 0) ∧ A'.heap.get bv = some vrow ∧ A'.loads rb 0 (want * esz) = some C ∧ (rb = b ∨ A0.next ≤ rb) ∧ C.all isSc = true := by
  unfold outcome at h
  split at h <;> first | (cases h; done) | skip
  rename_i rb n e A'
  split at h <;> first | (cases h; done) | skip
  rename_i kr tr zr el' y C' hrb hbv hC
  split at h <;> first | (cases h; done) | skip
  rename_i hc
  cases h
  simp only [Bool.and_eq_true] at hc
  obtain ⟨⟨⟨⟨⟨c1, c2⟩, c3⟩, c4⟩, c5⟩, c6⟩ := hc
  have c1 := beq_t c1; have c2 := beq_t c2; have c3 := beq_t c3; have c6 := blkEq_eq c6
  subst c1; subst c2; subst c3; subst c6
  refine ⟨rb, A', kr, tr, zr, rfl, hrb, hbv, hC, ?_, c5⟩
  rw [Bool.or_eq_true] at c4
  rcases c4 with c4 | c4
  · exact .inl (beq_t c4)
  · exact .inr (ble_t c4)

theorem splitA_sound {run : CallF} (hc : CallOk P base run) : CallOk P base (splitA run) := by
  intro f args A v A' h ρ w us hargs hw hb
  unfold splitA at h
  split at h
  case h_2 => exact hc f args A v A' h ρ w us hargs hw hb
  rename_i b len esz iv bv ov m mc
  split at h <;> first | (cases h; done) | skip
  rename_i kn tb zb el kv tv zv ev fv hgb hgv
  split at h <;> first | (cases h; done) | skip
  rename_i cs uv hcs huv
  split at h <;> first | (cases h; done) | skip
  rename_i hcond
  simp only [Bool.and_eq_true, Bool.not_eq_true'] at hcond
  obtain ⟨⟨⟨⟨c1, c2⟩, c3⟩, c4⟩, c5⟩ := hcond
  have c1 := beq_t c1; have c2 := beq_f c2; have c3 := ble_t c3
  dsimp only at h
  split at h <;> first | (cases h; done) | skip
  rename_i C hbig
  split at h <;> first | (cases h; done) | skip
  rename_i hsmall
  cases h
  -- the arguments
  cases hargs with
  | cons _ u1 _ us1 r1 hargs =>
  cases hargs with
  | cons _ u2 _ us2 r2 hargs =>
  cases hargs with
  | cons _ u3 _ us3 r3 hargs =>
  cases hargs
  obtain ⟨k, i, hbi, hp, he, hk, hu1⟩ := slcO_inv r1
  obtain ⟨hu2, hpi⟩ := sc_inv r2
  have r3' := r3
  generalize hu3 : u3 = u3' at r3'
  cases r3' with
  | slcS _ _ _ _ iv' hbvi =>
  obtain ⟨ob, hob, cb, frb, rfl, hrb⟩ := hw.blk b i _ hbi hgb
  obtain ⟨ov', hov, cv, frv, rfl, hrv⟩ := hw.blk bv iv' _ hbvi hgv
  obtain ⟨h0, hcsz, hels⟩ := hrb.opn rfl
  have hk0 : k = 0 := by
    rcases Nat.eq_zero_or_pos k with e | e
    · exact e
    · have : 0 < k * i.esz := Nat.mul_pos e h0
      omega
  subst hk0
  obtain ⟨hl1, hcell1⟩ := loads_cells hgb hcs
  obtain ⟨hl2, hcell2⟩ := loads_cells hgv huv
  have hbn := hw.dom b i hbi
  have hvn := hw.dom bv iv' hbvi
  have hcne : i.cb ≠ iv'.cb := fun e => c2 (hw.sep _ _ _ _ _ _ hbi hbvi hgb hgv e)
  -- the two blocks alone
  let ρl : Ren := fun x => if x = b then some i else if x = bv then some iv' else none
  have hρb : ρl b = some i := by simp [ρl]
  have hρv : ρl bv = some iv' := by simp only [ρl]; rw [if_neg (fun e => c2 e.symm)]; simp
  have hρ : ∀ x j, ρl x = some j → (x = b ∧ j = i) ∨ (x = bv ∧ j = iv') := by
    intro x j hx
    simp only [ρl] at hx
    split at hx
    · cases hx; exact .inl ⟨‹_›, rfl⟩
    · split at hx
      · cases hx; exact .inr ⟨‹_›, rfl⟩
      · cases hx
  have hρle : ∀ x j, ρl x = some j → ρ x = some j := by
    intro x j hx
    rcases hρ x j hx with ⟨rfl, rfl⟩ | ⟨rfl, rfl⟩
    · exact hbi
    · exact hbvi
  let vrow := Blk.row kv (Tree.ofList uv 0 .leaf) [] false ev fv
  have local_ : ∀ (n : Nat), i.sh + n ≤ cb.size → WRel P base ρl { next := A.next, heap := (Tree.leaf.set b (.row n (Tree.ofList cs 0 .leaf) [] true el 0)).set bv vrow } w := by
    intro n hn
    have hget : ∀ x y, ((Tree.leaf.set b (Blk.row n (Tree.ofList cs 0 .leaf) [] true el 0)).set bv vrow).get x = some y → (x = bv ∧ y = vrow) ∨ (x = b ∧ y = Blk.row n (Tree.ofList cs 0 .leaf) [] true el 0) := by
      intro x y h
      rw [Tree.get_set] at h
      split at h
      · cases h; exact .inl ⟨‹_›, rfl⟩
      · rw [Tree.get_set] at h
        split at h
        · cases h; exact .inr ⟨‹_›, rfl⟩
        · simp [Tree.get] at h
    refine ⟨fun x j hx => ?_, fun x j y hx hy => ?_, fun x1 x2 j1 j2 y1 y2 h1 h2 _ _ e => ?_, fun x y hy => ?_, fun x j y hx hy => ?_, hw.inv⟩
    · exact hw.dom x j (hρle x j hx)
    · rcases hget x y hy with ⟨rfl, rfl⟩ | ⟨rfl, rfl⟩
      · rw [hρv] at hx; cases hx
        exact ⟨_, hov, cv, frv, rfl, plainRow hrv c5 hcell2 hrv.size⟩
      · rw [hρb] at hx; cases hx
        exact ⟨_, hob, cb, frb, rfl, plainRow hrb c4 hcell1 hn⟩
    · rcases hρ x1 j1 h1 with ⟨rfl, rfl⟩ | ⟨rfl, rfl⟩ <;> rcases hρ x2 j2 h2 with ⟨rfl, rfl⟩ | ⟨rfl, rfl⟩
      · rfl
      · exact absurd e hcne
      · exact absurd e.symm hcne
      · rfl
    · rcases hget x y hy with ⟨rfl, _⟩ | ⟨rfl, _⟩
      · exact hvn.1
      · exact hbn.1
    · rcases hρ x j hx with ⟨rfl, rfl⟩ | ⟨rfl, rfl⟩
      · exact hw.lo _ _ _ hbi hgb
      · exact hw.lo _ _ _ hbvi hgv
  -- whatever comes of it
  have finish : ∀ (r : Option (AV × AW)), outcome A b bv esz el (len + m) vrow r = some C → ∀ (rr : AV) (Ar : AW) (e : Ending) (w' : World), r = some (rr, Ar) →
      (∃ ρ' v', e = .returned v' ∧ Step base A.next ρl w ρ' w' ∧ WRel P base ρ' Ar w' ∧ A.next ≤ Ar.next ∧ VRel ρ' rr v') →
      ∃ ρ' v', e = .returned v' ∧ Step base A.next ρ w ρ' w' ∧ WRel P base ρ' { next := A.next + 1, heap := (A.heap.del b).set A.next (.row ((len + m) * esz) (Tree.ofList C 0 .leaf) [] true el 0) } w' ∧ A.next ≤ A.next + 1 ∧ VRel ρ' (.slc A.next 0 (len + m) (.op esz)) v' := by
    intro r hr rr Ar e w' hrr hR
    obtain ⟨rb, Ar', kr, tr, zr, g1, g2, g3, g4, g5, g6⟩ := outcome_inv hr
    rw [hrr] at g1
    cases g1
    obtain ⟨ρ', v', rfl, hst, hwr, hnx, hv⟩ := hR
    obtain ⟨k', ir, hir, hp', he', hk', hv'⟩ := slcO_inv hv
    obtain ⟨obr, hobr, cr, frr, rfl, hrr'⟩ := hwr.blk rb ir _ hir g2
    obtain ⟨hr0, hrcs, hrels⟩ := hrr'.opn rfl
    have hk0' : k' = 0 := by
      rcases Nat.eq_zero_or_pos k' with e | e
      · exact e
      · have : 0 < k' * ir.esz := Nat.mul_pos e hr0
        omega
    subst hk0'
    have hρv' : ρ' bv = some iv' := by rw [hst.ext bv hvn.1]; exact hρv
    have hrbv : rb ≠ bv := by
      rcases g5 with e | e
      · rw [e]; exact c2
      · have := hvn.1; omega
    have hcbv : ir.cb ≠ iv'.cb := fun e => hrbv (hwr.sep _ _ _ _ _ _ hir hρv' g2 g3 e)
    obtain ⟨hl3, hcell3⟩ := loads_cells g2 g4
    have hfresh : ρ A.next = none := hw.fresh (Nat.le_refl _)
    have hle : ρ.le (ρ.add A.next ir) := Ren.le_add hfresh
    have hirdom := hwr.dom rb ir hir
    -- where the result's block lies
    have hircb : ir.cb = i.cb ∨ w.heap.size ≤ ir.cb := by
      rcases hst.fresh rb ir hir with ⟨b0, i0, hb0, e0⟩ | h
      · rcases hρ b0 i0 hb0 with ⟨rfl, rfl⟩ | ⟨rfl, rfl⟩
        · exact .inl e0.symm
        · exact absurd e0.symm hcbv
      · exact .inr h
    have hadd : ∀ x j, ρ.add A.next ir x = some j → (x = A.next ∧ j = ir) ∨ (x ≠ A.next ∧ ρ x = some j) := by
      intro x j h
      unfold Ren.add at h
      split at h
      · cases h; exact .inl ⟨‹_›, rfl⟩
      · exact .inr ⟨‹_›, h⟩
    have hget : ∀ {x y}, ((A.heap.del b).set A.next (Blk.row ((len + m) * esz) (Tree.ofList C 0 .leaf) [] true el 0)).get x = some y → (x = A.next ∧ y = Blk.row ((len + m) * esz) (Tree.ofList C 0 .leaf) [] true el 0) ∨ (x ≠ A.next ∧ x ≠ b ∧ A.heap.get x = some y) := by
      intro x y h
      rw [Tree.get_set] at h
      split at h
      · cases h; exact .inl ⟨‹_›, rfl⟩
      · rw [Tree.get_del] at h
        split at h
        · cases h
        · exact .inr ⟨‹_›, ‹_›, h⟩
    have hnew : RowRel P (ρ.add A.next ir) ir ((len + m) * esz) (Tree.ofList C 0 .leaf) [] true el 0 cr frr := by
      refine plainRow hrr' g6 hcell3 ?_
      rcases Nat.eq_zero_or_pos ((len + m) * esz) with e | e
      · rw [e]; have := hrr'.size; omega
      · have hj : (len + m) * esz - 1 < C.length := by omega
        have := cellAt_lt (hcell3 ((len + m) * esz - 1) C[(len + m) * esz - 1] (by simp [hj]))
        have := hrr'.size
        omega
    -- a block that stays
    have hkeep : ∀ x j y, x ≠ b → ρ x = some j → A.heap.get x = some y → ∃ o, w'.heap[j.cb]? = some o ∧ BlkRel P ρ j y o := by
      intro x j y hxb hx hy
      by_cases hxv : x = bv
      · subst hxv
        rw [hbvi] at hx; cases hx
        rw [hgv] at hy; cases hy
        obtain ⟨o, ho, cv', frv', rfl, hrv'⟩ := hwr.blk x iv' _ hρv' g3
        refine ⟨_, ho, cv', frv', rfl, ⟨hrv'.size, fun k x hk => ?_, hrv'.free, hrv'.mark, hrv'.opn, hrv'.sh0⟩⟩
        have hklt := cellAt_lt hk
        have hj : k < uv.length := by omega
        have hcx := hcell2 k uv[k] (by simp [hj])
        rw [hk] at hcx
        cases hcx
        obtain ⟨v, hv1, hv2⟩ := hrv'.val k uv[k] (by
          unfold cellAt
          rw [ble_iff.2 (show k + 1 ≤ kv by omega)]
          rw [Tree.get_ofList, if_pos (by omega)]
          simp [hj])
        exact ⟨v, hv1, isSc_rel (List.all_eq_true.1 c5 _ (List.getElem_mem _)) hv2⟩
      · obtain ⟨o, ho, hrel⟩ := hw.blk x j y hx hy
        refine ⟨o, ?_, hrel⟩
        rw [hst.frame j.cb (hw.dom x j hx).2 fun b0 i0 hb0 e0 => ?_]
        · exact ho
        · rcases hρ b0 i0 hb0 with ⟨rfl, rfl⟩ | ⟨rfl, rfl⟩
          · exact hxb (hw.sep _ _ _ _ _ _ hx hbi hy hgb e0.symm)
          · exact hxv (hw.sep _ _ _ _ _ _ hx hbvi hy hgv e0.symm)
    have hsepn : ∀ x j y, x ≠ b → ρ x = some j → A.heap.get x = some y → j.cb ≠ ir.cb := by
      intro x j y hxb hx hy e
      rcases hircb with h | h
      · exact hxb (hw.sep _ _ _ _ _ _ hx hbi hy hgb (by rw [e, h]))
      · have := (hw.dom x j hx).2; omega
    refine ⟨ρ.add A.next ir, v', rfl, ⟨hst.os, hst.tape, hst.output, hst.size, fun c hc hun => hst.frame c hc fun b0 i0 hb0 => hun b0 i0 (hρle b0 i0 hb0), fun x hx => ?_, fun x j hj => ?_, hst.low⟩, ⟨fun x j hj => ?_, fun x j y hj hy => ?_, fun x1 x2 j1 j2 y1 y2 hj1 hj2 hy1 hy2 he' => ?_, fun x y hy => ?_, fun x j y hj hy => ?_, hwr.inv⟩, by omega, ?_⟩
    · unfold Ren.add; rw [if_neg (by omega)]
    · rcases hadd x j hj with ⟨rfl, rfl⟩ | ⟨_, hj⟩
      · rcases hircb with h | h
        · exact .inl ⟨b, i, hbi, h.symm⟩
        · exact .inr h
      · exact .inl ⟨x, j, hj, rfl⟩
    · rcases hadd x j hj with ⟨rfl, rfl⟩ | ⟨_, hj⟩
      · exact ⟨by simp, hirdom.2⟩
      · have := hw.dom x j hj
        exact ⟨by show x < A.next + 1; omega, Nat.lt_of_lt_of_le this.2 hst.size⟩
    · rcases hget hy with ⟨rfl, rfl⟩ | ⟨hxn, hxb, hy⟩
      · rcases hadd _ j hj with ⟨_, rfl⟩ | ⟨h', _⟩
        · exact ⟨_, hobr, cr, frr, rfl, hnew⟩
        · exact absurd rfl h'
      · rcases hadd x j hj with ⟨h', _⟩ | ⟨_, hj⟩
        · exact absurd h' hxn
        · obtain ⟨o, ho, hrel⟩ := hkeep x j y hxb hj hy
          exact ⟨o, ho, hrel.mono hle⟩
    · rcases hget hy1 with ⟨e1, _⟩ | ⟨n1, nb1, hy1⟩ <;> rcases hget hy2 with ⟨e2, _⟩ | ⟨n2, nb2, hy2⟩
      · rw [e1, e2]
      · rcases hadd x1 j1 hj1 with ⟨_, f1⟩ | ⟨g1', _⟩
        · rcases hadd x2 j2 hj2 with ⟨g2', _⟩ | ⟨_, hj2⟩
          · exact absurd g2' n2
          · exact absurd (by rw [← he', f1]) (hsepn x2 j2 y2 nb2 hj2 hy2)
        · exact absurd e1 g1'
      · rcases hadd x2 j2 hj2 with ⟨_, f2⟩ | ⟨g2', _⟩
        · rcases hadd x1 j1 hj1 with ⟨g1', _⟩ | ⟨_, hj1⟩
          · exact absurd g1' n1
          · exact absurd (by rw [he', f2]) (hsepn x1 j1 y1 nb1 hj1 hy1)
        · exact absurd e2 g2'
      · rcases hadd x1 j1 hj1 with ⟨g1', _⟩ | ⟨_, hj1⟩
        · exact absurd g1' n1
        · rcases hadd x2 j2 hj2 with ⟨g2', _⟩ | ⟨_, hj2⟩
          · exact absurd g2' n2
          · exact hw.sep _ _ _ _ _ _ hj1 hj2 hy1 hy2 he'
    · rcases hget hy with ⟨rfl, _⟩ | ⟨_, _, hy⟩
      · simp
      · have := hw.top x y hy; show x < A.next + 1; omega
    · rcases hget hy with ⟨rfl, _⟩ | ⟨hxn, _, hy⟩
      · rcases hadd _ j hj with ⟨_, rfl⟩ | ⟨h', _⟩
        · exact hwr.lo rb j _ hir g2
        · exact absurd rfl h'
      · rcases hadd x j hj with ⟨h', _⟩ | ⟨_, hj⟩
        · exact absurd h' hxn
        · exact hw.lo x j y hj hy
    · rw [hv']
      have := VRel.slcO (ρ := ρ.add A.next ir) A.next 0 (len + m) ir (by simp [Ren.add]) hk'
      rw [Nat.zero_mul] at this ⊢
      rw [he']
      exact this
  -- the two roads
  subst hu1 hu2 hu3
  have hal : ∀ (cap : Cap) (c : Nat), VRel ρl (.slc b 0 len cap) (.slice (some ⟨i.cb, i.sh + 0 * i.esz, none⟩) len (i.capN - 0)) →
      LRel ρl [.slc b 0 len cap, .sc u2, .slc bv ov m (.ex mc)] [.slice (some ⟨i.cb, i.sh + 0 * i.esz, none⟩) len (i.capN - 0), u2, .slice (some ⟨iv'.cb, iv'.sh + ov, none⟩) m mc] := fun cap c h1 =>
    .cons _ _ _ _ h1 (.cons _ _ _ _ (.sc _ hpi) (.cons _ _ _ _ (.slcS bv ov m mc iv' hρv) .nil))
  by_cases hroom : len + m ≤ i.capN
  · -- there is room
    have h1 : VRel ρl (.slc b 0 len (.op esz)) (.slice (some ⟨i.cb, i.sh + 0 * i.esz, none⟩) len (i.capN - 0)) := by
      have := VRel.slcO (ρ := ρl) b 0 len i hρb hk
      rw [Nat.zero_mul] at this ⊢
      rw [he]; exact this
    have hsz : i.sh + (len + m) * esz ≤ cb.size := by
      rw [hcsz, he]
      have := Nat.mul_le_mul_right i.esz hroom
      omega
    obtain ⟨rb, Ar, kr, tr, zr, g1, _⟩ := outcome_inv hbig
    exact (hc f _ _ _ _ g1 ρl w _ (hal _ 0 h1) (local_ _ hsz) hb).mono fun e w' hR => finish _ hbig _ _ e w' g1 hR
  · -- there is none
    have hj : i.capN - len < m := by omega
    have hs := sameAll_spec m hsmall (i.capN - len) hj
    have hlj : len + (i.capN - len) = i.capN := by omega
    have h1 : VRel ρl (.slc b 0 len (.ex (len + (i.capN - len)))) (.slice (some ⟨i.cb, i.sh + 0 * i.esz, none⟩) len (i.capN - 0)) := by
      rw [hlj]
      have := VRel.slcS (ρ := ρl) b 0 len i.capN i hρb
      simpa using this
    obtain ⟨rb, Ar, kr, tr, zr, g1, _⟩ := outcome_inv hs
    exact (hc f _ _ _ _ g1 ρl w _ (hal _ 0 h1) (local_ _ (by have := hrb.size; omega)) hb).mono fun e w' hR => finish _ hs _ _ e w' g1 hR

theorem callA_sound (hng : XOk P X) (hm : P.follows .mixedOrders = true) (L : Nat) : ∀ n, CallOk P base (callA P X L n)
  | 0 => by intro f args A v A' h; simp [callA] at h
  | n + 1 => by
    intro f args A v A' h
    simp only [callA] at h
    split at h
    · exact splitA_sound (bodyA_sound hng hm L (callA_sound hng hm L n)) f args A v A' h
    · exact bodyA_sound hng hm L (callA_sound hng hm L n) f args A v A' h
end
end Go.Ab
