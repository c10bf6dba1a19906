/- Symbolic states for walks, part W: append of a row to a row, either of which may be nothing. -/
import Derived.Test.YtfdmlpdhngmbiaaSxV
namespace Go.Sx
open Go.RowKit

/-- A row behind a row. -/
def joinF (f : Nat → List Value) (m : Nat) (g : Nat → List Value) : Nat → List Value := fun i => bif Nat.blt i m then f i else g (i - m)

theorem nblt (i m : Nat) : Nat.blt i m = decide (i < m) := by
  by_cases h : i < m
  · rw [decide_eq_true h]; simpa using h
  · rw [decide_eq_false h]
    cases hb : Nat.blt i m with
    | false => rfl
    | true => exact absurd (by simpa using hb) h

theorem vec_of2 {f g : Nat → List Value} {sz m k : Nat} {rest : List Value} (hf : ∀ i, i < m → (f i).length = sz) (hg : ∀ i, i < k → (g i).length = sz) {arr : Array Value} (ha : arr.toList = flat f m ++ flat g k ++ rest) :
    ∀ i, i < m + k → (joinF f m g i).length = sz ∧ ∀ j v, (joinF f m g i)[j]? = some v → arr[i * sz + j]? = some v := by
  have hl := flat_length hf
  have hl2 := flat_length hg
  intro i hi
  simp only [joinF, nblt]
  by_cases him : i < m
  · simp only [him, decide_true, cond_true]
    refine ⟨hf i him, fun j v hv => ?_⟩
    have hj : j < sz := by rw [← hf i him]; exact (List.getElem?_eq_some_iff.1 hv).1
    have hg' := flat_get hf him hj
    rw [hv] at hg'
    have hlt := (List.getElem?_eq_some_iff.1 hg').1
    rw [← Array.getElem?_toList, ha, List.append_assoc, List.getElem?_append_left hlt]
    exact hg'
  · simp only [him, decide_false, cond_false]
    have hik : i - m < k := by omega
    refine ⟨hg _ hik, fun j v hv => ?_⟩
    have hj : j < sz := by rw [← hg _ hik]; exact (List.getElem?_eq_some_iff.1 hv).1
    have hg' := flat_get hg hik hj
    rw [hv] at hg'
    have hlt := (List.getElem?_eq_some_iff.1 hg').1
    have hidx : i * sz + j = m * sz + ((i - m) * sz + j) := by
      have : i = m + (i - m) := by omega
      rw [this, Nat.add_mul]
      simp only [Nat.add_sub_cancel_left]
      omega
    rw [← Array.getElem?_toList, ha, List.append_assoc, hidx, List.getElem?_append_right (by omega), hl]
    have e2 : m * sz + ((i - m) * sz + j) - m * sz = (i - m) * sz + j := by omega
    rw [e2, List.getElem?_append_left hlt]
    exact hg'

theorem run_append_zero {P : Program} (w : World) (t ty e : TypeId) (i : TypeInfo) (ht : P.underlying t = some (.slice e)) (hi : P.info? e = some i) (b : Option Addr) (m cap : Nat) (xb : Option Addr) (xc : Nat) (hm : m ≤ cap) :
    (Builtin.append_ #[t, t] ty #[.slice b m cap, .slice xb 0 xc]).run P w = .ok (.slice b m cap) w := by
  cases b <;> cases xb <;> simp [Builtin.append_, run_underlying ht, sizeOf, typeInfo, hi, Builtin.lenOf, Builtin.firstCells, loadCells, loadCellsFrom, storeCells, hm]

section
variable {P : Program} {T : TyTab}

/-- A row that the call may turn: what its value is, what it holds. -/
def OldRow (β : Nat → Loc) (ow : Nat → Option Nat) (w : World) (c : Option Nat) (v0 : Value) (e sz m : Nat) (f : Nat → List Value) : Prop :=
  (v0 = .slice none 0 0 ∧ m = 0 ∧ c = none) ∨ ∃ c0, c = some c0 ∧ (((β c0).nil = true ∧ v0 = .slice none 0 0 ∧ m = 0) ∨
    ((β c0).nil = false ∧ ∃ a0, v0 = .slice (some a0) m (β c0).cap ∧ (0 < (β c0).cap → a0 = ⟨(β c0).blk, 0, none⟩) ∧ (β c0).base = 0 ∧ ow (β c0).blk = some c0 ∧ m ≤ (β c0).cap ∧ (β c0).cap ≤ maxLen ∧
      ∃ arr : Array Value, w.heap[(β c0).blk]? = some (.cells arr e (0, 0)) ∧ arr.size = (β c0).cap * sz ∧ ∀ i, i < m → (f i).length = sz ∧ ∀ j v, (f i)[j]? = some v → arr[i * sz + j]? = some v))

def NewRow (w : World) (xv : Value) (k : Nat) (news : List Value) : Prop := ∃ xb xc, xv = .slice xb k xc ∧ (0 < k → ∃ ax, xb = some ax ∧ ∀ j v, news[j]? = some v → w.cell? (ax.add j) = some v)

theorem append_core (hT : TabOK P T) {t e : TypeId} {tds tde : TyD} (htd : T t = some tds) (hds : tds.desc = .slice e) (hte : T e = some tde) (hzl : tde.zero.length = tde.size) {β : Nat → Loc} {ow : Nat → Option Nat} {w : World} {d : Nat} {c : Option Nat} {v0 xv : Value} {m k : Nat} {f g : Nat → List Value} (ty : TypeId)
    (hw : WF ow w) (hcd : c ≠ some d) (hold : OldRow β ow w c v0 e tde.size m f) (hfl : ∀ i, i < m → (f i).length = tde.size) (hgl : ∀ i, i < k → (g i).length = tde.size) (hnew : NewRow w xv k (flat g k)) (h1 : ∀ u ∈ flat g k, u.oneCell' = true)
    (h63 : m + k ≤ maxLen) (hbytes : (m + k) * tde.bytes ≤ 140737488355328) :
    ∃ v' w' β' ow', (Builtin.append_ #[t, t] ty #[v0, xv]).run P w = .ok v' w' ∧ Eff β ow w β' ow' w' c.toList d ∧ (SV.slc d tde.size 0 (m + k)).rel β' v' ∧ Holds β' ow' w' d (.vec e tde.size (m + k) (joinF f m g)) := by
  obtain ⟨ie, ue, g1, _, g3, g4, _, _, ⟨z, g5, g6⟩, _⟩ := info_of hT hte
  have hu := under_slice hT htd hds
  have hzs : z.cells.size = tde.size := by rw [← hzl, ← g6]; simp
  have hnl : (flat g k).length = k * tde.size := flat_length hgl
  have hfll : (flat f m).length = m * tde.size := flat_length hfl
  obtain ⟨xb, xc, rfl, hx⟩ := hnew
  let own : Nat → Option Nat := fun q => if ∃ c0, c = some c0 ∧ ow q = some c0 then none else ow q
  -- a new block
  have grown : ∀ (old : Nat), (Builtin.append_ #[t, t] ty #[v0, .slice xb k xc]).run P w =
      .ok (.slice (some ⟨w.heap.size, 0, none⟩) (m + k) (grownCap w (m + k) old e)) (w.drew.alloc (.cells ((flat f m).toArray ++ (flat g k).toArray ++ Builtin.zeroCells z.cells (grownCap w (m + k) old e - (m + k))) e)) →
      ∃ v' w' β' ow', (Builtin.append_ #[t, t] ty #[v0, .slice xb k xc]).run P w = .ok v' w' ∧ Eff β ow w β' ow' w' c.toList d ∧ (SV.slc d tde.size 0 (m + k)).rel β' v' ∧ Holds β' ow' w' d (.vec e tde.size (m + k) (joinF f m g)) := by
    intro old hrun
    have hge := grownCap_ge w (m + k) old e
    have hcm := grownCap_le_maxLen w (m + k) old e h63
    let l : Loc := ⟨w.heap.size, 0, grownCap w (m + k) old e, false, fun _ => 0⟩
    refine ⟨_, _, setβ β d l, setow own w.heap.size (some d), hrun, ?_, ?_, ?_⟩
    · refine ⟨fun i hi => by simp [setβ, hi], rfl, rfl, rfl, by simp, fun q hq hn => ⟨Below.heap_alloc w.drew _ q hq, ?_⟩, fun q hq i hi => ?_, fun q hq => ?_⟩
      · have : ¬ ∃ c0, c = some c0 ∧ ow q = some c0 := by
          rintro ⟨c0, rfl, h2⟩
          exact hn c0 (by simp) h2
        simp only [setow, Nat.ne_of_lt hq, if_false, own, if_neg this]
      · by_cases hks : q = w.heap.size
        · simp only [setow, hks, if_true, Option.some.injEq] at hi; exact .inr hi.symm
        · simp only [setow, if_neg hks, own] at hi
          split at hi
          · cases hi
          · rename_i hnc
            rcases hq with hq | ⟨c0, h0, h2⟩
            · have := hw q (by simp [hi]); omega
            · exact absurd ⟨c0, by simpa using h0, h2⟩ hnc
      · by_cases hks : q = w.heap.size
        · rw [hks]; simp
        · simp only [setow, if_neg hks, own] at hq
          split at hq
          · exact absurd rfl hq
          · have := hw q hq; simp; omega
    · simp only [SV.rel, setβ, if_true, l, Bool.false_eq_true, if_false]
      exact ⟨_, by rw [Nat.sub_zero], by omega, fun _ => by simp [Loc.addr]⟩
    · simp only [Holds, setβ, if_true, l, Bool.false_eq_true, if_false]
      refine ⟨trivial, by simp [setow], hge, hcm, _, heap_alloc_new w.drew _, ?_, ?_⟩
      · simp only [Array.size_append, List.size_toArray, size_zeroCells, hzs, hfll, hnl]
        rw [← Nat.add_mul, ← Nat.add_mul]
        congr 1
        omega
      · exact vec_of2 hfl hgl (rest := (Builtin.zeroCells z.cells (grownCap w (m + k) old e - (m + k))).toList) (by simp only [Array.toList_append])
  -- the same value, in other hands
  have hEff : ∀ (l : Loc) (w' : World), (∀ q, q < w.heap.size → (∀ c0 ∈ c.toList, ow q ≠ some c0) → w'.heap[q]? = w.heap[q]?) → w'.os = w.os → w'.tape = w.tape → w'.output = w.output → w.heap.size ≤ w'.heap.size →
      Eff β ow w (setβ β d l) (fun q => if ∃ c0, c = some c0 ∧ ow q = some c0 then some d else ow q) w' c.toList d := by
    intro l w' h2 h3 h4 h5 h6
    refine ⟨fun i hi => by simp [setβ, hi], h3, h4, h5, h6, fun q hq hn => ⟨h2 q hq hn, ?_⟩, fun q hq i hi => ?_, fun q hq => ?_⟩
    · have : ¬ ∃ c0, c = some c0 ∧ ow q = some c0 := by
        rintro ⟨c0, rfl, h7⟩
        exact hn c0 (by simp) h7
      simp only [if_neg this]
    · split at hi
      · cases hi; exact .inr rfl
      · rename_i hnc
        rcases hq with hq | ⟨c0, h0, h2⟩
        · have := hw q (by simp [hi]); omega
        · exact absurd ⟨c0, by simpa using h0, h2⟩ hnc
    · split at hq
      · rename_i hc
        obtain ⟨c0, _, h2⟩ := hc
        exact Nat.lt_of_lt_of_le (hw q (by simp [h2])) h6
      · exact Nat.lt_of_lt_of_le (hw q hq) h6
  have nilcase : v0 = .slice none 0 0 → m = 0 → ∃ v' w' β' ow', (Builtin.append_ #[t, t] ty #[v0, .slice xb k xc]).run P w = .ok v' w' ∧ Eff β ow w β' ow' w' c.toList d ∧ (SV.slc d tde.size 0 (m + k)).rel β' v' ∧ Holds β' ow' w' d (.vec e tde.size (m + k) (joinF f m g)) := by
    rintro rfl rfl
    rcases Nat.eq_zero_or_pos k with hk | hk
    · subst hk
      refine ⟨_, _, _, _, run_append_zero w t ty e ie hu g1 none 0 0 xb xc (Nat.le_refl _), hEff ⟨0, 0, 0, true, fun _ => 0⟩ w (fun _ _ _ => rfl) rfl rfl rfl (Nat.le_refl _), ?_, ?_⟩
      · simp [SV.rel, setβ]
      · simp [Holds, setβ]
    · obtain ⟨ax, rfl, hcell⟩ := hx hk
      refine grown 0 ?_
      have := run_append_nil (P := P) w t ty e ie z hu g1 g5 ax k xc (flat g k) (by rw [g3]; exact hnl) hcell hk (by simp only [maxLen] at h63; omega) (by rw [g4]; simp only [Nat.zero_add] at hbytes; omega)
      simpa [flat] using this
  rcases hold with ⟨e1, e2, _⟩ | ⟨c0, hc0, ⟨_, e1, e2⟩ | ⟨hnil, a0, rfl, ha0, v1, v2, v3, v4, arr, v5, v6, v7⟩⟩
  · exact nilcase e1 e2
  · exact nilcase e1 e2
  · subst hc0
    have hcne : c0 ≠ d := fun e => hcd (by rw [e])
    have htake : arr.toList.take (m * tde.size) = flat f m := by
      apply List.ext_getElem?
      intro q
      rw [List.getElem?_take]
      by_cases hq : q < m * tde.size
      · rw [if_pos hq]
        have hpos : 0 < tde.size := by
          rcases Nat.eq_zero_or_pos tde.size with h | h
          · rw [h] at hq; omega
          · exact h
        have hqd : q / tde.size < m := Nat.div_lt_of_lt_mul (by rw [Nat.mul_comm]; exact hq)
        have hqm := Nat.mod_lt q hpos
        have hqe : q / tde.size * tde.size + q % tde.size = q := by rw [Nat.mul_comm]; exact Nat.div_add_mod q tde.size
        have hg' := flat_get hfl hqd hqm
        rw [hqe] at hg'
        rw [hg']
        have hlt : q % tde.size < (f (q / tde.size)).length := by rw [hfl _ hqd]; exact hqm
        rw [List.getElem?_eq_getElem hlt]
        have := (v7 (q / tde.size) (by omega)).2 (q % tde.size) _ (List.getElem?_eq_getElem hlt)
        rw [hqe] at this
        simpa using this
      · rw [if_neg hq, List.getElem?_eq_none (by omega)]
    have harr : arr.toList = flat f m ++ flat g 0 ++ arr.toList.drop (m * tde.size) := by rw [← htake]; simp [flat]
    rcases Nat.eq_zero_or_pos k with hk | hk
    · subst hk
      refine ⟨_, _, _, _, run_append_zero w t ty e ie hu g1 (some a0) m (β c0).cap xb xc v3, hEff ⟨(β c0).blk, 0, (β c0).cap, false, fun _ => 0⟩ w (fun _ _ _ => rfl) rfl rfl rfl (Nat.le_refl _), ?_, ?_⟩
      · simp only [SV.rel, setβ, if_true, Bool.false_eq_true, if_false]
        exact ⟨a0, by rw [Nat.sub_zero]; rfl, by omega, fun h => by rw [ha0 h]; simp [Loc.addr]⟩
      · simp only [Holds, setβ, if_true, Bool.false_eq_true, if_false]
        exact ⟨trivial, by simp [v2], v3, v4, arr, v5, v6, vec_of2 hfl hgl harr⟩
    · obtain ⟨ax, rfl, hcell⟩ := hx hk
      by_cases hroom : m + k ≤ (β c0).cap
      · have ha := ha0 (by omega)
        subst ha
        have hle : (m + k) * tde.size ≤ (β c0).cap * tde.size := Nat.mul_le_mul_right _ hroom
        rw [Nat.add_mul] at hle
        have hrun := run_append_room (P := P) w t ty e ie hu g1 (β c0).blk m (β c0).cap arr v5 ax k xc (flat g k) (by rw [g3]; exact hnl) hcell h1 hroom (by rw [g3, hnl, v6]; exact hle)
        rw [g3] at hrun
        refine ⟨_, _, _, _, hrun, hEff ⟨(β c0).blk, 0, (β c0).cap, false, fun _ => 0⟩ _ (fun q hq hn => setRow_other w _ q _ (fun e => hn c0 (by simp) (by rw [e]; exact v2))) rfl rfl rfl (by simp), ?_, ?_⟩
        · simp only [SV.rel, setβ, if_true, Bool.false_eq_true, if_false]
          exact ⟨_, by rw [Nat.sub_zero], by omega, fun _ => by simp [Loc.addr]⟩
        · simp only [Holds, setβ, if_true, Bool.false_eq_true, if_false]
          refine ⟨trivial, by simp [v2], hroom, v4, _, setRow_heap w _ arr _ e _ v5, ?_, ?_⟩
          · simp only [List.size_toArray, List.length_append, List.length_take, List.length_drop, Array.length_toList]
            omega
          · exact vec_of2 hfl hgl (rest := arr.toList.drop (m * tde.size + (flat g k).length)) (by simp only [htake])
      · refine grown (β c0).cap ?_
        have holds : ∀ j v, (flat f m)[j]? = some v → w.cell? (a0.add j) = some v := by
          intro j v hj
          have hjl := (List.getElem?_eq_some_iff.1 hj).1
          have hpos : 0 < tde.size := by
            rcases Nat.eq_zero_or_pos tde.size with h | h
            · rw [hfll, h] at hjl; omega
            · exact h
          have hm0 : 0 < m := by
            rcases Nat.eq_zero_or_pos m with h | h
            · rw [hfll, h] at hjl; omega
            · exact h
          have ha := ha0 (by omega)
          rw [← htake, List.getElem?_take] at hj
          split at hj
          · rw [ha, Addr.add_lit, cell_of_row w _ _ arr e _ v5, Nat.zero_add]
            simpa using hj
          · cases hj
        exact run_append_grow (P := P) w t ty e ie z hu g1 g5 a0 m (β c0).cap (flat f m) (by rw [g3]; exact hfll) holds ax k xc (flat g k) (by rw [g3]; exact hnl) hcell (by omega) (by simp only [maxLen] at h63; omega) (growslice_fits (by omega) (by rw [g4]; exact hbytes))

variable {S : St} {d : Nat} {o : Oper}

/-- What an operand is, as a row that may be turned; as a row that is read. -/
def OldOp (S : St) (s : Operand) (rd : List Nat) (c : Option Nat) (e sz m : Nat) (f : Nat → List Value) : Prop :=
  ∀ (β : Nat → Loc) (ow : Nat → Option Nat) (w : World) (v : Value), (∀ X, S.ev s = some X → X.rel β v) → (∀ c ∈ rd, ∀ ch, S.mem.get c = some ch → Holds β ow w c ch) → OldRow β ow w c v e sz m f ∧ ∀ i, i < m → (f i).length = sz
def NewOp (S : St) (x : Operand) (rd : List Nat) (sz k : Nat) (g : Nat → List Value) : Prop :=
  ∀ (β : Nat → Loc) (ow : Nat → Option Nat) (w : World) (v : Value), (∀ X, S.ev x = some X → X.rel β v) → (∀ c ∈ rd, ∀ ch, S.mem.get c = some ch → Holds β ow w c ch) → NewRow w v k (flat g k) ∧ ∀ i, i < k → (g i).length = sz

theorem old_nil {s : Operand} (hs : S.ev s = some (XV.val (.slice none 0 0))) (rd : List Nat) (e sz : Nat) (f : Nat → List Value) : OldOp S s rd none e sz 0 f := by
  intro β ow w v h1 _
  have := h1 _ hs
  simp only [XV.rel, CV.rel, SV.rel] at this
  exact ⟨.inl ⟨this, rfl, rfl⟩, fun i hi => by omega⟩
theorem old_vec {s : Operand} {c e sz m n : Nat} {f : Nat → List Value} {rd : List Nat} (hs : S.ev s = some (XV.sv (.slc c sz 0 m))) (hm : S.mem.get c = some (.vec e sz n f)) (hmn : m ≤ n) (hrd : nmem c rd = true) : OldOp S s rd (some c) e sz m f := by
  intro β ow w v h1 h2
  have hv := h1 _ hs
  have hh := h2 c ((nmem_iff c rd).1 hrd) _ hm
  simp only [XV.rel, CV.rel, SV.rel] at hv
  simp only [Holds] at hh
  by_cases hn : (β c).nil = true
  · rw [if_pos hn] at hv hh
    obtain ⟨e1, _, e2⟩ := hv
    exact ⟨.inr ⟨c, rfl, .inl ⟨hn, e1, e2⟩⟩, fun i hi => by omega⟩
  · rw [if_neg hn] at hv hh
    obtain ⟨a0, e1, e2, e3⟩ := hv
    obtain ⟨v1, v2, v3, v4, arr, v5, v6, v7⟩ := hh
    refine ⟨.inr ⟨c, rfl, .inr ⟨by simpa using hn, a0, e1, fun h => by rw [e3 h]; simp [Loc.addr, v1], v1, v2, by omega, v4, arr, v5, v6, fun i hi => v7 i (by omega)⟩⟩, fun i hi => (v7 i (by omega)).1⟩

theorem flat_cells {w : World} {a : Addr} {sz k : Nat} {g : Nat → List Value} (hl : ∀ i, i < k → (g i).length = sz) (hc : ∀ i, i < k → ∀ j v, (g i)[j]? = some v → w.cell? (a.add (i * sz + j)) = some v) : ∀ j v, (flat g k)[j]? = some v → w.cell? (a.add j) = some v := by
  intro q v hq
  have hfl := flat_length hl
  have hql := (List.getElem?_eq_some_iff.1 hq).1
  have hpos : 0 < sz := by
    rcases Nat.eq_zero_or_pos sz with h | h
    · rw [hfl, h] at hql; omega
    · exact h
  have hqd : q / sz < k := Nat.div_lt_of_lt_mul (by rw [Nat.mul_comm, ← hfl]; exact hql)
  have hqm := Nat.mod_lt q hpos
  have hqe : q / sz * sz + q % sz = q := by rw [Nat.mul_comm]; exact Nat.div_add_mod q sz
  have hg := flat_get hl hqd hqm
  rw [hqe, hq] at hg
  have := hc _ hqd _ v hg.symm
  rwa [hqe] at this

theorem new_vec {x : Operand} {c e sz lo k n : Nat} {f : Nat → List Value} {rd : List Nat} (hx : S.ev x = some (XV.sv (.slc c sz lo k))) (hm : S.mem.get c = some (.vec e sz n f)) (hn : lo + k ≤ n) (hrd : nmem c rd = true) : NewOp S x rd sz k (fun i => f (lo + i)) := by
  intro β ow w v h1 h2
  have hv := h1 _ hx
  have hh := h2 c ((nmem_iff c rd).1 hrd) _ hm
  simp only [XV.rel, CV.rel, SV.rel] at hv
  simp only [Holds] at hh
  by_cases hnil : (β c).nil = true
  · rw [if_pos hnil] at hv hh
    obtain ⟨e1, _, e2⟩ := hv
    subst e2
    exact ⟨⟨none, 0, e1, fun h => by omega⟩, fun i hi => by omega⟩
  · rw [if_neg hnil] at hv hh
    obtain ⟨a0, e1, e2, e3⟩ := hv
    obtain ⟨v1, v2, v3, v4, arr, v5, v6, v7⟩ := hh
    have hl : ∀ i, i < k → (f (lo + i)).length = sz := fun i hi => (v7 (lo + i) (by omega)).1
    refine ⟨⟨some a0, _, e1, fun hk => ⟨a0, rfl, flat_cells hl fun i hi j v hj => ?_⟩⟩, hl⟩
    have := (v7 (lo + i) (by omega)).2 j v hj
    rw [e3 (by omega)]
    simp only [Loc.addr, v1, Nat.zero_add, Addr.add_lit]
    rw [cell_of_row w _ _ arr e _ v5]
    rw [← this]
    congr 1
    rw [Nat.add_mul]; omega
theorem new_ro {x : Operand} {c sz lo k n : Nat} {f : Nat → List Value} {rd : List Nat} (hx : S.ev x = some (XV.sv (.slc c sz lo k))) (hm : S.mem.get c = some (.ro sz n f)) (hn : lo + k ≤ n) (hrd : nmem c rd = true) : NewOp S x rd sz k (fun i => f (lo + i)) := by
  intro β ow w v h1 h2
  have hv := h1 _ hx
  have hh := h2 c ((nmem_iff c rd).1 hrd) _ hm
  simp only [XV.rel, CV.rel, SV.rel] at hv
  simp only [Holds] at hh
  by_cases hnil : (β c).nil = true
  · rw [if_pos hnil] at hv hh
    obtain ⟨e1, _, e2⟩ := hv
    subst e2
    exact ⟨⟨none, 0, e1, fun h => by omega⟩, fun i hi => by omega⟩
  · rw [if_neg hnil] at hv hh
    obtain ⟨a0, e1, e2, e3⟩ := hv
    obtain ⟨v1, v2, v7⟩ := hh
    have hl : ∀ i, i < k → (f (lo + i)).length = sz := fun i hi => (v7 (lo + i) (by omega)).1
    refine ⟨⟨some a0, _, e1, fun hk => ⟨a0, rfl, flat_cells hl fun i hi j v hj => ?_⟩⟩, hl⟩
    have := (v7 (lo + i) (by omega)).2 j v hj
    rw [e3 (by omega), loc_add]
    rw [← this]
    congr 2
    rw [Nat.add_mul]; omega

theorem flat_one {g : Nat → List Value} : ∀ {k : Nat}, (∀ i, i < k → ((g i).all fun v => v.oneCell') = true) → ∀ u ∈ flat g k, u.oneCell' = true
  | 0, _, u, hu => by simp [flat] at hu
  | k + 1, h, u, hu => by
    simp only [flat, List.mem_append] at hu
    rcases hu with hu | hu
    · exact flat_one (fun i hi => h i (by omega)) u hu
    · exact List.all_eq_true.1 (h k (by omega)) u hu

/-- 'append(s, x...)'. -/
theorem append_op (hT : TabOK P T) {s x : Operand} {t e : TypeId} {tds tde : TyD} (ho : o.op = .call { callee := .builtin .append, args := #[s, x], argTypes := #[t, t] }) (htd : T t = some tds) (hds : tds.desc = .slice e) (hte : T e = some tde) (hzl : Nat.beq tde.zero.length tde.size = true)
    {c : Option Nat} {m k : Nat} {f g : Nat → List Value} (rd : List Nat) (hs : OldOp S s rd c e tde.size m f) (hx : NewOp S x rd tde.size k g) (hcd : (match c with | some c0 => Nat.beq c0 d | none => false) = false) (h1 : ∀ i, i < k → ((g i).all fun v => v.oneCell') = true)
    (h63 : m + k ≤ maxLen) (hbytes : (m + k) * tde.bytes ≤ 140737488355328) : OpSound P S d o { v := XV.sv (.slc d tde.size 0 (m + k)), upd := [(d, .vec e tde.size (m + k) (joinF f m g))], wr := c.toList } rd := by
  intro β ow w ac K' Q hw _ hops hr hK
  obtain ⟨a1, a2⟩ := hs β ow w _ (hops s (by rw [ho]; simp [Op.operands, Call.operands])) hr
  obtain ⟨b1, b2⟩ := hx β ow w _ (hops x (by rw [ho]; simp [Op.operands, Call.operands])) hr
  have hcd' : c ≠ some d := by
    rintro rfl
    exact absurd hcd (by simp)
  obtain ⟨v', w', β', ow', r1, r2, r3, r4⟩ := append_core hT htd hds hte (Nat.eq_of_beq_eq_true hzl) o.type hw hcd' a1 a2 b2 b1 (flat_one h1) h63 hbytes
  refine upon_value (x := v') ?_ (hK β' ow' w' v' r2 r3 (fun c' ch hc => ?_))
  · simp only [execOp, ho, resolve, invoke, builtin, Sem.run_bind, Sem.run_pure, Result.andThen_ok, List.map_toArray, List.map_cons, List.map_nil, r1]
  · simp only [Mem.get, nbeq] at hc
    by_cases hcc : d = c'
    · subst hcc
      simp only [decide_true, cond_true, Option.some.injEq] at hc
      subst hc
      exact r4
    · simp [hcc] at hc
end
end Go.Sx
