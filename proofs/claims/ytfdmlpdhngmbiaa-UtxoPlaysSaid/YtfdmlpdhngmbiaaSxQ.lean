/- Symbolic states for walks, part Q: append of one element to a row of plain elements. -/
import Derived.Test.YtfdmlpdhngmbiaaSxP
import Derived.Laws.AppendOwn
namespace Go.Sx
open Go.RowKit

def flat (f : Nat → List Value) : Nat → List Value
  | 0 => []
  | m + 1 => flat f m ++ f m
theorem flat_length {f : Nat → List Value} {sz : Nat} : ∀ {m : Nat}, (∀ i, i < m → (f i).length = sz) → (flat f m).length = m * sz
  | 0, _ => by simp [flat]
  | m + 1, h => by
    simp only [flat, List.length_append]
    rw [flat_length (fun i hi => h i (by omega)), h m (by omega), Nat.add_mul, Nat.one_mul]
theorem flat_get {f : Nat → List Value} {sz : Nat} : ∀ {m : Nat}, (∀ i, i < m → (f i).length = sz) → ∀ {i j : Nat}, i < m → j < sz → (flat f m)[i * sz + j]? = (f i)[j]?
  | 0, _, i, j, hi, _ => by omega
  | m + 1, h, i, j, hi, hj => by
    have hl := flat_length (f := f) (sz := sz) (m := m) (fun i hi => h i (by omega))
    simp only [flat]
    by_cases him : i = m
    · subst him
      rw [List.getElem?_append_right (by omega), hl]
      congr 1
      omega
    · have : i * sz + j < m * sz := by
        have h1 : i + 1 ≤ m := by omega
        have h2 := Nat.mul_le_mul_right sz h1
        rw [Nat.add_mul, Nat.one_mul] at h2
        omega
      rw [List.getElem?_append_left (by omega)]
      exact flat_get (fun i hi => h i (by omega)) (by omega) hj

/-- A row one longer. -/
def snocF (f : Nat → List Value) (m : Nat) (news : List Value) : Nat → List Value := fun i => bif Nat.blt i m then f i else news

theorem vec_of {f : Nat → List Value} {sz m : Nat} {news rest : List Value} (hf : ∀ i, i < m → (f i).length = sz) (hn : news.length = sz) {arr : Array Value} (ha : arr.toList = flat f m ++ news ++ rest) :
    ∀ i, i < m + 1 → (snocF f m news i).length = sz ∧ ∀ j v, (snocF f m news i)[j]? = some v → arr[i * sz + j]? = some v := by
  have hl := flat_length hf
  intro i hi
  by_cases him : i < m
  · have e : snocF f m news i = f i := by
      have hb : Nat.blt i m = true := by simpa using him
      simp only [snocF, hb, cond_true]
    rw [e]
    refine ⟨hf i him, fun j v hv => ?_⟩
    have hj : j < sz := by rw [← hf i him]; exact (List.getElem?_eq_some_iff.1 hv).1
    have hg := flat_get hf him hj
    rw [hv] at hg
    have hlt := (List.getElem?_eq_some_iff.1 hg).1
    rw [← Array.getElem?_toList, ha, List.append_assoc, List.getElem?_append_left hlt]
    exact hg
  · have e : snocF f m news i = news := by
      have hb : Nat.blt i m = false := by
        cases hb : Nat.blt i m with
        | false => rfl
        | true => exact absurd (by simpa using hb) him
      simp only [snocF, hb, cond_false]
    have him' : i = m := by omega
    rw [e]
    refine ⟨hn, fun j v hv => ?_⟩
    have hj : j < news.length := (List.getElem?_eq_some_iff.1 hv).1
    rw [him', ← Array.getElem?_toList, ha, List.append_assoc, List.getElem?_append_right (by omega), hl]
    have e2 : m * sz + j - m * sz = j := by omega
    rw [e2, List.getElem?_append_left hj]
    exact hv

section
variable {P : Program} {T : TyTab} {S : St} {d : Nat} {o : Oper}

theorem append1_op (hT : TabOK P T) {s x : Operand} {t e : TypeId} {tds tde : TyD} (ho : o.op = .call { callee := .builtin .append, args := #[s, x], argTypes := #[t, t] }) (htd : T t = some tds) (hds : tds.desc = .slice e) (hte : T e = some tde)
    {c m n cx : Nat} {e' : TypeId} {f : Nat → List Value} {cs : List SV} (news : List Value) (hzl : Nat.beq tde.zero.length tde.size = true) (hs : S.ev s = some (XV.sv (.slc c tde.size 0 m))) (hm : S.mem.get c = some (.vec e tde.size n f)) (hmn : m ≤ n)
    (hx : S.ev x = some (XV.sv (.slc cx tde.size 0 1))) (hmx : S.mem.get cx = some (.cells e' cs)) (hcs : cs = news.map .raw) (hnl : Nat.beq news.length tde.size = true) (h1 : news.all (fun v => v.oneCell') = true) (h63 : m + 1 ≤ maxLen) (hbytes : (m + 1) * tde.bytes ≤ 140737488355328) :
    OpSound P S d o { v := XV.sv (.slc d tde.size 0 (m + 1)), upd := [(d, .vec e tde.size (m + 1) (snocF f m news))], wr := [c] } [c, cx] := by
  have hzl := Nat.eq_of_beq_eq_true hzl
  have hnl := Nat.eq_of_beq_eq_true hnl
  have hne : news ≠ [] ∨ tde.size = 0 := by
    rcases Nat.eq_zero_or_pos tde.size with h | h
    · exact .inr h
    · exact .inl (fun e => by rw [e] at hnl; simp at hnl; omega)
  obtain ⟨ie, ue, g1, _, g3, g4, _, _, ⟨z, g5, g6⟩, _⟩ := info_of hT hte
  have hu := under_slice hT htd hds
  have hzs : z.cells.size = tde.size := by rw [← hzl, ← g6]; simp
  intro β ow w ac K' Q hw hfr hops hr hK
  have e1 := hops s (by rw [ho]; simp [Op.operands, Call.operands]) _ hs
  have e2 := hops x (by rw [ho]; simp [Op.operands, Call.operands]) _ hx
  have hv := hr c (by simp) _ hm
  obtain ⟨n0, n1, n2, arrx, n3, n4⟩ := hr cx (by simp) _ hmx
  simp only [XV.rel, CV.rel, SV.rel, n0, Bool.false_eq_true, if_false] at e2
  obtain ⟨ax, e3, e4, e5⟩ := e2
  have hax : ax = ⟨(β cx).blk, 0, none⟩ := by rw [e5 (by omega)]; simp [Loc.addr, n1]
  have hxl : arrx.toList = news := by
    subst hcs
    have : ∀ (l r : List Value), Rels β (l.map .raw) r → r = l := by
      intro l
      induction l with
      | nil => intro r h; exact h
      | cons y t ih => rintro r ⟨v, r', rfl, h1, h2⟩; simp only [SV.rel] at h1; rw [h1, ih r' h2]
    exact this _ _ n4
  have hnews : ∀ j v, news[j]? = some v → w.cell? (ax.add j) = some v := by
    intro j v hj
    rw [hax, Addr.add_lit, cell_of_row w _ _ arrx e' _ n3, Nat.zero_add]
    rw [← hxl] at hj
    simpa using hj
  have hnl1 : news.length = 1 * ie.size := by rw [g3, Nat.one_mul]; exact hnl
  have hone : ∀ u ∈ news, u.oneCell' = true := fun u hu => List.all_eq_true.1 h1 u hu
  -- a new block
  have grown : ∀ (v0 : Value) (old : Nat), ac.eval s = v0 → (∀ i, i < m → (f i).length = tde.size) → (Builtin.append_ #[t, t] o.type #[v0, .slice (some ax) 1 ((β cx).cap - 0)]).run P w =
      .ok (.slice (some ⟨w.heap.size, 0, none⟩) (m + 1) (grownCap w (m + 1) old e)) (w.drew.alloc (.cells ((flat f m).toArray ++ news.toArray ++ Builtin.zeroCells z.cells (grownCap w (m + 1) old e - (m + 1))) e)) → o.wp P ac w K' Q := by
    intro v0 old hv0 hfl hrun
    have hge := grownCap_ge w (m + 1) old e
    have hcm := grownCap_le_maxLen w (m + 1) old e h63
    let l : Loc := ⟨w.heap.size, 0, grownCap w (m + 1) old e, false, fun _ => 0⟩
    have hE : Eff β ow w (setβ β d l) (setow (fun k => if ow k = some c then none else ow k) w.heap.size (some d)) (w.drew.alloc (.cells ((flat f m).toArray ++ news.toArray ++ Builtin.zeroCells z.cells (grownCap w (m + 1) old e - (m + 1))) e)) [c] d := by
      refine ⟨fun i hi => by simp [setβ, hi], rfl, rfl, rfl, by simp, fun k hk hn => ⟨Below.heap_alloc w.drew _ k hk, ?_⟩, fun k hk i hi => ?_, fun k hk => ?_⟩
      · have : ow k ≠ some c := hn c (by simp)
        simp [setow, Nat.ne_of_lt hk, this]
      · by_cases hks : k = w.heap.size
        · simp only [setow, hks, if_true, Option.some.injEq] at hi; exact .inr hi.symm
        · simp only [setow, if_neg hks] at hi
          split at hi
          · cases hi
          · rename_i hnc
            rcases hk with hk | ⟨c0, h0, h2⟩
            · have := hw k (by simp [hi]); omega
            · simp only [List.mem_singleton] at h0; subst h0; exact absurd h2 hnc
      · by_cases hks : k = w.heap.size
        · rw [hks]; simp
        · simp only [setow, if_neg hks] at hk
          split at hk
          · exact absurd rfl hk
          · have := hw k hk; simp; omega
    refine upon_value (x := .slice (some ⟨w.heap.size, 0, none⟩) (m + 1) (grownCap w (m + 1) old e)) ?_ (hK _ _ _ _ hE ?_ (fun c' ch hc => ?_))
    · simp only [execOp, ho, resolve, invoke, builtin, Sem.run_bind, Sem.run_pure, Result.andThen_ok, List.map_toArray, List.map_cons, List.map_nil, hv0, e3, hrun]
    · simp only [XV.rel, CV.rel, SV.rel, setβ, if_true, l, Bool.false_eq_true, if_false]
      exact ⟨_, by rw [Nat.sub_zero], by omega, fun _ => by simp [Loc.addr]⟩
    · simp only [Mem.get, nbeq] at hc
      by_cases hcc : d = c'
      · subst hcc
        simp only [decide_true, cond_true, Option.some.injEq] at hc
        subst hc
        simp only [Holds, setβ, if_true, l, Bool.false_eq_true, if_false]
        refine ⟨trivial, by simp [setow], hge, hcm, _, heap_alloc_new w.drew _, ?_, ?_⟩
        · simp only [Array.size_append, List.size_toArray, size_zeroCells, hzs, flat_length hfl, hnl]
          have : m * tde.size + tde.size = (m + 1) * tde.size := by rw [Nat.add_mul, Nat.one_mul]
          rw [this, ← Nat.add_mul]
          congr 1
          omega
        · exact vec_of hfl hnl (rest := (Builtin.zeroCells z.cells (grownCap w (m + 1) old e - (m + 1))).toList) (by simp only [Array.toList_append])
      · simp [hcc] at hc
  simp only [XV.rel, CV.rel, SV.rel] at e1
  simp only [Holds] at hv
  by_cases hnil : (β c).nil = true
  · rw [if_pos hnil] at hv e1
    obtain ⟨e1, _, rfl⟩ := e1
    refine grown _ 0 e1 (fun i hi => by omega) ?_
    have := run_append_nil (P := P) w t o.type e ie z hu g1 g5 ax 1 ((β cx).cap - 0) news hnl1 hnews (by omega) (by omega) (by rw [g4]; simp only [Nat.zero_add] at hbytes; omega)
    simpa [flat] using this
  · rw [if_neg hnil] at hv e1
    obtain ⟨a0, e1, e6, e7⟩ := e1
    obtain ⟨v1, v2, v3, v4, arr, v5, v6, v7⟩ := hv
    have hfl : ∀ i, i < m → (f i).length = tde.size := fun i hi => (v7 i (by omega)).1
    have hsub : (β c).cap - 0 = (β c).cap := Nat.sub_zero _
    by_cases hroom : m + 1 ≤ (β c).cap
    · have ha0 : a0 = ⟨(β c).blk, 0, none⟩ := by rw [e7 (by omega)]; simp [Loc.addr, v1]
      have hle : (m + 1) * tde.size ≤ (β c).cap * tde.size := Nat.mul_le_mul_right _ hroom
      have hle' : m * tde.size + tde.size ≤ arr.size := by rw [v6]; rw [Nat.add_mul, Nat.one_mul] at hle; exact hle
      have hrun := run_append_room (P := P) w t o.type e ie hu g1 (β c).blk m (β c).cap arr v5 ax 1 ((β cx).cap - 0) news hnl1 hnews hone hroom (by rw [g3, hnl]; exact hle')
      rw [g3] at hrun
      have htake : arr.toList.take (m * tde.size) = flat f m := by
        apply List.ext_getElem?
        intro q
        rw [List.getElem?_take]
        have hfll := flat_length hfl
        by_cases hq : q < m * tde.size
        · rw [if_pos hq]
          have hpos : 0 < tde.size := by
            rcases Nat.eq_zero_or_pos tde.size with h | h
            · rw [h] at hq; omega
            · exact h
          have hqd : q / tde.size < m := Nat.div_lt_of_lt_mul (by rw [Nat.mul_comm]; exact hq)
          have hqm := Nat.mod_lt q hpos
          have hqe : q / tde.size * tde.size + q % tde.size = q := by rw [Nat.mul_comm]; exact Nat.div_add_mod q tde.size
          have hg := flat_get hfl hqd hqm
          rw [hqe] at hg
          rw [hg]
          have hlt : q % tde.size < (f (q / tde.size)).length := by rw [hfl _ hqd]; exact hqm
          rw [List.getElem?_eq_getElem hlt]
          have := (v7 (q / tde.size) (by omega)).2 (q % tde.size) _ (List.getElem?_eq_getElem hlt)
          rw [hqe] at this
          simpa using this
        · rw [if_neg hq, List.getElem?_eq_none (by omega)]
      let l : Loc := ⟨(β c).blk, 0, (β c).cap, false, fun _ => 0⟩
      let rowv : Array Value := (arr.toList.take (m * tde.size) ++ news ++ arr.toList.drop (m * tde.size + news.length)).toArray
      have hE : Eff β ow w (setβ β d l) (fun k => if ow k = some c then (if k = (β c).blk then some d else none) else ow k) (w.setRow (β c).blk rowv) [c] d := by
        refine ⟨fun i hi => by simp [setβ, hi], rfl, rfl, rfl, by simp, fun k hk hn => ?_, fun k hk i hi => ?_, fun k hk => ?_⟩
        · have hkc : ow k ≠ some c := hn c (by simp)
          exact ⟨setRow_other w _ k _ (fun e => hkc (by rw [e]; exact v2)), by simp [hkc]⟩
        · rcases hk with hk | ⟨c0, h0, h2⟩
          · have hn : ow k = none := by
              cases ho : ow k with
              | none => rfl
              | some y => have := hw k (by simp [ho]); omega
            simp [hn] at hi
          · simp only [List.mem_singleton] at h0
            subst h0
            simp only [h2, if_true] at hi
            split at hi
            · cases hi; exact .inr rfl
            · cases hi
        · simp only [setRow_size]
          refine hw k (fun e => hk ?_)
          simp [e]
      refine upon_value (x := .slice (some ⟨(β c).blk, 0, none⟩) (m + 1) (β c).cap) ?_ (hK _ _ _ _ hE ?_ (fun c' ch hc => ?_))
      · simp only [execOp, ho, resolve, invoke, builtin, Sem.run_bind, Sem.run_pure, Result.andThen_ok, List.map_toArray, List.map_cons, List.map_nil, e1, e3, hsub]
        rw [ha0]
        simp only [hrun, Result.andThen_ok, rowv]
      · simp only [XV.rel, CV.rel, SV.rel, setβ, if_true, l, Bool.false_eq_true, if_false]
        exact ⟨_, by rw [Nat.sub_zero], by omega, fun _ => by simp [Loc.addr]⟩
      · simp only [Mem.get, nbeq] at hc
        by_cases hcc : d = c'
        · subst hcc
          simp only [decide_true, cond_true, Option.some.injEq] at hc
          subst hc
          simp only [Holds, setβ, if_true, l, Bool.false_eq_true, if_false]
          refine ⟨trivial, by simp [v2], hroom, v4, rowv, setRow_heap w _ arr _ e _ v5, ?_, ?_⟩
          · simp only [rowv, List.size_toArray, List.length_append, List.length_take, List.length_drop, Array.length_toList]
            omega
          · exact vec_of hfl hnl (rest := arr.toList.drop (m * tde.size + news.length)) (by simp only [rowv, htake])
        · simp [hcc] at hc
    · refine grown _ (β c).cap e1 hfl ?_
      have holds : ∀ j v, (flat f m)[j]? = some v → w.cell? (a0.add j) = some v := by
        intro j v hj
        have hfll := flat_length hfl
        have hjl := (List.getElem?_eq_some_iff.1 hj).1
        have hpos : 0 < tde.size := by
          rcases Nat.eq_zero_or_pos tde.size with h | h
          · rw [hfll, h] at hjl; omega
          · exact h
        have hm0 : 0 < m := by
          rcases Nat.eq_zero_or_pos m with h | h
          · rw [hfll, h] at hjl; omega
          · exact h
        have ha0 : a0 = ⟨(β c).blk, 0, none⟩ := by rw [e7 (by omega)]; simp [Loc.addr, v1]
        have hqd : j / tde.size < m := Nat.div_lt_of_lt_mul (by rw [Nat.mul_comm, ← hfll]; exact hjl)
        have hqm := Nat.mod_lt j hpos
        have hqe : j / tde.size * tde.size + j % tde.size = j := by rw [Nat.mul_comm]; exact Nat.div_add_mod j tde.size
        have hg := flat_get hfl hqd hqm
        rw [hqe, hj] at hg
        have := (v7 (j / tde.size) (by omega)).2 (j % tde.size) v hg.symm
        rw [hqe] at this
        rw [ha0, Addr.add_lit, cell_of_row w _ _ arr e _ v5, Nat.zero_add]
        simpa using this
      have := run_append_grow (P := P) w t o.type e ie z hu g1 g5 a0 m (β c).cap (flat f m) (by rw [g3]; exact flat_length hfl) holds ax 1 ((β cx).cap - 0) news hnl1 hnews (by omega) (by simp only [maxLen] at h63; omega) (growslice_fits (by omega) (by rw [g4]; exact hbytes))
      rw [hsub]
      exact this
end
end Go.Sx
