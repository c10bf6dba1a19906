/- Parts SxZm SxZn SxZo SxZp SxZq. -/
import Derived.Test.YtnpkdoggfnlapaaGreatDoorG11
import Derived.Test.YtnpkdoggfnlapaaGreatDoorG09
import Derived.Shelf.Spec.SlicesInsertGrow
import Derived.Lib.LazyBuf
import Derived.Deep.Upon
set_option linter.unusedSimpArgs false
set_option linter.unusedVariables false
namespace Go.Sx
open Go.RowKit
section
variable {P : Program} {T : TyTab} {S : St} {d : Nat} {o : Oper}
theorem appendBoxes_op (hT : TabOK P T) {s x : Operand} {t e : TypeId} {tds tde : TyD} (ho : o.op = .call { callee := .builtin .append, args := #[s, x], argTypes := #[t, t] }) (htd : T t = some tds) (hds : tds.desc = .slice e) (hte : T e = some tde) (hzl : Nat.beq tde.zero.length tde.size = true)
    {c q p m : Nat} {F : Nat → List AC} {cs : List SV} {l : List Chunk} {G : List AC} (hs : S.ev s = some (XV.sv (.slc c tde.size 0 m))) (hc : S.mem.get c = some (.abs (DeepP e tde.size m F))) (hx : S.ev x = some (XV.sv (.slc q tde.size 0 1))) (hq : S.mem.get q = some (.cells e cs)) (hp : S.mem.get p = some (.abs (PackP l)))
    (hcp : c ≠ p) (hcd : c ≠ d) (hcs : cs.length = tde.size) (hone : cs.all SV.one = true) (h63 : m + 1 ≤ maxLen) (hbytes : (m + 1) * tde.bytes ≤ 140737488355328) (hG : Boxed p l cs G) :
    OpSound P S d o { v := XV.sv (.slc d tde.size 0 (m + 1)), upd := [(d, .abs (DeepP e tde.size (m + 1) fun i => if i < m then F i else G))], wr := [c, p] } [c, q, p] := by
  intro β ow w ac K' Q hw hfr hops hr hK
  have h1 := hops s (by rw [ho]; simp [Op.operands, Call.operands]) _ hs
  have h2 := hops x (by rw [ho]; simp [Op.operands, Call.operands]) _ hx
  simp only [XV.rel, CV.rel, SV.rel] at h1 h2
  obtain ⟨k0, k1, c1, c2, c3, c4, arr0, c5, c6, c7⟩ := hr c (by simp) _ hc
  obtain ⟨n0, n1, n2, arr, n3, n4⟩ := hr q (by simp) _ hq
  have hP := hr p (by simp) _ hp
  have hcap : subs (β c) 0 = (β c).cap := rfl
  rw [hcap] at c2 c3 c6
  rw [if_neg (by rw [k0]; decide)] at h1
  rw [if_neg (by rw [n0]; decide)] at h2
  obtain ⟨a1, u1, u2, u3⟩ := h1
  obtain ⟨a0, v1, v2, v3⟩ := h2
  have ha0 : a0 = (β q).addr 0 := by rw [v3 (by omega)]; simp
  have hlen : arr.toList.length = tde.size := by rw [← n4.length, hcs]
  obtain ⟨b1, b2⟩ := boxed_at hP hG n4
  let ow1 : Nat → Option Nat := fun k => if ow k = some c ∧ k ≠ (β c).blk then none else ow k
  let f : Nat → List Value := fun i => (arr0.toList.drop (i * tde.size)).take tde.size
  have hw1 : WF ow1 w := fun k hk => by
    simp only [ow1] at hk
    split at hk
    · exact absurd rfl hk
    · exact hw k hk
  have hrow : ∀ i, i < m → i * tde.size + tde.size ≤ arr0.size := by
    intro i hi
    rw [c6]
    have h3 : i + 1 ≤ (β c).cap := by omega
    have h4 := Nat.mul_le_mul_right tde.size h3
    rw [Nat.add_mul, Nat.one_mul] at h4
    exact h4
  have hfl : ∀ i, i < m → (f i).length = tde.size := fun i hi => by
    have := hrow i hi
    simp only [f, List.length_take, List.length_drop, Array.length_toList]
    omega
  have hfget : ∀ i j v, (f i)[j]? = some v → arr0[i * tde.size + j]? = some v := fun i j v hj => by
    simp only [f, List.getElem?_take] at hj
    split at hj
    · rw [List.getElem?_drop] at hj
      simpa using hj
    · cases hj
  have hfput : ∀ i j v, j < tde.size → arr0[i * tde.size + j]? = some v → (f i)[j]? = some v := fun i j v hj hv => by
    simp only [f, List.getElem?_take]
    rw [if_pos hj, List.getElem?_drop]
    simpa using hv
  have ha1 : 0 < (β c).cap → a1 = ⟨(β c).blk, 0, none⟩ := fun h => by rw [u3 h]; simp [Loc.addr, k1]
  have how1 : ow1 (β c).blk = some c := by simp only [ow1]; rw [if_neg (by simp)]; exact c1
  obtain ⟨v', w', β', ow', r1, r2, r3, r4⟩ := append_core (P := P) (c := some c) (m := m) (k := 1) (f := f) (g := fun _ => arr.toList) hT htd hds hte (Nat.eq_of_beq_eq_true hzl) (β := β) (d := d) o.type hw1 (by simpa using hcd) (v0 := ac.eval s) (xv := ac.eval x)
    (.inr ⟨c, rfl, .inr ⟨k0, a1, by rw [u1, Nat.sub_zero], ha1, k1, how1, by omega, c3, arr0, c5, c6, fun i hi => ⟨hfl i hi, fun j v hj => hfget i j v hj⟩⟩⟩) hfl (fun _ _ => hlen)
    ⟨some a0, _, v1, fun _ => ⟨a0, rfl, fun j v hj => by
      have hj' : arr.toList[j]? = some v := by simpa [flat] using hj
      rw [ha0, loc_add]
      simp only [Loc.addr, n1, Nat.zero_add]
      rw [cell_of_row w _ _ arr e _ n3]
      simpa using hj'⟩⟩ (fun u hu => Rels.one n4 hone u (by simpa [flat] using hu)) h63 hbytes
  have hr2 : Eff β ow1 w β' ow' w' [c] d := r2
  let ow2 : Nat → Option Nat := fun k => if (ow k = some c ∧ k ≠ (β c).blk) ∨ ow k = some p then some d else ow' k
  have hkeep : ∀ k, ((ow k = some c ∧ k ≠ (β c).blk) ∨ ow k = some p) → w'.heap[k]? = w.heap[k]? ∧ ow' k ≠ some d := fun k hk => by
    rcases hk with hk | hk
    · have e0 : ow1 k = none := by simp only [ow1]; rw [if_pos hk]
      obtain ⟨e1, e2⟩ := hr2.keep k (hw k (by simp [hk.1])) (fun c' _ => by rw [e0]; simp)
      exact ⟨e1, by rw [e2, e0]; simp⟩
    · have e0 : ow1 k = some p := by simp only [ow1]; rw [if_neg (by rw [hk]; intro h; exact hcp (Option.some.inj h.1).symm)]; exact hk
      obtain ⟨e1, e2⟩ := hr2.keep k (hw k (by simp [hk])) (fun c' hc' => by simp only [List.mem_singleton] at hc'; rw [e0, hc']; intro h; exact hcp (Option.some.inj h).symm)
      refine ⟨e1, by rw [e2, e0]; intro h; rw [Option.some.inj h] at hk; exact hfr k hk⟩
  have hown : ∀ k, ow2 k = some d ↔ (((ow k = some c ∧ k ≠ (β c).blk) ∨ ow k = some p) ∨ ow' k = some d) := by
    intro k
    simp only [ow2]
    split
    · rename_i h; exact ⟨fun _ => .inl h, fun _ => rfl⟩
    · rename_i h; exact ⟨fun e => .inr e, fun e => e.resolve_left h⟩
  have hE : Eff β ow w β' ow2 w' [c, p] d := by
    refine ⟨hr2.beta, hr2.os, hr2.tape, hr2.output, hr2.size, fun k hk hn => ?_, fun k hk c' hc' => ?_, fun k hk => ?_⟩
    · have h5 : ow k ≠ some c := hn c (by simp)
      have h6 : ow k ≠ some p := hn p (by simp)
      have e0 : ow1 k = ow k := by simp only [ow1]; rw [if_neg (fun h => h5 h.1)]
      obtain ⟨e1, e2⟩ := hr2.keep k hk (fun c' hc' => by simp only [List.mem_singleton] at hc'; rw [e0, hc']; exact h5)
      refine ⟨e1, ?_⟩
      simp only [ow2]
      rw [if_neg (fun h => h.elim (fun h => h5 h.1) h6), e2, e0]
    · simp only [ow2] at hc'
      split at hc'
      · exact .inr (Option.some.inj hc').symm
      · rename_i h
        have h5 : w.heap.size ≤ k ∨ ∃ c0 ∈ [c], ow1 k = some c0 := by
          rcases hk with hk | ⟨c0, h0, h1⟩
          · exact .inl hk
          · simp only [List.mem_cons, List.not_mem_nil, or_false] at h0
            rcases h0 with h0 | h0
            · subst h0
              exact .inr ⟨c0, by simp, by simp only [ow1]; rw [if_neg (fun h' => h (.inl h'))]; exact h1⟩
            · subst h0; exact absurd (.inr h1) h
        rcases hr2.mine k h5 c' hc' with h6 | h6
        · simp only [List.mem_singleton] at h6
          exact .inl (by rw [h6]; simp)
        · exact .inr h6
    · simp only [ow2] at hk
      split at hk
      · rename_i h
        have h5 : ow k ≠ none := by rcases h with h | h <;> simp [h]
        have := hw k h5
        have := hr2.size
        omega
      · exact hr2.wf k hk
  refine upon_value (x := v') ?_ (hK β' ow2 w' v' hE r3 (fun c' ch hc' => ?_))
  · simp only [execOp, ho, resolve, invoke, builtin, Sem.run_bind, Sem.run_pure, Result.andThen_ok, List.map_toArray, List.map_cons, List.map_nil, r1]
  · simp only [Mem.get, nbeq] at hc'
    by_cases hcc : d = c'
    · subst hcc
      simp only [decide_true, cond_true, Option.some.injEq] at hc'
      subst hc'
      simp only [Holds] at r4
      by_cases hnil : (β' d).nil = true
      · rw [if_pos hnil] at r4; omega
      rw [if_neg hnil] at r4
      obtain ⟨m1, m2, m3, m4, arr2, m5, m6, m7⟩ := r4
      have hblk : ∀ k, ((ow k = some c ∧ k ≠ (β c).blk) ∨ ow k = some p) → k ≠ (β' d).blk := fun k hk e => (hkeep k hk).2 (by rw [e]; exact m2)
      refine ⟨by simpa using hnil, m1, (hown _).2 (.inr m2), m3, m4, fun k hk => hE.wf k (by rw [hk]; simp), arr2, m5, m6, fun i hi => ?_⟩
      obtain ⟨_, q2⟩ := m7 i hi
      by_cases him : i < m
      · rw [show ((fun i => if i < m then F i else G) i) = F i from if_pos him]
        have ej : joinF f m (fun _ => arr.toList) i = f i := by simp only [joinF, nblt]; rw [decide_eq_true him]; rfl
        rw [ej] at q2
        obtain ⟨w1, w2⟩ := c7 i him
        refine ⟨w1, fun j y hy => ?_⟩
        obtain ⟨pr, v, e1, e2⟩ := w2 j y hy
        have hj : j < tde.size := by rw [← w1]; exact (List.getElem?_eq_some_iff.1 hy).1
        exact ⟨pr, v, q2 j v (hfput i j v hj e1), AC.at_mono (x := y) (p := pr) (v := v) (fun k hk => ⟨(hown k).2 (.inl (.inl hk)), hblk k (.inl hk)⟩) (fun k hk => (hkeep k (.inl hk)).1) e2⟩
      · rw [show ((fun i => if i < m then F i else G) i) = G from if_neg him]
        have ej : joinF f m (fun _ => arr.toList) i = arr.toList := by simp only [joinF, nblt]; rw [decide_eq_false him]; rfl
        rw [ej] at q2
        refine ⟨by rw [b1, hlen], fun j y hy => ?_⟩
        obtain ⟨pr, v, e1, e2⟩ := b2 j y hy
        exact ⟨pr, v, q2 j v e1, AC.at_mono (x := y) (p := pr) (v := v) (fun k hk => ⟨(hown k).2 (.inl (.inr hk)), hblk k (.inr hk)⟩) (fun k hk => (hkeep k (.inr hk)).1) e2⟩
    · simp [hcc] at hc'
end
end Go.Sx
namespace Go.Sx
open Go.RowKit
def AC.one : AC → Bool
  | .raw u => u.oneCell'
  | .row _ _ _ => true
theorem flat_rows (arr : List Value) (sz : Nat) : ∀ m, m * sz ≤ arr.length → flat (fun i => (arr.drop (i * sz)).take sz) m = arr.take (m * sz)
  | 0, _ => by simp [flat]
  | m + 1, h => by
    have h1 : m * sz ≤ arr.length := by rw [Nat.add_mul, Nat.one_mul] at h; omega
    rw [flat, flat_rows arr sz m h1, Nat.add_mul, Nat.one_mul, List.take_add]
section
variable {P : Program} {T : TyTab} {S : St} {d : Nat} {o : Oper}
theorem copyDeep_op (hT : TabOK P T) {s x : Operand} {t e : TypeId} {tds tde : TyD} (ho : o.op = .call { callee := .builtin .append, args := #[s, x], argTypes := #[t, t] }) (htd : T t = some tds) (hds : tds.desc = .slice e) (hte : T e = some tde) (hzl : Nat.beq tde.zero.length tde.size = true)
    {c m : Nat} {F : Nat → List AC} (hs : S.ev s = some (XV.val (.slice none 0 0))) (hx : S.ev x = some (XV.sv (.slc c tde.size 0 m))) (hc : S.mem.get c = some (.abs (DeepP e tde.size m F)))
    (hcd : c ≠ d) (h0 : 0 < m) (h63 : m ≤ maxLen) (hbytes : m * tde.bytes ≤ 140737488355328) (hone : ∀ i, i < m → (F i).all AC.one = true) :
    OpSound P S d o { v := XV.sv (.slc d tde.size 0 m), upd := [(d, .abs (DeepP e tde.size m F))], wr := [c] } [c] := by
  intro β ow w ac K' Q hw hfr hops hr hK
  have h1 := hops s (by rw [ho]; simp [Op.operands, Call.operands]) _ hs
  have h2 := hops x (by rw [ho]; simp [Op.operands, Call.operands]) _ hx
  simp only [XV.rel, CV.rel, SV.rel] at h1 h2
  obtain ⟨k0, k1, c1, c2, c3, c4, arr0, c5, c6, c7⟩ := hr c (by simp) _ hc
  have hcap : subs (β c) 0 = (β c).cap := rfl
  rw [hcap] at c2 c3 c6
  rw [if_neg (by rw [k0]; decide)] at h2
  obtain ⟨a0, v1, v2, v3⟩ := h2
  have ha0 : a0 = (β c).addr 0 := by rw [v3 (by omega)]; simp
  let f : Nat → List Value := fun i => (arr0.toList.drop (i * tde.size)).take tde.size
  have hrow : ∀ i, i < m → i * tde.size + tde.size ≤ arr0.size := by
    intro i hi
    rw [c6]
    have h3 : i + 1 ≤ (β c).cap := by omega
    have h4 := Nat.mul_le_mul_right tde.size h3
    rw [Nat.add_mul, Nat.one_mul] at h4
    exact h4
  have hall : m * tde.size ≤ arr0.toList.length := by
    rw [Array.length_toList, c6]
    exact Nat.mul_le_mul_right _ c2
  have hfl : ∀ i, i < m → (f i).length = tde.size := fun i hi => by
    have := hrow i hi
    simp only [f, List.length_take, List.length_drop, Array.length_toList]
    omega
  have hfget : ∀ i j v, (f i)[j]? = some v → arr0[i * tde.size + j]? = some v := fun i j v hj => by
    simp only [f, List.getElem?_take] at hj
    split at hj
    · rw [List.getElem?_drop] at hj
      simpa using hj
    · cases hj
  have hfput : ∀ i j v, j < tde.size → arr0[i * tde.size + j]? = some v → (f i)[j]? = some v := fun i j v hj hv => by
    simp only [f, List.getElem?_take]
    rw [if_pos hj, List.getElem?_drop]
    simpa using hv
  have hflat : flat f m = arr0.toList.take (m * tde.size) := flat_rows arr0.toList tde.size m hall
  have hones : ∀ i, i < m → ∀ u ∈ f i, u.oneCell' = true := by
    intro i hi u hu
    obtain ⟨j, hj⟩ := List.getElem?_of_mem hu
    have hjl : j < tde.size := by rw [← hfl i hi]; exact (List.getElem?_eq_some_iff.1 hj).1
    obtain ⟨w1, w2⟩ := c7 i hi
    have hx1 : (F i)[j]? = some ((F i)[j]'(by omega)) := List.getElem?_eq_getElem (by omega)
    obtain ⟨pr, v, e1, e2⟩ := w2 j _ hx1
    rw [hfget i j u hj] at e1
    cases e1
    have ho1 := List.all_eq_true.1 (hone i hi) _ (List.getElem_mem (by omega : j < (F i).length))
    generalize (F i)[j]'(by omega) = y at e2 ho1
    cases y with
    | raw u' => simp only [AC.at] at e2; subst e2; exact ho1
    | row sz' n' f' => obtain ⟨e3, _⟩ := e2; subst e3; rfl
  have hflatone : ∀ n, n ≤ m → ∀ u ∈ flat f n, u.oneCell' = true := by
    intro n
    induction n with
    | zero => intro _ u hu; simp [flat] at hu
    | succ n ih =>
      intro hn u hu
      rw [flat, List.mem_append] at hu
      rcases hu with hu | hu
      · exact ih (by omega) u hu
      · exact hones n (by omega) u hu
  obtain ⟨v', w', β', ow', r1, r2, r3, r4⟩ := append_core (P := P) (c := none) (m := 0) (k := m) (f := fun _ => []) (g := f) hT htd hds hte (Nat.eq_of_beq_eq_true hzl) (β := β) (d := d) o.type hw (by simp) (v0 := ac.eval s) (xv := ac.eval x) (.inl ⟨h1, rfl, rfl⟩) (fun i hi => by omega) hfl
    ⟨some a0, _, v1, fun _ => ⟨a0, rfl, fun j v hj => by
      rw [hflat, List.getElem?_take] at hj
      split at hj
      · rw [ha0, loc_add]
        simp only [Loc.addr, k1, Nat.zero_add]
        rw [cell_of_row w _ _ arr0 e _ c5]
        simpa using hj
      · cases hj⟩⟩ (fun u hu => hflatone m (Nat.le_refl _) u hu) (by omega) (by rw [Nat.zero_add]; exact hbytes)
  simp only [Nat.zero_add] at r3 r4
  let ow2 : Nat → Option Nat := fun k => if ow k = some c ∧ k ≠ (β c).blk then some d else ow' k
  have hkeep : ∀ k, (ow k = some c ∧ k ≠ (β c).blk) → w'.heap[k]? = w.heap[k]? ∧ ow' k ≠ some d := fun k hk => by
    obtain ⟨e1, e2⟩ := r2.keep k (hw k (by simp [hk.1])) (fun c' hc' => by simp at hc')
    exact ⟨e1, by rw [e2, hk.1]; intro h; exact hcd (Option.some.inj h)⟩
  have hown : ∀ k, ow2 k = some d ↔ ((ow k = some c ∧ k ≠ (β c).blk) ∨ ow' k = some d) := by
    intro k
    simp only [ow2]
    split
    · rename_i h; exact ⟨fun _ => .inl h, fun _ => rfl⟩
    · rename_i h; exact ⟨fun e => .inr e, fun e => e.resolve_left h⟩
  have hE : Eff β ow w β' ow2 w' [c] d := by
    refine ⟨r2.beta, r2.os, r2.tape, r2.output, r2.size, fun k hk hn => ?_, fun k hk c' hc' => ?_, fun k hk => ?_⟩
    · have h5 : ow k ≠ some c := hn c (by simp)
      obtain ⟨e1, e2⟩ := r2.keep k hk (fun c' hc' => by simp at hc')
      refine ⟨e1, ?_⟩
      simp only [ow2]
      rw [if_neg (fun h => h5 h.1), e2]
    · simp only [ow2] at hc'
      split at hc'
      · exact .inr (Option.some.inj hc').symm
      · rename_i h
        rcases hk with hk | ⟨c0, h0', h1'⟩
        · rcases r2.mine k (.inl hk) c' hc' with h6 | h6
          · simp at h6
          · exact .inr h6
        · simp only [List.mem_singleton] at h0'
          subst h0'
          obtain ⟨_, e2⟩ := r2.keep k (hw k (by simp [h1'])) (fun c' hc' => by simp at hc')
          rw [e2, h1'] at hc'
          exact .inl (by simpa using (Option.some.inj hc').symm)
    · simp only [ow2] at hk
      split at hk
      · rename_i h
        have := hw k (by simp [h.1])
        have := r2.size
        omega
      · exact r2.wf k hk
  refine upon_value (x := v') ?_ (hK β' ow2 w' v' hE r3 (fun c' ch hc' => ?_))
  · simp only [execOp, ho, resolve, invoke, builtin, Sem.run_bind, Sem.run_pure, Result.andThen_ok, List.map_toArray, List.map_cons, List.map_nil, r1]
  · simp only [Mem.get, nbeq] at hc'
    by_cases hcc : d = c'
    · subst hcc
      simp only [decide_true, cond_true, Option.some.injEq] at hc'
      subst hc'
      simp only [Holds] at r4
      by_cases hnil : (β' d).nil = true
      · rw [if_pos hnil] at r4; omega
      rw [if_neg hnil] at r4
      obtain ⟨m1, m2, m3, m4, arr2, m5, m6, m7⟩ := r4
      have hblk : ∀ k, (ow k = some c ∧ k ≠ (β c).blk) → k ≠ (β' d).blk := fun k hk e => (hkeep k hk).2 (by rw [e]; exact m2)
      refine ⟨by simpa using hnil, m1, (hown _).2 (.inr m2), m3, m4, fun k hk => hE.wf k (by rw [hk]; simp), arr2, m5, m6, fun i hi => ?_⟩
      obtain ⟨_, q2⟩ := m7 i hi
      have ej : joinF (fun _ => []) 0 f i = f i := by simp only [joinF, nblt]; rw [decide_eq_false (Nat.not_lt_zero _)]; rfl
      rw [ej] at q2
      obtain ⟨w1, w2⟩ := c7 i hi
      refine ⟨w1, fun j y hy => ?_⟩
      obtain ⟨pr, v, e1, e2⟩ := w2 j y hy
      have hj : j < tde.size := by rw [← w1]; exact (List.getElem?_eq_some_iff.1 hy).1
      exact ⟨pr, v, q2 j v (hfput i j v hj e1), AC.at_mono (x := y) (p := pr) (v := v) (fun k hk => ⟨(hown k).2 (.inl hk), hblk k hk⟩) (fun k hk => (hkeep k hk).1) e2⟩
    · simp [hcc] at hc'
end
end Go.Sx
namespace Go.Sx
open Go.RowKit Go.Proofs Go.Shelf
theorem tape_setCells (b : Nat) : ∀ (vs : List Value) (o : Nat) (w : World), (w.setCells b o vs).tape = w.tape
  | [], _, _ => rfl
  | _ :: r, o, w => tape_setCells b r (o + 1) _
theorem size_setCells' (b : Nat) : ∀ (vs : List Value) (o : Nat) (w : World), (w.setCells b o vs).heap.size = w.heap.size
  | [], _, _ => rfl
  | v :: r, o, w => by rw [World.setCells, size_setCells' b r]; simp [World.setCell]
def intF (l : List Int) : Nat → List Value := fun i => [.int .i64 (l.getD i 0)]
def intV (l : List Int) : List Value := l.map (.int .i64)
theorem intV_get {l : List Int} {j : Nat} {v : Value} (h : (intV l)[j]? = some v) : j < l.length ∧ v = .int .i64 (l.getD j 0) := by
  have hj : j < l.length := by have := (List.getElem?_eq_some_iff.1 h).1; simpa [intV] using this
  refine ⟨hj, ?_⟩
  simp only [intV, List.getElem?_map, List.getElem?_eq_getElem hj, Option.map_some, Option.some.injEq] at h
  rw [← h, List.getD_eq_getElem?_getD, List.getElem?_eq_getElem hj]; rfl
theorem intV_at {l : List Int} {j : Nat} (hj : j < l.length) : (intV l)[j]? = some (.int .i64 (l.getD j 0)) := by
  simp only [intV, List.getElem?_map, List.getElem?_eq_getElem hj, Option.map_some]
  rw [List.getD_eq_getElem?_getD, List.getElem?_eq_getElem hj]; rfl
theorem ins_getD (l : List Int) (i : Nat) (a : Int) (hi : i ≤ l.length) (j : Nat) : (l.take i ++ a :: l.drop i).getD j 0 = if j < i then l.getD j 0 else if j = i then a else l.getD (j - 1) 0 := by
  have hl : (l.take i).length = i := by rw [List.length_take]; omega
  rw [List.getD_eq_getElem?_getD]
  by_cases h1 : j < i
  · rw [if_pos h1, List.getElem?_append_left (by omega), List.getElem?_take_of_lt h1, List.getD_eq_getElem?_getD]
  · rw [if_neg h1, List.getElem?_append_right (by omega), hl]
    by_cases h2 : j = i
    · rw [if_pos h2, h2, Nat.sub_self]; rfl
    · rw [if_neg h2, show j - i = (j - 1 - i) + 1 by omega, List.getElem?_cons_succ, List.getElem?_drop, List.getD_eq_getElem?_getD, show i + (j - 1 - i) = j - 1 by omega]
theorem row_holds {w : World} {b e n : Nat} {g : Nat → Value} (h : w.rowIs b e n g) {m : Nat} {f : Nat → List Value} (hm : m ≤ n) (hf : ∀ i, i < m → f i = [g i]) :
    ∃ arr : Array Value, w.heap[b]? = some (.cells arr e (0, 0)) ∧ arr.size = n * 1 ∧ ∀ i, i < m → (f i).length = 1 ∧ ∀ j v, (f i)[j]? = some v → arr[i * 1 + j]? = some v := by
  obtain ⟨arr, h1, h2, h3⟩ := h
  refine ⟨arr, h1, by omega, fun i hi => ?_⟩
  rw [hf i hi]
  refine ⟨rfl, fun j v hj => ?_⟩
  cases j with
  | zero =>
    simp only [List.getElem?_cons_zero, Option.some.injEq] at hj
    subst hj
    rw [Nat.mul_one, Nat.add_zero]
    exact h3 i (by omega)
  | succ j => simp at hj
theorem eff_take {β : Nat → Loc} {ow : Nat → Option Nat} {w w' : World} {c d : Nat} (hw : WF ow w) (l : Loc) (h2 : ∀ q, q < w.heap.size → ow q ≠ some c → w'.heap[q]? = w.heap[q]?) (h3 : w'.os = w.os) (h4 : w'.tape = w.tape) (h5 : w'.output = w.output) (h6 : w.heap.size ≤ w'.heap.size) :
    Eff β ow w (setβ β d l) (fun q => if ow q = some c then some d else ow q) w' [c] d := by
  refine ⟨fun i hi => by simp [setβ, hi], h3, h4, h5, h6, fun q hq hn => ⟨h2 q hq (hn c (by simp)), ?_⟩, fun q hq i hi => ?_, fun q hq => ?_⟩
  · rw [if_neg (hn c (by simp))]
  · split at hi
    · cases hi; exact .inr rfl
    · rename_i hnc
      rcases hq with hq | ⟨c0, h0, h9⟩
      · have := hw q (by simp [hi]); omega
      · simp only [List.mem_singleton] at h0; subst h0; exact absurd h9 hnc
  · split at hq
    · rename_i hc
      exact Nat.lt_of_lt_of_le (hw q (by simp [hc])) h6
    · exact Nat.lt_of_lt_of_le (hw q hq) h6
theorem eff_fresh {β : Nat → Loc} {ow : Nat → Option Nat} {w w' : World} {c d : Nat} (hw : WF ow w) (l : Loc) (h2 : ∀ q, q < w.heap.size → w'.heap[q]? = w.heap[q]?) (h3 : w'.os = w.os) (h4 : w'.tape = w.tape) (h5 : w'.output = w.output) (h6 : w'.heap.size = w.heap.size + 1) :
    Eff β ow w (setβ β d l) (setow (fun q => if ow q = some c then none else ow q) w.heap.size (some d)) w' [c] d := by
  refine ⟨fun i hi => by simp [setβ, hi], h3, h4, h5, by omega, fun k hk hn => ⟨h2 k hk, ?_⟩, fun k hk i hi => ?_, fun k hk => ?_⟩
  · have : ow k ≠ some c := hn c (by simp)
    simp [setow, Nat.ne_of_lt hk, this]
  · by_cases hks : k = w.heap.size
    · simp only [setow, hks, if_true, Option.some.injEq] at hi; exact .inr hi.symm
    · simp only [setow, if_neg hks] at hi
      split at hi
      · cases hi
      · rename_i hnc
        rcases hk with hk | ⟨c0, h0, h2⟩
        · have := hw k (by simp [hi]); omega
        · simp only [List.mem_singleton] at h0; subst h0; exact absurd h2 hnc
  · by_cases hks : k = w.heap.size
    · rw [hks]; omega
    · simp only [setow, if_neg hks] at hk
      split at hk
      · exact absurd rfl hk
      · have := hw k hk; omega
theorem cell_row {w : World} {b e : Nat} {arr : Array Value} {fr : Nat × Nat} (h : w.heap[b]? = some (.cells arr e fr)) (j : Nat) : w.cell? ⟨b, j, none⟩ = arr[j]? := by
  simp [World.cell?, h]
theorem frozen_row {w : World} {b e : Nat} {arr : Array Value} (h : w.heap[b]? = some (.cells arr e (0, 0))) (j : Nat) : w.frozen? ⟨b, j, none⟩ = false := by
  simp [World.frozen?, h]
theorem shape_row {w : World} {b e : Nat} {arr : Array Value} {fr : Nat × Nat} (h : w.heap[b]? = some (.cells arr e fr)) : w.shape? b = some (e, arr.size) := by
  simp [World.shape?, h]
theorem arr_get {arr : Array Value} {j n : Nat} (h : arr.size = n) (hj : j < n) : arr[j]? = some ((arr[j]?).getD default) := by
  rw [Array.getElem?_eq_getElem (by omega)]; rfl
set_option maxHeartbeats 2000000 in
theorem insert_spec {P : Program} {ρ : Ren} (L : Lays2.n21 P ρ) (l : List Int) (i : Nat) (a : Int) (hi : i ≤ l.length) (hl : l.length ≤ 1000000) {M : Mem} {c c2 d e e2 : Nat} {g2' : Nat → List Value} (he : ρ.t 3 = e) (hc : M.get c = some (.vec e 1 l.length (intF l))) (hc2 : M.get c2 = some (.vec e2 1 1 g2')) (hg2 : g2' 0 = [.int .i64 a]) (hne : Nat.beq c c2 = false) (hcd : Nat.beq c d = false) :
    CallSpec P (ρ.f 21) [.one (.slc c 1 0 l.length), .one (.raw (.int .i64 i)), .one (.slc c2 1 0 1)] M d { v := XV.sv (.slc d 1 0 (l.length + 1)), upd := [(d, .vec e 1 (l.length + 1) (intF (l.take i ++ a :: l.drop i)))], wr := [c] } [c, c2] := by
  rw [nbeq, decide_eq_false_iff_not] at hne hcd
  subst he
  intro β ow w vs hw hd hvs hr
  obtain ⟨v0, _, rfl, e0, h1⟩ := hvs
  obtain ⟨v1, _, rfl, e1, h2⟩ := h1
  obtain ⟨v2, _, rfl, e2', h3⟩ := h2
  simp only [CVs] at h3
  subst h3
  simp only [CV.rel, SV.rel] at e0 e1 e2'
  subst e1
  have g1 := hr c (by simp) _ hc
  have g2 := hr c2 (by simp) _ hc2
  simp only [Holds] at g1 g2
  have n2 : ¬ (β c2).nil = true := fun h => by rw [if_pos h] at g2; exact absurd g2 (by decide)
  rw [if_neg n2] at e2' g2
  obtain ⟨p2, p3, p9, _, arr2, p4, p8, p5⟩ := g2
  obtain ⟨a2, rfl, q1, q2⟩ := e2'
  have q3 := q2 (by omega)
  simp only [Loc.addr, p2, Nat.zero_mul, Nat.add_zero] at q3
  subst q3
  have hv2 : ∀ j v, ([Value.int .i64 a] : List Value)[j]? = some v → w.cell? ⟨(β c2).blk, 0 + j, none⟩ = some v := fun j v hj => by
    rw [cell_row p4, Nat.zero_add]
    have := (p5 0 Nat.one_pos).2 j v (by rw [hg2]; exact hj)
    rwa [Nat.zero_mul, Nat.zero_add] at this
  have hone : ∀ v ∈ ([Value.int .i64 a] : List Value), v.oneCell' = true := fun v hv => by simp only [List.mem_singleton] at hv; subst hv; rfl
  have hone2 : ∀ v ∈ intV l, v.oneCell' = true := fun v hv => by
    simp only [intV, List.mem_map] at hv
    obtain ⟨x, _, rfl⟩ := hv; rfl
  have hVl : (intV l).length = l.length := by simp [intV]
  have hfin : ∀ {n : Nat} {g : Nat → Value} {b : Nat} {w' : World}, l.length + 1 ≤ n → w'.rowIs b (ρ.t 3) n g → (∀ j, j < l.length + 1 → g j = if j < i then .int .i64 (l.getD j 0) else if j = i then .int .i64 a else .int .i64 (l.getD (j - 1) 0)) →
      ∃ arr : Array Value, w'.heap[b]? = some (.cells arr (ρ.t 3) (0, 0)) ∧ arr.size = n * 1 ∧ ∀ i', i' < l.length + 1 → (intF (l.take i ++ a :: l.drop i) i').length = 1 ∧ ∀ j v, (intF (l.take i ++ a :: l.drop i) i')[j]? = some v → arr[i' * 1 + j]? = some v := by
    intro n g b w' hn hg hh
    refine row_holds hg hn fun j hj => ?_
    rw [hh j hj, intF, ins_getD l i a hi]
    split
    · rfl
    · split <;> rfl
  -- a new block
  have fresh : ∀ (n : Nat) (w' : World) (g : Nat → Value), l.length + 1 ≤ n → n ≤ maxLen → (∀ q, q < w.heap.size → w'.heap[q]? = w.heap[q]?) → w'.os = w.os → w'.tape = w.tape → w'.output = w.output → w'.heap.size = w.heap.size + 1 → w'.rowIs w.heap.size (ρ.t 3) n g →
      (∀ j, j < l.length + 1 → g j = if j < i then .int .i64 (l.getD j 0) else if j = i then .int .i64 a else .int .i64 (l.getD (j - 1) 0)) →
      ∃ v β' ow', (Ending.returned (.slice (some ⟨w.heap.size, 0, none⟩) (l.length + 1) n)) = .returned v ∧ Eff β ow w β' ow' w' [c] d ∧ (XV.sv (.slc d 1 0 (l.length + 1))).rel β' v ∧ ∀ c' ch, Mem.get [(d, .vec (ρ.t 3) 1 (l.length + 1) (intF (l.take i ++ a :: l.drop i)))] c' = some ch → Holds β' ow' w' c' ch := by
    intro n w' g hn hmx hk h3 h4 h5 h6 hg hh
    refine ⟨_, _, _, rfl, eff_fresh (d := d) hw ⟨w.heap.size, 0, n, false, fun _ => 0⟩ hk h3 h4 h5 h6, ?_, fun c' ch hc' => ?_⟩
    · simp only [XV.rel, CV.rel, SV.rel, setβ, if_true, Bool.false_eq_true, if_false]
      exact ⟨_, by rw [Nat.sub_zero], by omega, fun _ => by simp [Loc.addr]⟩
    · simp only [Mem.get, nbeq] at hc'
      by_cases hcc : d = c'
      · subst hcc
        simp only [decide_true, cond_true, Option.some.injEq] at hc'
        subst hc'
        simp only [Holds, setβ, if_true, Bool.false_eq_true, if_false]
        exact ⟨trivial, by simp [setow], hn, hmx, hfin hn hg hh⟩
      · simp [hcc] at hc'
  have hge := fun old => grownCap_ge w (l.length + 1) old (ρ.t 3)
  have hcm := fun old => grownCap_le_maxLen w (l.length + 1) old (ρ.t 3) (by simp only [maxLen]; omega)
  have zsize : ∀ k, (Builtin.zeroCells (Value.int .i64 0).cells k).size = k := fun k => by simp [Builtin.zeroCells, Value.cells]
  -- behind the last one, no room
  have endgrow : ∀ (base : Option Addr) (cap : Nat), i = l.length → l.length ≤ cap → cap < l.length + 1 → (base = none → l.length = 0) → (∀ a, base = some a → ∀ j v, (intV l)[j]? = some v → w.cell? (a.add j) = some v) →
      Calls P (ρ.f 21) #[.slice base l.length cap, .int .i64 i, .slice (some ⟨(β c2).blk, 0, none⟩) 1 ((β c2).cap - 0)] w fun e w' => ∃ v β' ow', e = .returned v ∧ Eff β ow w β' ow' w' [c] d ∧ (XV.sv (.slc d 1 0 (l.length + 1))).rel β' v ∧ ∀ c' ch, Mem.get [(d, .vec (ρ.t 3) 1 (l.length + 1) (intF (l.take i ++ a :: l.drop i)))] c' = some ch → Holds β' ow' w' c' ch := by
    intro base cap hil k1 k2 k3 k4
    subst hil
    refine (Any2.slices_Insert_int_end_grow L base l.length cap (β c2).blk 0 1 _ (intV l) [.int .i64 a] w (by decide) k1 k2 (by omega) hVl rfl k3 k4 hv2 hone).mono ?_
    rintro e w' ⟨rfl, rfl⟩
    refine fresh _ _ (fun j => (((intV l ++ [Value.int .i64 a]).toArray ++ Builtin.zeroCells (Value.int .i64 0).cells (grownCap w (l.length + 1) cap (ρ.t 3) - (l.length + 1)))[j]?).getD default) (hge cap) (hcm cap) (fun q hq => Below.heap_alloc w.drew _ q hq) rfl rfl rfl (by simp) ⟨_, heap_alloc_new w.drew _, ?_, fun j hj => ?_⟩ (fun j hj => ?_)
    · have := hge cap
      simp only [Array.size_append, List.size_toArray, List.length_append, hVl, zsize, List.length_singleton]
      omega
    · exact arr_get (by have := hge cap; simp only [Array.size_append, List.size_toArray, List.length_append, hVl, zsize, List.length_singleton]; omega) hj
    · have hs : j < (intV l ++ [Value.int .i64 a]).length := by simp only [List.length_append, hVl, List.length_singleton]; exact hj
      rw [Array.getElem?_append_left (by simpa using hs), List.getElem?_toArray]
      by_cases hji : j < l.length
      · rw [if_pos hji, List.getElem?_append_left (by omega), intV_at (by omega)]; rfl
      · rw [if_neg hji, if_pos (by omega), List.getElem?_append_right (by omega), show j - (intV l).length = 0 by omega]; rfl
  by_cases n0 : (β c).nil = true
  · rw [if_pos n0] at e0 g1
    obtain ⟨rfl, _, _⟩ := e0
    have := endgrow none 0 (by omega) (by omega) (by omega) (fun _ => g1) (fun a h => by cases h)
    rw [g1] at this ⊢
    exact this
  rw [if_neg n0] at e0 g1
  obtain ⟨a0, rfl, _, ha0⟩ := e0
  obtain ⟨b1, b2, b3, b4, arr, b5, b6, b7⟩ := g1
  rw [Nat.mul_one] at b6
  rw [Nat.sub_zero]
  have hcell : ∀ j v, (intV l)[j]? = some v → arr[j]? = some v := fun j v hj => by
    obtain ⟨k1, rfl⟩ := intV_get hj
    have := (b7 j k1).2 0 (.int .i64 (l.getD j 0)) rfl
    rwa [Nat.mul_one, Nat.add_zero] at this
  have hrow : w.drew.rowIs (β c).blk (ρ.t 3) (β c).cap (fun j => (arr[j]?).getD default) := ⟨arr, b5, b6, fun j hj => arr_get b6 hj⟩
  have hrow' : w.rowIs (β c).blk (ρ.t 3) (β c).cap (fun j => (arr[j]?).getD default) := hrow
  have hbk : (β c).blk < w.heap.size := hw _ (by rw [b2]; simp)
  have hbne : (β c2).blk ≠ (β c).blk := fun h => hne (by rw [h, b2] at p3; simpa using p3)
  have hsame : ∀ (vs1 vs2 : List Value) (o1 o2 : Nat) (w1 : World), (∀ q, q < w.heap.size → w1.heap[q]? = w.heap[q]?) → w1.heap.size = w.heap.size → ∀ q, q < w.heap.size → ow q ≠ some c → ((w1.setCells (β c).blk o1 vs1).setCells (β c).blk o2 vs2).heap[q]? = w.heap[q]? := by
    intro vs1 vs2 o1 o2 w1 h1 h2 q hq hn
    have hqb : q ≠ (β c).blk := fun h => hn (by rw [h]; exact b2)
    rw [World.heap_setCells_other _ _ _ _ (by rw [size_setCells', h2]; exact hq) hqb, World.heap_setCells_other _ _ _ _ (by rw [h2]; exact hq) hqb, h1 q hq]
  -- in place
  have place : ∀ (w' : World) (g : Nat → Value), l.length + 1 ≤ (β c).cap → (∀ q, q < w.heap.size → ow q ≠ some c → w'.heap[q]? = w.heap[q]?) → w'.os = w.os → w'.tape = w.tape → w'.output = w.output → w'.heap.size = w.heap.size → w'.rowIs (β c).blk (ρ.t 3) (β c).cap g →
      (∀ j, j < l.length + 1 → g j = if j < i then .int .i64 (l.getD j 0) else if j = i then .int .i64 a else .int .i64 (l.getD (j - 1) 0)) →
      ∃ v β' ow', (Ending.returned (.slice (some ⟨(β c).blk, 0, none⟩) (l.length + 1) (β c).cap)) = .returned v ∧ Eff β ow w β' ow' w' [c] d ∧ (XV.sv (.slc d 1 0 (l.length + 1))).rel β' v ∧ ∀ c' ch, Mem.get [(d, .vec (ρ.t 3) 1 (l.length + 1) (intF (l.take i ++ a :: l.drop i)))] c' = some ch → Holds β' ow' w' c' ch := by
    intro w' g hn hk h3 h4 h5 h6 hg hh
    refine ⟨_, _, _, rfl, eff_take (d := d) hw ⟨(β c).blk, 0, (β c).cap, false, fun _ => 0⟩ hk h3 h4 h5 (by omega), ?_, fun c' ch hc' => ?_⟩
    · simp only [XV.rel, CV.rel, SV.rel, setβ, if_true, Bool.false_eq_true, if_false]
      exact ⟨_, by rw [Nat.sub_zero], by omega, fun _ => by simp [Loc.addr]⟩
    · simp only [Mem.get, nbeq] at hc'
      by_cases hcc : d = c'
      · subst hcc
        simp only [decide_true, cond_true, Option.some.injEq] at hc'
        subst hc'
        simp only [Holds, setβ, if_true, Bool.false_eq_true, if_false]
        exact ⟨trivial, by simp [b2], hn, b4, hfin hn hg hh⟩
      · simp [hcc] at hc'
  by_cases hroom : l.length + 1 ≤ (β c).cap
  · have ha := ha0 (by omega)
    simp only [Loc.addr, b1, Nat.zero_mul, Nat.add_zero] at ha
    subst ha
    by_cases hil : i = l.length
    · subst hil
      have := Any2.slices_Insert_int_end_room L (β c).blk 0 l.length (β c).cap (β c2).blk 0 1 ((β c2).cap - 0) [.int .i64 a] w (by decide) hroom (by simp only [maxLen] at b4; omega) rfl (fun j hj => by rw [cell_row b5, Array.getElem?_eq_getElem (by omega)]; rfl) (fun j hj => frozen_row b5 _) hv2 hone
      refine this.mono ?_
      rintro e w' ⟨rfl, rfl⟩
      refine place _ _ (by omega) (fun q hq hn => ?_) (World.os_setCells _ _ _ _) (tape_setCells _ _ _ _) (World.output_setCells _ _ _ _) (size_setCells' _ _ _ _) (rowIs_setCells [.int .i64 a] (0 + l.length) w _ hrow') (fun j hj => ?_)
      · exact World.heap_setCells_other _ _ _ _ hq (fun h => hn (by rw [h]; exact b2))
      · by_cases hji : j < l.length
        · rw [if_pos hji, if_neg (by simp; omega), hcell j _ (intV_at (by omega))]; rfl
        · obtain rfl : j = l.length := by omega
          rw [if_neg hji, if_pos rfl, if_pos (by simp)]
          simp
    · have := Any2.slices_Insert_int_shift L (β c).blk 0 l.length (β c).cap i (β c2).blk 0 1 ((β c2).cap - 0) (intV l) [.int .i64 a] w (by omega) (by decide) hroom (by simp only [maxLen] at b4; omega) hbne hVl rfl
        (fun j v hj => by rw [cell_row b5, Nat.zero_add]; exact hcell j v hj) (fun j hj => by rw [cell_row b5, Array.getElem?_eq_getElem (by omega)]; rfl) (fun j hj => frozen_row b5 _) hv2 hone2 hone _ _ _ _ (shape_row p4) (shape_row b5) (by omega) (frozen_row p4 _) (frozen_row p4 _)
      refine this.mono ?_
      rintro e w' ⟨rfl, rfl⟩
      refine place _ _ (by omega) (fun q hq hn => hsame _ _ _ _ w.drew (fun _ _ => rfl) rfl q hq hn) ?_ ?_ ?_ ?_ (rowIs_setCells [.int .i64 a] (0 + i) _ _ (rowIs_setCells ((intV l).drop i) (0 + (i + 1)) w.drew _ hrow)) (fun j hj => ?_)
      · rw [World.os_setCells, World.os_setCells]; rfl
      · rw [tape_setCells, tape_setCells]; rfl
      · rw [World.output_setCells, World.output_setCells]; rfl
      · rw [size_setCells', size_setCells']; rfl
      · have hdl : ((intV l).drop i).length = l.length - i := by rw [List.length_drop, hVl]
        by_cases hji : j < i
        · rw [if_pos hji, if_neg (by simp; omega), if_neg (by omega), hcell j _ (intV_at (by omega))]; rfl
        · rw [if_neg hji]
          by_cases hji2 : j = i
          · subst hji2
            rw [if_pos rfl, if_pos (by simp)]
            simp
          · rw [if_neg hji2, if_neg (by simp; omega), if_pos (by omega), List.getElem?_drop, show i + (j - (0 + (i + 1))) = j - 1 by omega, intV_at (by omega)]; rfl
  · by_cases hil : i = l.length
    · exact endgrow (some a0) (β c).cap hil b3 (by omega) (fun h => by cases h) (fun a ha j v hj => by
        simp only [Option.some.injEq] at ha
        subst ha
        have hpos : 0 < (β c).cap := by have := (intV_get hj).1; omega
        have ha := ha0 hpos
        simp only [Loc.addr, b1, Nat.zero_mul, Nat.add_zero] at ha
        subst ha
        rw [Addr.add_lit, cell_row b5, Nat.zero_add]
        exact hcell j v hj)
    · have ha := ha0 (by omega)
      simp only [Loc.addr, b1, Nat.zero_mul, Nat.add_zero] at ha
      subst ha
      refine (Any2.slices_Insert_int_grow L (β c).blk 0 l.length (β c).cap i (β c2).blk 0 1 ((β c2).cap - 0) (intV l) [.int .i64 a] w (by omega) (by decide) b3 (by omega) (by omega) hVl rfl
        (fun j v hj => by rw [cell_row b5, Nat.zero_add]; exact hcell j v hj) hv2 hone2 hone).mono ?_
      rintro e w' ⟨rfl, rfl⟩
      obtain ⟨n, hn⟩ : ∃ n, grownCap w (l.length + 1) (β c).cap (ρ.t 3) = n := ⟨_, rfl⟩
      have hge' := hge (β c).cap
      have hcm' := hcm (β c).cap
      rw [hn] at hge' hcm' ⊢
      obtain ⟨ar, har⟩ : ∃ ar, ((intV l).take i).toArray ++ Builtin.zeroCells (Value.int .i64 0).cells (l.length + 1 - i) ++ Builtin.zeroCells (Value.int .i64 0).cells (n - (l.length + 1)) = ar := ⟨_, rfl⟩
      have hsz : ar.size = n := by
        rw [← har]
        simp only [Array.size_append, List.size_toArray, List.length_take, hVl, zsize]
        omega
      have hlo : ∀ j, j < i → ar[j]? = some (.int .i64 (l.getD j 0)) := fun j hj => by
        rw [← har, Array.append_assoc, Array.getElem?_append_left (by simp only [List.size_toArray, List.length_take, hVl]; omega), List.getElem?_toArray, List.getElem?_take_of_lt hj, intV_at (by omega)]
      rw [har]
      have hr0 : (w.alloc (.cells ar (ρ.t 3))).rowIs w.heap.size (ρ.t 3) n (fun j => (ar[j]?).getD default) := ⟨ar, heap_alloc_new w _, hsz, fun j hj => arr_get hsz hj⟩
      have hr1 := rowIs_setCells [.int .i64 a] i (w.alloc (.cells ar (ρ.t 3))).drew _ hr0
      have hr2 := rowIs_setCells ((intV l).drop i) (i + 1) (((w.alloc (.cells ar (ρ.t 3))).drew.setCells w.heap.size i [.int .i64 a]).drew) _ hr1
      refine fresh _ _ _ hge' hcm' (fun q hq => ?_) ?_ ?_ ?_ ?_ hr2 (fun j hj => ?_)
      · have hqs : q < (w.alloc (.cells ar (ρ.t 3))).heap.size := by simp; omega
        rw [World.heap_setCells_other _ _ _ _ (by show q < (World.setCells _ _ _ _).heap.size; rw [size_setCells']; exact hqs) (Nat.ne_of_lt hq)]
        show ((w.alloc (.cells ar (ρ.t 3))).drew.setCells w.heap.size i [.int .i64 a]).heap[q]? = _
        exact (World.heap_setCells_other (w.alloc (.cells ar (ρ.t 3))).drew w.heap.size i [.int .i64 a] hqs (Nat.ne_of_lt hq)).trans (Below.heap_alloc w _ q hq)
      · rw [World.os_setCells]; show (World.setCells _ _ _ _).os = _; rw [World.os_setCells]; rfl
      · rw [tape_setCells]; show (World.setCells _ _ _ _).tape = _; rw [tape_setCells]; rfl
      · rw [World.output_setCells]; show (World.setCells _ _ _ _).output = _; rw [World.output_setCells]; rfl
      · rw [size_setCells']; show (World.setCells _ _ _ _).heap.size = _; rw [size_setCells']; simp
      · have hdl : ((intV l).drop i).length = l.length - i := by rw [List.length_drop, hVl]
        by_cases hji : j < i
        · rw [if_pos hji, if_neg (by omega), if_neg (by simp; omega), hlo j hji]; rfl
        · rw [if_neg hji]
          by_cases hji2 : j = i
          · subst hji2
            rw [if_pos rfl, if_neg (by omega), if_pos (by simp)]
            simp
          · rw [if_neg hji2, if_pos (by omega), List.getElem?_drop, show i + (j - (i + 1)) = j - 1 by omega, intV_at (by omega)]; rfl
end Go.Sx
namespace Go.Sx
open Go.RowKit
variable {P : Program} {T : TyTab} {S : St} {d : Nat} {o : Oper}
theorem appendNils_op (hT : TabOK P T) {s x : Operand} {t e : TypeId} {tds tde : TyD} (ho : o.op = .call { callee := .builtin .append, args := #[s, x], argTypes := #[t, t] }) (htd : T t = some tds) (hds : tds.desc = .slice e) (hte : T e = some tde)
    (hs : S.ev s = some (XV.val (.slice none 0 0))) (hx : S.ev x = some (XV.val (.slice none 0 0))) : OpSound P S d o { v := XV.val (.slice none 0 0) } [] := by
  intro β ow w ac K' Q hw hfr hops hr hK
  have h1 := hops s (by rw [ho]; simp [Op.operands, Call.operands]) _ hs
  have h2 := hops x (by rw [ho]; simp [Op.operands, Call.operands]) _ hx
  simp only [XV.rel, CV.rel, SV.rel] at h1 h2
  obtain ⟨ie, ue, g1, _⟩ := info_of hT hte
  have hu := under_slice hT htd hds
  have hrun := run_append_zero (P := P) w t o.type e ie hu g1 none 0 0 none 0 (Nat.le_refl _)
  refine upon_value (x := .slice none 0 0) ?_ (hK _ _ _ _ (Eff.refl hw d) rfl (fun _ _ h => by cases h))
  simp only [execOp, ho, resolve, invoke, builtin, Sem.run_bind, Sem.run_pure, Result.andThen_ok, List.map_toArray, List.map_cons, List.map_nil, h1, h2, hrun]
end Go.Sx
namespace Go.Sx
open Go.RowKit
section
variable {P : Program} {T : TyTab} {S : St} {d : Nat} {o : Oper}
theorem partIndex_op (hT : TabOK P T) {t e : TypeId} {x i : Operand} {td te : TyD} {q n I J sz m : Nat} {F : Nat → List AC} {ad : Nat → Nat → Option Addr × Nat} {f : Nat → List Value} {k : IntKind} {kk : Nat} (ho : o.op = .indexAddr t x i) (ht : T t = some td) (hd : td.desc = .slice e) (he : T e = some te) (hsz : te.size = sz)
    (hx : S.ev x = some (XV.val (.slice (ad I J).1 m (ad I J).2))) (hi : S.ev i = some (XV.int k kk)) (hm : S.mem.get q = some (.abs (PartsO n F ad))) (hI : I < n) (hF : (F I)[J]? = some (.row sz m f)) (h1 : kk < m) :
    OpSound P S d o { v := XV.val (.pointer ((ad I J).1.map fun a => a.add (kk * sz))) } [q] := by
  refine read_op fun β ow w a hw hops hr => ?_
  have e1 := hops x (by rw [ho]; simp [Op.operands]) _ hx
  have e2 := hops i (by rw [ho]; simp [Op.operands]) _ hi
  simp only [XV.rel, CV.rel, SV.rel] at e1 e2
  obtain ⟨_, _, _, k3⟩ := hr q (by simp) _ hm
  obtain ⟨v, _, k4⟩ := k3 I hI J _ hF
  rcases k4 with ⟨_, h0⟩ | ⟨b0, b, off, g1, g2, g3, _, _⟩
  · omega
  have hu := under_slice hT ht hd
  have hs := run_size (P := P) hT he w
  have h0 : (0 : Int) ≤ (kk : Int) := Int.natCast_nonneg _
  have h1' : (kk : Int) < (m : Int) := by omega
  refine ⟨.pointer ((ad I J).1.map fun a : Addr => a.add (kk * sz)), ?_, show _ = _ from rfl⟩
  rw [g1] at e1 ⊢
  simp only [execOp, ho, e2, e1, Instr.indexAt, asIntOf, run_underlying hu, Sem.run_bind, Sem.run_pure, Result.andThen_ok]
  simp [h0, h1', h1, hs, hsz]
theorem partLoad_op (hT : TabOK P T) {t : TypeId} {x : Operand} {td : TyD} {q n I J sz m : Nat} {F : Nat → List AC} {ad : Nat → Nat → Option Addr × Nat} {f : Nat → List Value} {kk : Nat} {v : CV} (ho : o.op = .load t x) (ht : T t = some td)
    (hx : S.ev x = some (XV.val (.pointer ((ad I J).1.map fun a => a.add (kk * sz))))) (hm : S.mem.get q = some (.abs (PartsO n F ad))) (hI : I < n) (hF : (F I)[J]? = some (.row sz m f)) (hsz : td.size = sz) (h1 : kk < m) (hv : mkCV td.agg ((f kk).map .raw) = some v) : OpSound P S d o { v := .cv v } [q] := by
  refine read_op fun β ow w a hw hops hr => ?_
  have e1 := hops x (by rw [ho]; simp [Op.operands]) _ hx
  simp only [XV.rel, CV.rel, SV.rel] at e1
  obtain ⟨_, _, _, k3⟩ := hr q (by simp) _ hm
  obtain ⟨_, _, k4⟩ := k3 I hI J _ hF
  rcases k4 with ⟨_, h0⟩ | ⟨b0, b, off, g1, g2, g3, _, g5⟩
  · omega
  have g3 := g3 (by omega)
  subst g3
  obtain ⟨m1, m2⟩ := g5 kk h1
  have hadd : ∀ j, ((⟨b, off, none⟩ : Addr).add (kk * sz)).add j = ⟨b, off + (kk * sz + j), none⟩ := fun j => by
    have e : ∀ (x y : Nat), (⟨b, x, none⟩ : Addr).add y = ⟨b, x + y, none⟩ := fun x y => by unfold Addr.add; split <;> simp_all
    rw [e, e, Nat.add_assoc]
  obtain ⟨y, h2, h3⟩ := loadVar_ok (w := w) (β := β) (hT t td ht) (Rels.raw (f kk)) (by rw [List.length_map, m1, hsz]) (a := (⟨b, off, none⟩ : Addr).add (kk * sz)) (fun j u hu => by
    rw [hadd]; exact m2 j u hu) hv
  rw [g1] at e1
  simp only [Option.map_some] at e1
  exact ⟨y, by simp [execOp, ho, e1, Instr.loadAt, Instr.sureAddr, h2], h3⟩
end
theorem lget_none_of {l : List (Option XV)} {t : Nat} (h : ¬ t < l.length) : lget l t = none := by
  induction l generalizing t with
  | nil => rfl
  | cons x r ih =>
    cases t with
    | zero => simp at h
    | succ t => exact ih (by simpa using h)
theorem Tri.part {P : Program} {C : Ctx} {cd : Code} {slots : List (Option XV)} {mem : Mem} {nx : Nat} {Q : Exit → St → Prop} {v e sz n : Nat} {f : Nat → List Value} (t : Nat) (ht : lget slots t = some (XV.sv (.slc v sz 0 n))) (hm : mem.get v = some (.vec e sz n f))
    (h : ∀ p : Option Addr × Nat, Tri P C cd ⟨lset slots t (some (XV.val (.slice p.1 n p.2))), (nx, .abs (PartsO 1 (fun _ => [.row sz n f]) fun _ _ => p)) :: mem.del v, nx + 1⟩ Q) : Tri P C cd ⟨slots, mem, nx⟩ Q := by
  intro a w hs
  obtain ⟨β, ow, g1, g2, g3, g4, g5⟩ := hs
  have hv := g1.mem v _ hm
  have hsl := g1.slots t _ ht
  have hvn : v < nx := by simpa using (g2.mem v _ hm).1
  simp only [Holds] at hv
  have hnone : ∀ k, ow k ≠ some nx := fun k e => by
    have := g5 k nx e
    simp only [Nat.blt_eq] at this
    omega
  let ow' : Nat → Option Nat := fun k => if ow k = some v then some nx else ow k
  let β' : Nat → Loc := fun x => if x = nx then ⟨0, 0, 0, false, fun _ => 0⟩ else β x
  have hβ : ∀ x, Nat.blt x nx = true → β' x = β x := fun x hx => by
    simp only [Nat.blt_eq] at hx
    simp only [β']; rw [if_neg (by omega)]
  have hown : ∀ k, ow' k = some nx ↔ ow k = some v := by
    intro k
    simp only [ow']
    split
    · rename_i h1; exact ⟨fun _ => h1, fun _ => rfl⟩
    · rename_i h1; exact ⟨fun e => absurd e (hnone k), fun e => absurd e h1⟩
  have hother : ∀ x k, x ≠ v → x ≠ nx → (ow' k = some x ↔ ow k = some x) := by
    intro x k e1 e2
    simp only [ow']
    split
    · rename_i h1
      rw [h1]
      simp only [Option.some.injEq]
      exact ⟨fun e => absurd e.symm e2, fun e => absurd e.symm e1⟩
    · exact Iff.rfl
  have up : ∀ i, Nat.blt i nx = true → Nat.blt i (nx + 1) = true := fun i hi => by simp only [Nat.blt_eq] at hi ⊢; omega
  simp only [XV.rel, CV.rel, SV.rel] at hsl
  have hp : ∃ p : Option Addr × Nat, a.tmps.getD t undef = .slice p.1 n p.2 ∧ ∃ u, AC.at w (fun k => ow k = some v) (.row sz n f) p u := by
    by_cases hnil : (β v).nil = true
    · rw [if_pos hnil] at hv hsl
      obtain ⟨h1, _, h2⟩ := hsl
      exact ⟨(none, 0), by rw [h1, h2], _, rfl, .inl ⟨rfl, h2⟩⟩
    · rw [if_neg hnil] at hv hsl
      obtain ⟨ad, h1, h2, h3⟩ := hsl
      obtain ⟨v1, v2, v3, v4, arr, v5, v6, v7⟩ := hv
      refine ⟨(some ad, (β v).cap), by rw [h1, Nat.sub_zero], _, rfl, .inr ⟨ad, (β v).blk, 0, rfl, v3, fun h0 => ?_, v2, fun k hk => ?_⟩⟩
      · rw [h3 h0]
        simp [Loc.addr, v1]
      · obtain ⟨w1, w2⟩ := v7 k hk
        refine ⟨w1, fun j u hj => ?_⟩
        have := w2 j u hj
        simp [World.cell?, v5, this]
  obtain ⟨p, hp1, u, hp2⟩ := hp
  have g4' : C.n0 ≤ nx := g4
  have htl : t < slots.length := by
    cases hlt : decide (t < slots.length) with
    | true => exact of_decide_eq_true hlt
    | false => rw [lget_none_of (of_decide_eq_false hlt)] at ht; cases ht
  refine h p a w ⟨β', ow', ⟨g1.defers, ?_, fun t' X hX => ?_, fun c' ch hc' => ?_, fun k hk => ?_⟩, ⟨fun t' X hX => ?_, fun c' ch hc' => ?_⟩, ⟨g3.os, g3.tape, g3.output, g3.size, fun k e1 e2 => ?_, fun x hx => ?_⟩, Nat.le_succ_of_le g4, fun k c' hk => ?_⟩
  · rw [g1.size]; exact (lset_length _ _ _).symm
  · rw [lget_lset] at hX
    by_cases htt : t' = t
    · rw [if_pos htt, if_pos htl] at hX
      cases hX
      rw [htt]
      exact hp1
    · rw [if_neg htt] at hX
      exact XV.rel_congr hβ (g2.slots t' X hX) (g1.slots t' X hX)
  · simp only [Mem.get, nbeq] at hc'
    by_cases hcn' : nx = c'
    · simp only [hcn', decide_true, cond_true, Option.some.injEq] at hc'
      subst hc'
      have e0 : β' c' = ⟨0, 0, 0, false, fun _ => 0⟩ := by simp only [β']; rw [if_pos hcn'.symm]
      simp only [Holds]
      rw [e0]
      refine ⟨rfl, rfl, fun k hk => ?_, fun i hi j x hx => ?_⟩
      · rw [← hcn'] at hk
        exact g1.wf k (by rw [(hown k).1 hk]; simp)
      · match j with
        | 0 =>
          simp only [List.getElem?_cons_zero, Option.some.injEq] at hx
          subst hx
          exact ⟨u, AC.at_mono (x := .row sz n f) (p := p) (v := u) (fun k hk => by rw [← hcn']; exact (hown k).2 hk) (fun _ _ => rfl) hp2⟩
        | j + 1 => simp at hx
    · simp only [hcn', decide_false, cond_false, Mem.get_del] at hc'
      split at hc'
      · cases hc'
      · rename_i hne
        exact Holds.keep (g2.mem c' ch hc').2 hβ (hβ c' (g2.mem c' ch hc').1) (fun _ k => hother c' k hne (fun e => hcn' e.symm)) (fun _ k hn => by simp [ow', hn]) (g1.mem c' ch hc')
  · simp only [ow'] at hk
    split at hk
    · rename_i h1; exact g1.wf k (by rw [h1]; simp)
    · exact g1.wf k hk
  · rw [lget_lset] at hX
    by_cases htt : t' = t
    · rw [if_pos htt, if_pos htl] at hX
      cases hX
      rfl
    · rw [if_neg htt] at hX
      exact XV.ok_mono up (g2.slots t' X hX)
  · simp only [Mem.get, nbeq] at hc'
    by_cases hcn' : nx = c'
    · simp only [hcn', decide_true, cond_true, Option.some.injEq] at hc'
      subst hc'
      exact ⟨by simp only [Nat.blt_eq]; omega, rfl⟩
    · simp only [hcn', decide_false, cond_false, Mem.get_del] at hc'
      split at hc'
      · cases hc'
      · obtain ⟨n1, n2⟩ := g2.mem c' ch hc'
        exact ⟨up _ n1, Chunk.ok_mono up n2⟩
  · obtain ⟨e3, e4⟩ := g3.keep k e1 e2
    exact ⟨e3, by simp [ow', e4]⟩
  · rw [hβ x (by simp only [Nat.blt_eq]; omega)]
    exact g3.beta x hx
  · simp only [ow'] at hk
    split at hk
    · cases hk; simp only [Nat.blt_eq]; omega
    · exact up _ (g5 k c' hk)
end Go.Sx
