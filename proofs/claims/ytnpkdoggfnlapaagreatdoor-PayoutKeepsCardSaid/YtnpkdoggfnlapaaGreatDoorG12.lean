/- Parts SxZm SxZn SxZo SxZp SxZq SxZr SxZt Tab. -/
import Derived.Test.YtnpkdoggfnlapaaGreatDoorG11
import Derived.Test.YtnpkdoggfnlapaaGreatDoorG09
import Derived.Test.YtnpkdoggfnlapaaGreatDoorG03
import Derived.Shelf.Spec.SlicesInsertGrow
import Derived.Lib.LazyBuf
import Derived.Deep.Upon
import Derived.Test.YtnpkdoggfnlapaaGreatDoorRows
set_option linter.unusedSimpArgs false
set_option linter.unusedVariables false
namespace Go.Sx
open Go.RowKit
section
variable {P : Program} {T : TyTab} {S : St} {d : Nat} {o : Oper}
theorem appendBoxes_op (hT : TabOK P T) {s x : Operand} {t e : TypeId} {tds tde : TyD} (ho : o.op = .call { callee := .builtin .append, args := #[s, x], argTypes := #[t, t] }) (htd : T t = some tds) (hds : tds.desc = .slice e) (hte : T e = some tde) (hzl : Nat.beq tde.zero.length tde.size = true)
    {c q p m : Nat} {F : Nat → List AC} {cs : List SV} {l : List Chunk} {G : List AC} (hs : S.ev s = some (XV.sv (.slc c tde.size 0 m))) (hc : S.mem.get c = some (.abs (DeepP e tde.size m F))) (hx : S.ev x = some (XV.sv (.slc q tde.size 0 1))) (hq : S.mem.get q = some (.cells e cs)) (hp : S.mem.get p = some (.abs (PackP l)))
    (hcp : c ≠ p) (hcd : c ≠ d) (hcs : cs.length = tde.size) (hone : cs.all SV.one = true) (h63 : m + 1 ≤ maxLen) (hbytes : (m + 1) * tde.bytes ≤ 140737488355328) (hG : Boxed p l cs G) :
    OpSound P S d o { v := XV.sv (.slc d tde.size 0 (m + 1)), upd := [(d, .abs (DeepP e tde.size (m + 1) fun i => if i < m then F i else G))], wr := [c, p] } [c, q, p] := by
  intro β ow w ac K' Q hw hfr hops hr hK
  have h1 := hops s (by rw [ho]; simp [Op.operands, Call.operands]) _ hs
  have h2 := hops x (by rw [ho]; simp [Op.operands, Call.operands]) _ hx
  simp only [XV.rel, CV.rel, SV.rel] at h1 h2
  obtain ⟨k0, k1, c1, c2, c3, c4, arr0, c5, c6, c7⟩ := hr c (by simp) _ hc
  obtain ⟨n0, n1, n2, arr, n3, n4⟩ := hr q (by simp) _ hq
  have hP := hr p (by simp) _ hp
  have hcap : subs (β c) 0 = (β c).cap := rfl
  rw [hcap] at c2 c3 c6
  rw [if_neg (by rw [k0]; decide)] at h1
  rw [if_neg (by rw [n0]; decide)] at h2
  obtain ⟨a1, u1, u2, u3⟩ := h1
  obtain ⟨a0, v1, v2, v3⟩ := h2
  have ha0 : a0 = (β q).addr 0 := by rw [v3 (by omega)]; simp
  have hlen : arr.toList.length = tde.size := by rw [← n4.length, hcs]
  obtain ⟨b1, b2⟩ := boxed_at hP hG n4
  let ow1 : Nat → Option Nat := fun k => if ow k = some c ∧ k ≠ (β c).blk then none else ow k
  let f : Nat → List Value := fun i => (arr0.toList.drop (i * tde.size)).take tde.size
  have hw1 : WF ow1 w := fun k hk => by
    simp only [ow1] at hk
    split at hk
    · exact absurd rfl hk
    · exact hw k hk
  have hrow : ∀ i, i < m → i * tde.size + tde.size ≤ arr0.size := by
    intro i hi
    rw [c6]
    have h3 : i + 1 ≤ (β c).cap := by omega
    have h4 := Nat.mul_le_mul_right tde.size h3
    rw [Nat.add_mul, Nat.one_mul] at h4
    exact h4
  have hfl : ∀ i, i < m → (f i).length = tde.size := fun i hi => by
    have := hrow i hi
    simp only [f, List.length_take, List.length_drop, Array.length_toList]
    omega
  have hfget : ∀ i j v, (f i)[j]? = some v → arr0[i * tde.size + j]? = some v := fun i j v hj => by
    simp only [f, List.getElem?_take] at hj
    split at hj
    · rw [List.getElem?_drop] at hj
      simpa using hj
    · cases hj
  have hfput : ∀ i j v, j < tde.size → arr0[i * tde.size + j]? = some v → (f i)[j]? = some v := fun i j v hj hv => by
    simp only [f, List.getElem?_take]
    rw [if_pos hj, List.getElem?_drop]
    simpa using hv
  have ha1 : 0 < (β c).cap → a1 = ⟨(β c).blk, 0, none⟩ := fun h => by rw [u3 h]; simp [Loc.addr, k1]
  have how1 : ow1 (β c).blk = some c := by simp only [ow1]; rw [if_neg (by simp)]; exact c1
  obtain ⟨v', w', β', ow', r1, r2, r3, r4⟩ := append_core (P := P) (c := some c) (m := m) (k := 1) (f := f) (g := fun _ => arr.toList) hT htd hds hte (Nat.eq_of_beq_eq_true hzl) (β := β) (d := d) o.type hw1 (by simpa using hcd) (v0 := ac.eval s) (xv := ac.eval x)
    (.inr ⟨c, rfl, .inr ⟨k0, a1, by rw [u1, Nat.sub_zero], ha1, k1, how1, by omega, c3, arr0, c5, c6, fun i hi => ⟨hfl i hi, fun j v hj => hfget i j v hj⟩⟩⟩) hfl (fun _ _ => hlen)
    ⟨some a0, _, v1, fun _ => ⟨a0, rfl, fun j v hj => by
      have hj' : arr.toList[j]? = some v := by simpa [flat] using hj
      rw [ha0, loc_add]
      simp only [Loc.addr, n1, Nat.zero_add]
      rw [cell_of_row w _ _ arr e _ n3]
      simpa using hj'⟩⟩ (fun u hu => Rels.one n4 hone u (by simpa [flat] using hu)) h63 hbytes
  have hr2 : Eff β ow1 w β' ow' w' [c] d := r2
  let ow2 : Nat → Option Nat := fun k => if (ow k = some c ∧ k ≠ (β c).blk) ∨ ow k = some p then some d else ow' k
  have hkeep : ∀ k, ((ow k = some c ∧ k ≠ (β c).blk) ∨ ow k = some p) → w'.heap[k]? = w.heap[k]? ∧ ow' k ≠ some d := fun k hk => by
    rcases hk with hk | hk
    · have e0 : ow1 k = none := by simp only [ow1]; rw [if_pos hk]
      obtain ⟨e1, e2⟩ := hr2.keep k (hw k (by simp [hk.1])) (fun c' _ => by rw [e0]; simp)
      exact ⟨e1, by rw [e2, e0]; simp⟩
    · have e0 : ow1 k = some p := by simp only [ow1]; rw [if_neg (by rw [hk]; intro h; exact hcp (Option.some.inj h.1).symm)]; exact hk
      obtain ⟨e1, e2⟩ := hr2.keep k (hw k (by simp [hk])) (fun c' hc' => by simp only [List.mem_singleton] at hc'; rw [e0, hc']; intro h; exact hcp (Option.some.inj h).symm)
      refine ⟨e1, by rw [e2, e0]; intro h; rw [Option.some.inj h] at hk; exact hfr k hk⟩
  have hown : ∀ k, ow2 k = some d ↔ (((ow k = some c ∧ k ≠ (β c).blk) ∨ ow k = some p) ∨ ow' k = some d) := by
    intro k
    simp only [ow2]
    split
    · rename_i h; exact ⟨fun _ => .inl h, fun _ => rfl⟩
    · rename_i h; exact ⟨fun e => .inr e, fun e => e.resolve_left h⟩
  have hE : Eff β ow w β' ow2 w' [c, p] d := by
    refine ⟨hr2.beta, hr2.os, hr2.tape, hr2.output, hr2.size, fun k hk hn => ?_, fun k hk c' hc' => ?_, fun k hk => ?_⟩
    · have h5 : ow k ≠ some c := hn c (by simp)
      have h6 : ow k ≠ some p := hn p (by simp)
      have e0 : ow1 k = ow k := by simp only [ow1]; rw [if_neg (fun h => h5 h.1)]
      obtain ⟨e1, e2⟩ := hr2.keep k hk (fun c' hc' => by simp only [List.mem_singleton] at hc'; rw [e0, hc']; exact h5)
      refine ⟨e1, ?_⟩
      simp only [ow2]
      rw [if_neg (fun h => h.elim (fun h => h5 h.1) h6), e2, e0]
    · simp only [ow2] at hc'
      split at hc'
      · exact .inr (Option.some.inj hc').symm
      · rename_i h
        have h5 : w.heap.size ≤ k ∨ ∃ c0 ∈ [c], ow1 k = some c0 := by
          rcases hk with hk | ⟨c0, h0, h1⟩
          · exact .inl hk
          · simp only [List.mem_cons, List.not_mem_nil, or_false] at h0
            rcases h0 with h0 | h0
            · subst h0
              exact .inr ⟨c0, by simp, by simp only [ow1]; rw [if_neg (fun h' => h (.inl h'))]; exact h1⟩
            · subst h0; exact absurd (.inr h1) h
        rcases hr2.mine k h5 c' hc' with h6 | h6
        · simp only [List.mem_singleton] at h6
          exact .inl (by rw [h6]; simp)
        · exact .inr h6
    · simp only [ow2] at hk
      split at hk
      · rename_i h
        have h5 : ow k ≠ none := by rcases h with h | h <;> simp [h]
        have := hw k h5
        have := hr2.size
        omega
      · exact hr2.wf k hk
  refine upon_value (x := v') ?_ (hK β' ow2 w' v' hE r3 (fun c' ch hc' => ?_))
  · simp only [execOp, ho, resolve, invoke, builtin, Sem.run_bind, Sem.run_pure, Result.andThen_ok, List.map_toArray, List.map_cons, List.map_nil, r1]
  · simp only [Mem.get, nbeq] at hc'
    by_cases hcc : d = c'
    · subst hcc
      simp only [decide_true, cond_true, Option.some.injEq] at hc'
      subst hc'
      simp only [Holds] at r4
      by_cases hnil : (β' d).nil = true
      · rw [if_pos hnil] at r4; omega
      rw [if_neg hnil] at r4
      obtain ⟨m1, m2, m3, m4, arr2, m5, m6, m7⟩ := r4
      have hblk : ∀ k, ((ow k = some c ∧ k ≠ (β c).blk) ∨ ow k = some p) → k ≠ (β' d).blk := fun k hk e => (hkeep k hk).2 (by rw [e]; exact m2)
      refine ⟨by simpa using hnil, m1, (hown _).2 (.inr m2), m3, m4, fun k hk => hE.wf k (by rw [hk]; simp), arr2, m5, m6, fun i hi => ?_⟩
      obtain ⟨_, q2⟩ := m7 i hi
      by_cases him : i < m
      · rw [show ((fun i => if i < m then F i else G) i) = F i from if_pos him]
        have ej : joinF f m (fun _ => arr.toList) i = f i := by simp only [joinF, nblt]; rw [decide_eq_true him]; rfl
        rw [ej] at q2
        obtain ⟨w1, w2⟩ := c7 i him
        refine ⟨w1, fun j y hy => ?_⟩
        obtain ⟨pr, v, e1, e2⟩ := w2 j y hy
        have hj : j < tde.size := by rw [← w1]; exact (List.getElem?_eq_some_iff.1 hy).1
        exact ⟨pr, v, q2 j v (hfput i j v hj e1), AC.at_mono (x := y) (p := pr) (v := v) (fun k hk => ⟨(hown k).2 (.inl (.inl hk)), hblk k (.inl hk)⟩) (fun k hk => (hkeep k (.inl hk)).1) e2⟩
      · rw [show ((fun i => if i < m then F i else G) i) = G from if_neg him]
        have ej : joinF f m (fun _ => arr.toList) i = arr.toList := by simp only [joinF, nblt]; rw [decide_eq_false him]; rfl
        rw [ej] at q2
        refine ⟨by rw [b1, hlen], fun j y hy => ?_⟩
        obtain ⟨pr, v, e1, e2⟩ := b2 j y hy
        exact ⟨pr, v, q2 j v e1, AC.at_mono (x := y) (p := pr) (v := v) (fun k hk => ⟨(hown k).2 (.inl (.inr hk)), hblk k (.inr hk)⟩) (fun k hk => (hkeep k (.inr hk)).1) e2⟩
    · simp [hcc] at hc'
end
end Go.Sx
namespace Go.Sx
open Go.RowKit
def AC.one : AC → Bool
  | .raw u => u.oneCell'
  | .row _ _ _ => true
theorem flat_rows (arr : List Value) (sz : Nat) : ∀ m, m * sz ≤ arr.length → flat (fun i => (arr.drop (i * sz)).take sz) m = arr.take (m * sz)
  | 0, _ => by simp [flat]
  | m + 1, h => by
    have h1 : m * sz ≤ arr.length := by rw [Nat.add_mul, Nat.one_mul] at h; omega
    rw [flat, flat_rows arr sz m h1, Nat.add_mul, Nat.one_mul, List.take_add]
section
variable {P : Program} {T : TyTab} {S : St} {d : Nat} {o : Oper}
theorem copyDeep_op (hT : TabOK P T) {s x : Operand} {t e : TypeId} {tds tde : TyD} (ho : o.op = .call { callee := .builtin .append, args := #[s, x], argTypes := #[t, t] }) (htd : T t = some tds) (hds : tds.desc = .slice e) (hte : T e = some tde) (hzl : Nat.beq tde.zero.length tde.size = true)
    {c m : Nat} {F : Nat → List AC} (hs : S.ev s = some (XV.val (.slice none 0 0))) (hx : S.ev x = some (XV.sv (.slc c tde.size 0 m))) (hc : S.mem.get c = some (.abs (DeepP e tde.size m F)))
    (hcd : c ≠ d) (h0 : 0 < m) (h63 : m ≤ maxLen) (hbytes : m * tde.bytes ≤ 140737488355328) (hone : ∀ i, i < m → (F i).all AC.one = true) :
    OpSound P S d o { v := XV.sv (.slc d tde.size 0 m), upd := [(d, .abs (DeepP e tde.size m F))], wr := [c] } [c] := by
  intro β ow w ac K' Q hw hfr hops hr hK
  have h1 := hops s (by rw [ho]; simp [Op.operands, Call.operands]) _ hs
  have h2 := hops x (by rw [ho]; simp [Op.operands, Call.operands]) _ hx
  simp only [XV.rel, CV.rel, SV.rel] at h1 h2
  obtain ⟨k0, k1, c1, c2, c3, c4, arr0, c5, c6, c7⟩ := hr c (by simp) _ hc
  have hcap : subs (β c) 0 = (β c).cap := rfl
  rw [hcap] at c2 c3 c6
  rw [if_neg (by rw [k0]; decide)] at h2
  obtain ⟨a0, v1, v2, v3⟩ := h2
  have ha0 : a0 = (β c).addr 0 := by rw [v3 (by omega)]; simp
  let f : Nat → List Value := fun i => (arr0.toList.drop (i * tde.size)).take tde.size
  have hrow : ∀ i, i < m → i * tde.size + tde.size ≤ arr0.size := by
    intro i hi
    rw [c6]
    have h3 : i + 1 ≤ (β c).cap := by omega
    have h4 := Nat.mul_le_mul_right tde.size h3
    rw [Nat.add_mul, Nat.one_mul] at h4
    exact h4
  have hall : m * tde.size ≤ arr0.toList.length := by
    rw [Array.length_toList, c6]
    exact Nat.mul_le_mul_right _ c2
  have hfl : ∀ i, i < m → (f i).length = tde.size := fun i hi => by
    have := hrow i hi
    simp only [f, List.length_take, List.length_drop, Array.length_toList]
    omega
  have hfget : ∀ i j v, (f i)[j]? = some v → arr0[i * tde.size + j]? = some v := fun i j v hj => by
    simp only [f, List.getElem?_take] at hj
    split at hj
    · rw [List.getElem?_drop] at hj
      simpa using hj
    · cases hj
  have hfput : ∀ i j v, j < tde.size → arr0[i * tde.size + j]? = some v → (f i)[j]? = some v := fun i j v hj hv => by
    simp only [f, List.getElem?_take]
    rw [if_pos hj, List.getElem?_drop]
    simpa using hv
  have hflat : flat f m = arr0.toList.take (m * tde.size) := flat_rows arr0.toList tde.size m hall
  have hones : ∀ i, i < m → ∀ u ∈ f i, u.oneCell' = true := by
    intro i hi u hu
    obtain ⟨j, hj⟩ := List.getElem?_of_mem hu
    have hjl : j < tde.size := by rw [← hfl i hi]; exact (List.getElem?_eq_some_iff.1 hj).1
    obtain ⟨w1, w2⟩ := c7 i hi
    have hx1 : (F i)[j]? = some ((F i)[j]'(by omega)) := List.getElem?_eq_getElem (by omega)
    obtain ⟨pr, v, e1, e2⟩ := w2 j _ hx1
    rw [hfget i j u hj] at e1
    cases e1
    have ho1 := List.all_eq_true.1 (hone i hi) _ (List.getElem_mem (by omega : j < (F i).length))
    generalize (F i)[j]'(by omega) = y at e2 ho1
    cases y with
    | raw u' => simp only [AC.at] at e2; subst e2; exact ho1
    | row sz' n' f' => obtain ⟨e3, _⟩ := e2; subst e3; rfl
  have hflatone : ∀ n, n ≤ m → ∀ u ∈ flat f n, u.oneCell' = true := by
    intro n
    induction n with
    | zero => intro _ u hu; simp [flat] at hu
    | succ n ih =>
      intro hn u hu
      rw [flat, List.mem_append] at hu
      rcases hu with hu | hu
      · exact ih (by omega) u hu
      · exact hones n (by omega) u hu
  obtain ⟨v', w', β', ow', r1, r2, r3, r4⟩ := append_core (P := P) (c := none) (m := 0) (k := m) (f := fun _ => []) (g := f) hT htd hds hte (Nat.eq_of_beq_eq_true hzl) (β := β) (d := d) o.type hw (by simp) (v0 := ac.eval s) (xv := ac.eval x) (.inl ⟨h1, rfl, rfl⟩) (fun i hi => by omega) hfl
    ⟨some a0, _, v1, fun _ => ⟨a0, rfl, fun j v hj => by
      rw [hflat, List.getElem?_take] at hj
      split at hj
      · rw [ha0, loc_add]
        simp only [Loc.addr, k1, Nat.zero_add]
        rw [cell_of_row w _ _ arr0 e _ c5]
        simpa using hj
      · cases hj⟩⟩ (fun u hu => hflatone m (Nat.le_refl _) u hu) (by omega) (by rw [Nat.zero_add]; exact hbytes)
  simp only [Nat.zero_add] at r3 r4
  let ow2 : Nat → Option Nat := fun k => if ow k = some c ∧ k ≠ (β c).blk then some d else ow' k
  have hkeep : ∀ k, (ow k = some c ∧ k ≠ (β c).blk) → w'.heap[k]? = w.heap[k]? ∧ ow' k ≠ some d := fun k hk => by
    obtain ⟨e1, e2⟩ := r2.keep k (hw k (by simp [hk.1])) (fun c' hc' => by simp at hc')
    exact ⟨e1, by rw [e2, hk.1]; intro h; exact hcd (Option.some.inj h)⟩
  have hown : ∀ k, ow2 k = some d ↔ ((ow k = some c ∧ k ≠ (β c).blk) ∨ ow' k = some d) := by
    intro k
    simp only [ow2]
    split
    · rename_i h; exact ⟨fun _ => .inl h, fun _ => rfl⟩
    · rename_i h; exact ⟨fun e => .inr e, fun e => e.resolve_left h⟩
  have hE : Eff β ow w β' ow2 w' [c] d := by
    refine ⟨r2.beta, r2.os, r2.tape, r2.output, r2.size, fun k hk hn => ?_, fun k hk c' hc' => ?_, fun k hk => ?_⟩
    · have h5 : ow k ≠ some c := hn c (by simp)
      obtain ⟨e1, e2⟩ := r2.keep k hk (fun c' hc' => by simp at hc')
      refine ⟨e1, ?_⟩
      simp only [ow2]
      rw [if_neg (fun h => h5 h.1), e2]
    · simp only [ow2] at hc'
      split at hc'
      · exact .inr (Option.some.inj hc').symm
      · rename_i h
        rcases hk with hk | ⟨c0, h0', h1'⟩
        · rcases r2.mine k (.inl hk) c' hc' with h6 | h6
          · simp at h6
          · exact .inr h6
        · simp only [List.mem_singleton] at h0'
          subst h0'
          obtain ⟨_, e2⟩ := r2.keep k (hw k (by simp [h1'])) (fun c' hc' => by simp at hc')
          rw [e2, h1'] at hc'
          exact .inl (by simpa using (Option.some.inj hc').symm)
    · simp only [ow2] at hk
      split at hk
      · rename_i h
        have := hw k (by simp [h.1])
        have := r2.size
        omega
      · exact r2.wf k hk
  refine upon_value (x := v') ?_ (hK β' ow2 w' v' hE r3 (fun c' ch hc' => ?_))
  · simp only [execOp, ho, resolve, invoke, builtin, Sem.run_bind, Sem.run_pure, Result.andThen_ok, List.map_toArray, List.map_cons, List.map_nil, r1]
  · simp only [Mem.get, nbeq] at hc'
    by_cases hcc : d = c'
    · subst hcc
      simp only [decide_true, cond_true, Option.some.injEq] at hc'
      subst hc'
      simp only [Holds] at r4
      by_cases hnil : (β' d).nil = true
      · rw [if_pos hnil] at r4; omega
      rw [if_neg hnil] at r4
      obtain ⟨m1, m2, m3, m4, arr2, m5, m6, m7⟩ := r4
      have hblk : ∀ k, (ow k = some c ∧ k ≠ (β c).blk) → k ≠ (β' d).blk := fun k hk e => (hkeep k hk).2 (by rw [e]; exact m2)
      refine ⟨by simpa using hnil, m1, (hown _).2 (.inr m2), m3, m4, fun k hk => hE.wf k (by rw [hk]; simp), arr2, m5, m6, fun i hi => ?_⟩
      obtain ⟨_, q2⟩ := m7 i hi
      have ej : joinF (fun _ => []) 0 f i = f i := by simp only [joinF, nblt]; rw [decide_eq_false (Nat.not_lt_zero _)]; rfl
      rw [ej] at q2
      obtain ⟨w1, w2⟩ := c7 i hi
      refine ⟨w1, fun j y hy => ?_⟩
      obtain ⟨pr, v, e1, e2⟩ := w2 j y hy
      have hj : j < tde.size := by rw [← w1]; exact (List.getElem?_eq_some_iff.1 hy).1
      exact ⟨pr, v, q2 j v (hfput i j v hj e1), AC.at_mono (x := y) (p := pr) (v := v) (fun k hk => ⟨(hown k).2 (.inl hk), hblk k hk⟩) (fun k hk => (hkeep k hk).1) e2⟩
    · simp [hcc] at hc'
end
end Go.Sx
namespace Go.Sx
open Go.RowKit Go.Proofs Go.Shelf
end Go.Sx
namespace Go.Sx
open Go.RowKit
variable {P : Program} {T : TyTab} {S : St} {d : Nat} {o : Oper}
theorem appendNils_op (hT : TabOK P T) {s x : Operand} {t e : TypeId} {tds tde : TyD} (ho : o.op = .call { callee := .builtin .append, args := #[s, x], argTypes := #[t, t] }) (htd : T t = some tds) (hds : tds.desc = .slice e) (hte : T e = some tde)
    (hs : S.ev s = some (XV.val (.slice none 0 0))) (hx : S.ev x = some (XV.val (.slice none 0 0))) : OpSound P S d o { v := XV.val (.slice none 0 0) } [] := by
  intro β ow w ac K' Q hw hfr hops hr hK
  have h1 := hops s (by rw [ho]; simp [Op.operands, Call.operands]) _ hs
  have h2 := hops x (by rw [ho]; simp [Op.operands, Call.operands]) _ hx
  simp only [XV.rel, CV.rel, SV.rel] at h1 h2
  obtain ⟨ie, ue, g1, _⟩ := info_of hT hte
  have hu := under_slice hT htd hds
  have hrun := run_append_zero (P := P) w t o.type e ie hu g1 none 0 0 none 0 (Nat.le_refl _)
  refine upon_value (x := .slice none 0 0) ?_ (hK _ _ _ _ (Eff.refl hw d) rfl (fun _ _ h => by cases h))
  simp only [execOp, ho, resolve, invoke, builtin, Sem.run_bind, Sem.run_pure, Result.andThen_ok, List.map_toArray, List.map_cons, List.map_nil, h1, h2, hrun]
end Go.Sx
namespace Go.Sx
open Go.RowKit
section
variable {P : Program} {T : TyTab} {S : St} {d : Nat} {o : Oper}
end
theorem lget_none_of {l : List (Option XV)} {t : Nat} (h : ¬ t < l.length) : lget l t = none := by
  induction l generalizing t with
  | nil => rfl
  | cons x r ih =>
    cases t with
    | zero => simp at h
    | succ t => exact ih (by simpa using h)
theorem Tri.part {P : Program} {C : Ctx} {cd : Code} {slots : List (Option XV)} {mem : Mem} {nx : Nat} {Q : Exit → St → Prop} {v e sz n : Nat} {f : Nat → List Value} (t : Nat) (ht : lget slots t = some (XV.sv (.slc v sz 0 n))) (hm : mem.get v = some (.vec e sz n f))
    (h : ∀ p : Option Addr × Nat, Tri P C cd ⟨lset slots t (some (XV.val (.slice p.1 n p.2))), (nx, .abs (PartsO 1 (fun _ => [.row sz n f]) fun _ _ => p)) :: mem.del v, nx + 1⟩ Q) : Tri P C cd ⟨slots, mem, nx⟩ Q := by
  intro a w hs
  obtain ⟨β, ow, g1, g2, g3, g4, g5⟩ := hs
  have hv := g1.mem v _ hm
  have hsl := g1.slots t _ ht
  have hvn : v < nx := by simpa using (g2.mem v _ hm).1
  simp only [Holds] at hv
  have hnone : ∀ k, ow k ≠ some nx := fun k e => by
    have := g5 k nx e
    simp only [Nat.blt_eq] at this
    omega
  let ow' : Nat → Option Nat := fun k => if ow k = some v then some nx else ow k
  let β' : Nat → Loc := fun x => if x = nx then ⟨0, 0, 0, false, fun _ => 0⟩ else β x
  have hβ : ∀ x, Nat.blt x nx = true → β' x = β x := fun x hx => by
    simp only [Nat.blt_eq] at hx
    simp only [β']; rw [if_neg (by omega)]
  have hown : ∀ k, ow' k = some nx ↔ ow k = some v := by
    intro k
    simp only [ow']
    split
    · rename_i h1; exact ⟨fun _ => h1, fun _ => rfl⟩
    · rename_i h1; exact ⟨fun e => absurd e (hnone k), fun e => absurd e h1⟩
  have hother : ∀ x k, x ≠ v → x ≠ nx → (ow' k = some x ↔ ow k = some x) := by
    intro x k e1 e2
    simp only [ow']
    split
    · rename_i h1
      rw [h1]
      simp only [Option.some.injEq]
      exact ⟨fun e => absurd e.symm e2, fun e => absurd e.symm e1⟩
    · exact Iff.rfl
  have up : ∀ i, Nat.blt i nx = true → Nat.blt i (nx + 1) = true := fun i hi => by simp only [Nat.blt_eq] at hi ⊢; omega
  simp only [XV.rel, CV.rel, SV.rel] at hsl
  have hp : ∃ p : Option Addr × Nat, a.tmps.getD t undef = .slice p.1 n p.2 ∧ ∃ u, AC.at w (fun k => ow k = some v) (.row sz n f) p u := by
    by_cases hnil : (β v).nil = true
    · rw [if_pos hnil] at hv hsl
      obtain ⟨h1, _, h2⟩ := hsl
      exact ⟨(none, 0), by rw [h1, h2], _, rfl, .inl ⟨rfl, h2⟩⟩
    · rw [if_neg hnil] at hv hsl
      obtain ⟨ad, h1, h2, h3⟩ := hsl
      obtain ⟨v1, v2, v3, v4, arr, v5, v6, v7⟩ := hv
      refine ⟨(some ad, (β v).cap), by rw [h1, Nat.sub_zero], _, rfl, .inr ⟨ad, (β v).blk, 0, rfl, v3, fun h0 => ?_, v2, fun k hk => ?_⟩⟩
      · rw [h3 h0]
        simp [Loc.addr, v1]
      · obtain ⟨w1, w2⟩ := v7 k hk
        refine ⟨w1, fun j u hj => ?_⟩
        have := w2 j u hj
        simp [World.cell?, v5, this]
  obtain ⟨p, hp1, u, hp2⟩ := hp
  have g4' : C.n0 ≤ nx := g4
  have htl : t < slots.length := by
    cases hlt : decide (t < slots.length) with
    | true => exact of_decide_eq_true hlt
    | false => rw [lget_none_of (of_decide_eq_false hlt)] at ht; cases ht
  refine h p a w ⟨β', ow', ⟨g1.defers, ?_, fun t' X hX => ?_, fun c' ch hc' => ?_, fun k hk => ?_⟩, ⟨fun t' X hX => ?_, fun c' ch hc' => ?_⟩, ⟨g3.os, g3.tape, g3.output, g3.size, fun k e1 e2 => ?_, fun x hx => ?_⟩, Nat.le_succ_of_le g4, fun k c' hk => ?_⟩
  · rw [g1.size]; exact (lset_length _ _ _).symm
  · rw [lget_lset] at hX
    by_cases htt : t' = t
    · rw [if_pos htt, if_pos htl] at hX
      cases hX
      rw [htt]
      exact hp1
    · rw [if_neg htt] at hX
      exact XV.rel_congr hβ (g2.slots t' X hX) (g1.slots t' X hX)
  · simp only [Mem.get, nbeq] at hc'
    by_cases hcn' : nx = c'
    · simp only [hcn', decide_true, cond_true, Option.some.injEq] at hc'
      subst hc'
      have e0 : β' c' = ⟨0, 0, 0, false, fun _ => 0⟩ := by simp only [β']; rw [if_pos hcn'.symm]
      simp only [Holds]
      rw [e0]
      refine ⟨rfl, rfl, fun k hk => ?_, fun i hi j x hx => ?_⟩
      · rw [← hcn'] at hk
        exact g1.wf k (by rw [(hown k).1 hk]; simp)
      · match j with
        | 0 =>
          simp only [List.getElem?_cons_zero, Option.some.injEq] at hx
          subst hx
          exact ⟨u, AC.at_mono (x := .row sz n f) (p := p) (v := u) (fun k hk => by rw [← hcn']; exact (hown k).2 hk) (fun _ _ => rfl) hp2⟩
        | j + 1 => simp at hx
    · simp only [hcn', decide_false, cond_false, Mem.get_del] at hc'
      split at hc'
      · cases hc'
      · rename_i hne
        exact Holds.keep (g2.mem c' ch hc').2 hβ (hβ c' (g2.mem c' ch hc').1) (fun _ k => hother c' k hne (fun e => hcn' e.symm)) (fun _ k hn => by simp [ow', hn]) (g1.mem c' ch hc')
  · simp only [ow'] at hk
    split at hk
    · rename_i h1; exact g1.wf k (by rw [h1]; simp)
    · exact g1.wf k hk
  · rw [lget_lset] at hX
    by_cases htt : t' = t
    · rw [if_pos htt, if_pos htl] at hX
      cases hX
      rfl
    · rw [if_neg htt] at hX
      exact XV.ok_mono up (g2.slots t' X hX)
  · simp only [Mem.get, nbeq] at hc'
    by_cases hcn' : nx = c'
    · simp only [hcn', decide_true, cond_true, Option.some.injEq] at hc'
      subst hc'
      exact ⟨by simp only [Nat.blt_eq]; omega, rfl⟩
    · simp only [hcn', decide_false, cond_false, Mem.get_del] at hc'
      split at hc'
      · cases hc'
      · obtain ⟨n1, n2⟩ := g2.mem c' ch hc'
        exact ⟨up _ n1, Chunk.ok_mono up n2⟩
  · obtain ⟨e3, e4⟩ := g3.keep k e1 e2
    exact ⟨e3, by simp [ow', e4]⟩
  · rw [hβ x (by simp only [Nat.blt_eq]; omega)]
    exact g3.beta x hx
  · simp only [ow'] at hk
    split at hk
    · cases hk; simp only [Nat.blt_eq]; omega
    · exact up _ (g5 k c' hk)
end Go.Sx
namespace Go.Sx
open Go.RowKit
def numM : Nat → List Chunk → Mem
  | _, [] => []
  | k, c :: r => (k, c) :: numM (k + 1) r
theorem numM_get : ∀ (l : List Chunk) (k i : Nat) (ch : Chunk), (numM k l).get i = some ch → k ≤ i ∧ l[i - k]? = some ch
  | [], _, _, _, h => by cases h
  | c :: r, k, i, ch, h => by
    simp only [numM, Mem.get, nbeq] at h
    by_cases hk : k = i
    · subst hk
      simp only [decide_true, cond_true] at h
      exact ⟨Nat.le_refl _, by simpa using h⟩
    · simp only [hk, decide_false, cond_false] at h
      obtain ⟨h1, h2⟩ := numM_get r (k + 1) i ch h
      refine ⟨by omega, ?_⟩
      rw [show i - k = (i - (k + 1)) + 1 by omega, List.getElem?_cons_succ]
      exact h2
def tieM : List Nat → List Chunk → Mem
  | c :: r, ch :: s => (c, ch) :: tieM r s
  | _, _ => []
theorem tieM_get : ∀ (ids : List Nat) (l : List Chunk) (c : Nat) (ch : Chunk), (tieM ids l).get c = some ch → ∃ i : Nat, ids[i]? = some c ∧ l[i]? = some ch
  | [], _, _, _, h => by cases h
  | _ :: _, [], _, _, h => by cases h
  | a :: r, x :: s, c, ch, h => by
    simp only [tieM, Mem.get, nbeq] at h
    by_cases hk : a = c
    · subst hk
      simp only [decide_true, cond_true] at h
      exact ⟨0, rfl, by simpa using h⟩
    · simp only [hk, decide_false, cond_false] at h
      obtain ⟨i, h1, h2⟩ := tieM_get r s c ch h
      exact ⟨i + 1, by simpa using h1, by simpa using h2⟩
def Gets (M : Mem) : List Nat → List Chunk → Prop
  | [], [] => True
  | c :: r, ch :: s => M.get c = some ch ∧ Gets M r s
  | _, _ => False
theorem Gets.at {M : Mem} : ∀ {ids : List Nat} {l : List Chunk}, Gets M ids l → ids.length = l.length ∧ ∀ (i c : Nat) (ch : Chunk), ids[i]? = some c → l[i]? = some ch → M.get c = some ch
  | [], [], _ => ⟨rfl, fun i c ch h => by simp at h⟩
  | [], _ :: _, h => h.elim
  | _ :: _, [], h => h.elim
  | a :: r, x :: s, h => by
    obtain ⟨h1, h2⟩ := h
    obtain ⟨h3, h4⟩ := h2.at
    refine ⟨by simp [h3], fun i c ch e1 e2 => ?_⟩
    match i with
    | 0 =>
      simp only [List.getElem?_cons_zero, Option.some.injEq] at e1 e2
      subst e1 e2; exact h1
    | i + 1 => exact h4 i c ch (by simpa using e1) (by simpa using e2)
def okOwn (l : List Chunk) : Bool := l.all fun c => c.closed && !c.isRo
def okRead (l : List Chunk) : Bool := l.all fun c => c.closed && c.isRo
theorem Gets.app {M : Mem} : ∀ {ids rids : List Nat} {l s : List Chunk}, Gets M ids l → Gets M rids s → Gets M (ids ++ rids) (l ++ s)
  | [], _, [], _, _, h => h
  | [], _, _ :: _, _, h, _ => h.elim
  | _ :: _, _, [], _, h, _ => h.elim
  | _ :: _, _, _ :: _, _, h, h' => ⟨h.1, Gets.app h.2 h'⟩
theorem spec_owned {P : Program} {T : TyTab} {f : FuncId} {fn : Func} {c : Code} (hT : TabOK P T) (hf : P.funcs[f]? = some fn) (hb : fn.body = some c)
    (chs chs' es : List Chunk) (Xl : List CV) (X : XV) {M : Mem} {d : Nat} (ids rids : List Nat) {Xs : List CV} {r : Res} {k1 n0 : Nat} {M0 : Mem} (hk : chs.length = k1) (hn : chs.length + es.length = n0) (hM : numM 0 (chs ++ es) = M0) (hids : ids.Nodup) (hd : d ∉ ids ++ rids)
    (hXl : Xl.all (CV.ok fun i => Nat.blt i (chs.length + es.length)) = true) (hX : X.ok (fun i => Nat.blt i (chs.length + es.length)) = true) (hc : okOwn chs = true) (hc' : okOwn chs' = true) (he : okRead es = true)
    (hg : Gets M ids chs) (hg' : Gets M rids es)
    (h : ∀ C : Ctx, C.n0 = n0 → Tri P C c ⟨slots0 fn.ntmps (Xl.map .cv), M0, n0⟩ (Ends C T fn.results.toList k1 n0 ⟨X, numM 0 chs', none⟩))
    (hXs : Xs = Xl.map (CV.ren fun i => ((ids ++ rids)[i]?).getD d)) (hrv : r.v = X.ren fun i => ((ids ++ rids)[i]?).getD d) (hru : r.upd = tieM ids chs') (hwr : r.wr = ids) : CallSpec P f Xs M d r (ids ++ rids) := by
  subst hk hn hM
  obtain ⟨l1, g1⟩ := hg.at
  obtain ⟨l2, g2⟩ := hg'.at
  obtain ⟨l3, g3⟩ := (hg.app hg').at
  refine spec_of_open (ids := ids) (rids := rids) (k1 := chs.length) (n0 := chs.length + es.length) (Xl := Xl) (M0 := numM 0 (chs ++ es)) (out := ⟨X, numM 0 chs', none⟩) hT hf hb hids l1 (by rw [l2]) hd hXl (fun i ch hi => ?_) (fun i ch hi => ?_) (fun i ch hi => by cases hi) (XV.ok_mono (fun i hi => by rw [hi, Bool.true_or]) hX) h hXs hrv hwr (fun q ch hq => ?_)
  · obtain ⟨-, h2⟩ := numM_get _ _ _ _ hi
    rw [Nat.sub_zero] at h2
    have hlt : i < chs.length + es.length := by
      have := (List.getElem?_eq_some_iff.1 h2).1
      rwa [List.length_append] at this
    have hcl : ch.closed = true := by
      rcases Nat.lt_or_ge i chs.length with h3 | h3
      · rw [List.getElem?_append_left h3] at h2
        exact (Bool.and_eq_true _ _ ▸ List.all_eq_true.1 hc ch (List.mem_of_getElem? h2)).1
      · rw [List.getElem?_append_right h3] at h2
        exact (Bool.and_eq_true _ _ ▸ List.all_eq_true.1 he ch (List.mem_of_getElem? h2)).1
    refine ⟨hlt, Chunk.ok_mono (fun _ h => by cases h) hcl, fun h3 => ?_, fun ci hci => ?_⟩
    · rw [List.getElem?_append_right h3] at h2
      exact (Bool.and_eq_true _ _ ▸ List.all_eq_true.1 he ch (List.mem_of_getElem? h2)).2
    · rw [Chunk.ren_closed hcl]
      exact g3 i ci ch hci h2
  · obtain ⟨-, h2⟩ := numM_get _ _ _ _ hi
    rw [Nat.sub_zero] at h2
    have h3 := List.all_eq_true.1 hc' ch (List.mem_of_getElem? h2)
    simp only [Bool.and_eq_true, Bool.not_eq_true'] at h3
    exact ⟨Chunk.ok_mono (fun _ h => by cases h) h3.1, h3.2⟩
  · rw [hru] at hq
    obtain ⟨i, h1, h2⟩ := tieM_get _ _ _ _ hq
    have h3 := List.all_eq_true.1 hc' ch (List.mem_of_getElem? h2)
    simp only [Bool.and_eq_true, Bool.not_eq_true'] at h3
    refine ⟨ch, (Chunk.ren_closed h3.1).symm, .inl ⟨i, h1, ?_⟩⟩
    have : ∀ (l : List Chunk) (k j : Nat) (c : Chunk), l[j]? = some c → (numM k l).get (k + j) = some c := by
      intro l
      induction l with
      | nil => intro k j c h; simp at h
      | cons a s ih =>
        intro k j c h
        match j with
        | 0 => simp only [numM, Mem.get, nbeq, Nat.add_zero, decide_true, cond_true]; simpa using h
        | j + 1 =>
          simp only [numM, Mem.get, nbeq]
          rw [show decide (k = k + (j + 1)) = false from decide_eq_false (by omega), cond_false, show k + (j + 1) = (k + 1) + j by omega]
          exact ih (k + 1) j c (by simpa using h)
    have h4 := this chs' 0 i ch h2
    rwa [Nat.zero_add] at h4
theorem Ends.owned {C : Ctx} {T : TyTab} {rs : List ResultVar} {k1 n0 : Nat} {X v : XV} {S S' : St} {e : Exit} {l : List Chunk} (he : e = .normal ∨ e = .ret) (hE : Ent C S S') (hr : resX T S' rs = some v) (hv : v = X) (hg : Gets S'.mem (List.range k1) l) :
    Ends C T rs k1 n0 ⟨X, numM 0 l, none⟩ e S := by
  obtain ⟨hl, h⟩ := hg.at
  refine ⟨he, _, hE, by rw [hr, hv], fun i ch hi => ?_, fun i ch h => by cases h⟩
  obtain ⟨-, h2⟩ := numM_get _ _ _ _ hi
  rw [Nat.sub_zero] at h2
  have hlt := (List.getElem?_eq_some_iff.1 h2).1
  rw [List.length_range] at hl
  have hik : i < k1 := by omega
  exact ⟨hik, h i i ch (by rw [List.getElem?_range hik]) h2⟩
end Go.Sx
namespace Go.Sx
open Go.RowKit Go.ChangeShapes Go.WideShapes
def PartsE (n : Nat) (F : Nat → List AC) (ad : Nat → Nat → Option Addr × Nat) : ExtP where
  Ψ w _ O := ∀ i, i < n → ∀ j x, (F i)[j]? = some x → ∃ v, AC.at w O x (ad i j) v
  loc := by
    intro w w' L O hk h i hi j x hx
    obtain ⟨v, e⟩ := h i hi j x hx
    exact ⟨v, AC.at_mono (fun _ h => h) hk e⟩
theorem two_low {i c : Nat} {a b ch : Chunk} (ha : a.isRo = true) (hb : b.isRo = true) (h : Mem.get [(i, a), (i + 1, b)] c = some ch) : i ≤ c ∧ c < i + 2 ∧ ch.isRo = true := by
  simp only [Mem.get, nbeq] at h
  by_cases h1 : i = c
  · subst h1
    simp only [decide_true, cond_true, Option.some.injEq] at h
    subst h
    exact ⟨Nat.le_refl _, by omega, ha⟩
  · by_cases h2 : i + 1 = c
    · subst h2
      simp only [h1, decide_false, decide_true, cond_true, cond_false, Option.some.injEq] at h
      subst h
      exact ⟨by omega, by omega, hb⟩
    · simp [h1, h2] at h
def AD.deep (sz n : Nat) (F : Nat → List AC) (ad : Nat → Nat → Option Addr × Nat) : AD :=
  ⟨2, fun i => .one (.slc i sz 0 n), fun i => [(i, .ro sz n fun k => fillA 0 (F k) (ad k)), (i + 1, .ext (PartsE n F ad))], fun h => two_low rfl rfl h⟩
theorem lend_partE {M : Mem} {rd : List Nat} {q n i j sz k : Nat} {F : Nat → List AC} {ad : Nat → Nat → Option Addr × Nat} {f : Nat → List Value} (hm : M.get q = some (.ext (PartsE n F ad))) (hrd : nmem q rd = true) (hi : i < n) (hx : (F i)[j]? = some (.row sz k f)) : Lends M rd (.one (.raw (.slice (ad i j).1 k (ad i j).2))) (.row sz k f) := by
  refine Lends.row ?_
  intro β ow w v hw hv hr
  simp only [CV.rel, SV.rel] at hv
  obtain ⟨O, h4, h5⟩ := hr q ((nmem_iff q rd).1 hrd) _ hm
  obtain ⟨v', _, h2⟩ := h5 i hi j _ hx
  rcases h2 with ⟨e1, e2⟩ | ⟨a, b, off, e1, e2, e3, e4, e5⟩
  · refine ⟨⟨0, 0, 0, true, fun _ => 0⟩, ?_, ?_⟩
    · simp only [SV.rel, if_true]
      rw [hv, e1, e2]
      simp
    · simp [RoAt, e2]
  · refine ⟨⟨b, off, (ad i j).2, false, fun _ => 0⟩, ?_, ?_⟩
    · simp only [SV.rel, Bool.false_eq_true, if_false]
      refine ⟨a, by rw [hv, e1, Nat.sub_zero], by omega, fun h0 => ?_⟩
      rw [e3 h0]
      simp [Loc.addr]
    · simp only [RoAt, Bool.false_eq_true, if_false]
      refine ⟨⟨(h4 b e4).2, .inl (h4 b e4).1⟩, fun k' hk' => ⟨(e5 k' hk').1, fun j' u hj' => ?_⟩⟩
      exact (e5 k' hk').2 j' u hj'
section
variable {P : Program} {T : TyTab} {H : Type} {enc : TypeId × Value → H} {W : World}
theorem add_at {a : Addr} {n i : Nat} : (a.add n).add i = a.add (n + i) := by
  unfold Addr.add
  split <;> split <;> simp_all [Nat.add_assoc]
theorem cell_lt' {a : Addr} {v : Value} (h : W.cell? a = some v) : a.block < W.heap.size := by
  by_cases hb : a.block < W.heap.size
  · exact hb
  · have e : W.heap[a.block]? = none := Array.getElem?_eq_none (by omega)
    simp [World.cell?, e] at h
theorem slice_seen (hT : TabOK P T) {t e : TypeId} {td te : TyD} (ht : T t = some td) (hd : td.desc = .slice e) (he : T e = some te) (hsz : 0 < te.size) {fuel : Nat} {cs : List Value} {x : DataW H × List MemPlace}
    (hf : DataW.trod enc P W 0 (fun _ => true) true fuel t cs = some x) :
    cs = [.slice none 0 0] ∨ ∃ (a : Addr) (len cap : Nat), cs = [.slice (some a) len cap] ∧ len ≤ cap ∧ cap ≤ maxLen ∧ (0 < cap → a = ⟨a.block, a.off, none⟩ ∧ a.block < W.heap.size) ∧
      ∀ i, i < len → ∃ cs' n y, DataW.trod enc P W 0 (fun _ => true) true n e cs' = some y ∧ cs'.length = te.size ∧ ∀ j u, cs'[j]? = some u → W.cell? ⟨a.block, a.off + (i * te.size + j), none⟩ = some u := by
  have hu := under_slice hT ht hd
  have hc : P.cellsOf e = te.size := cellsOf_T hT he
  rcases Go.Deep.open_slice hu hf with ⟨h1, _⟩ | ⟨a, len, cap, m, n, D, Pl, h1, _, hle, hm, hmm, _, hx⟩
  · exact .inl h1
  · simp only [if_true] at hmm
    subst hmm
    have spot : 0 < m → a = ⟨a.block, a.off, none⟩ ∧ a.block < W.heap.size := fun h0 => by
      obtain ⟨cs', h2, _⟩ := hx 0 h0
      rw [hc] at h2
      obtain ⟨_, g2, g3⟩ := World.cells?_some h2
      have h4 := g3 0 hsz
      rw [List.getElem?_eq_getElem (by omega), Nat.zero_mul] at h4
      have e0 : (a.add 0).add 0 = a := by simp [Addr.add]
      rw [e0] at h4
      have h5 := World.cell?_spot h4
      exact ⟨by cases a; simp_all, cell_lt' h4⟩
    refine .inr ⟨a, len, m, h1, hle, hm, spot, fun i hi => ?_⟩
    obtain ⟨cs', h2, h3⟩ := hx i (by omega)
    rw [hc] at h2
    obtain ⟨_, g2, g3⟩ := World.cells?_some h2
    refine ⟨cs', n, _, h3, g2, fun j u hj => ?_⟩
    have hjl : j < te.size := by rw [← g2]; exact (List.getElem?_eq_some_iff.1 hj).1
    have h4 := g3 j hjl
    rw [hj, add_at] at h4
    have hs := (spot (by omega)).1
    have hadd : a.add (i * te.size + j) = ⟨a.block, a.off + (i * te.size + j), none⟩ := by
      unfold Addr.add
      split
      · rename_i h; rw [h, Nat.add_zero]; exact hs
      · rfl
    rw [hadd] at h4
    exact h4
theorem row_in_cell (hT : TabOK P T) {t e : TypeId} {td te : TyD} (ht : T t = some td) (hd : td.desc = .slice e) (he : T e = some te) (hsz : 0 < te.size) {f : Nat} {ks : List Kd} (hk : kindsT T f e = some ks) {fuel : Nat} {cs : List Value} {x : DataW H × List MemPlace}
    (hf : DataW.trod enc P W 0 (fun _ => true) true fuel t cs = some x) {b0 : Nat} (hb0 : b0 < W.heap.size) {E : Type} (cells : E → List Value) (dec : ∀ cs, Fits ks cs → ∃ x, cs = cells x) (dflt : E) :
    ∃ (l : List E) (p : Option Addr × Nat), l.length ≤ maxLen ∧ cs = [.slice p.1 l.length p.2] ∧ ∃ v, AC.at W (fun k => k < W.heap.size) (.row te.size l.length fun i => cells (l.getD i dflt)) p v := by
  rcases slice_seen hT ht hd he hsz hf with h1 | ⟨a, len, cap, h1, hle, hm, spot, hx⟩
  · exact ⟨[], (none, 0), Nat.zero_le _, h1, _, rfl, .inl ⟨rfl, rfl⟩⟩
  · have pick : ∀ k, k ≤ len → ∃ l : List E, l.length = k ∧ ∀ i, i < k → (cells (l.getD i dflt)).length = te.size ∧ ∀ j u, (cells (l.getD i dflt))[j]? = some u → W.cell? ⟨a.block, a.off + (i * te.size + j), none⟩ = some u := by
      intro k
      induction k with
      | zero => intro _; exact ⟨[], rfl, fun i hi => by omega⟩
      | succ k ih =>
        intro hk'
        obtain ⟨l, h2, h3⟩ := ih (by omega)
        obtain ⟨cs', n, y, h4, h5, h6⟩ := hx k (by omega)
        obtain ⟨z, rfl⟩ := dec cs' (trod_fits hT f e ks hk n cs' _ h4)
        refine ⟨l ++ [z], by simp [h2], fun i hi => ?_⟩
        by_cases hik : i < k
        · have e1 : (l ++ [z]).getD i dflt = l.getD i dflt := by simp [List.getD_eq_getElem?_getD, List.getElem?_append_left (show i < l.length by omega)]
          rw [e1]; exact h3 i hik
        · obtain rfl : i = k := by omega
          have e1 : (l ++ [z]).getD i dflt = z := by simp [List.getD_eq_getElem?_getD, ← h2]
          rw [e1]; exact ⟨h5, h6⟩
    obtain ⟨l, hl, hcell⟩ := pick len (Nat.le_refl _)
    refine ⟨l, (some a, cap), by rw [hl]; exact Nat.le_trans hle hm, by rw [hl]; exact h1, _, rfl, ?_⟩
    by_cases h0 : 0 < cap
    · obtain ⟨s1, s2⟩ := spot h0
      exact .inr ⟨a, a.block, a.off, rfl, by rw [hl]; exact hle, fun _ => s1, s2, fun k hk => by rw [hl] at hk; exact hcell k hk⟩
    · exact .inr ⟨a, b0, 0, rfl, by rw [hl]; exact hle, fun h => absurd h h0, hb0, fun k hk => by rw [hl] at hk; omega⟩
theorem open_deep (hT : TabOK P T) {t e : TypeId} {td te : TyD} (ht : T t = some td) (hd : td.desc = .slice e) (he : T e = some te) (hsz : 0 < te.size) {v : Value} {fuel : Nat} {x : DataW H × List MemPlace}
    (hf : DataW.trod enc P W 0 (fun _ => true) true fuel t [v] = some x) (hv : Cell.okWide P W .any 0 t v) {E : Type} (ac : E → List AC) (Q : E → Prop)
    (dec : ∀ n cs y, DataW.trod enc P W 0 (fun _ => true) true n e cs = some y → cs.length = te.size → ∀ b0, b0 < W.heap.size → ∃ (z : E) (g : Nat → Option Addr × Nat), Q z ∧ cs = fillA 0 (ac z) g ∧ ∀ j y, (ac z)[j]? = some y → ∃ v, AC.at W (fun k => k < W.heap.size) y (g j) v) (dflt : E) :
    ∃ (l : List E) (ad : Nat → Nat → Option Addr × Nat), l.length ≤ maxLen ∧ (∀ i, i < l.length → Q (l.getD i dflt)) ∧ Came W v (.deep te.size l.length (fun i => ac (l.getD i dflt)) ad) := by
  rcases slice_seen hT ht hd he hsz hf with h1 | ⟨a, len, cap, h1, hle, hm, spot, hx⟩
  · simp only [List.cons.injEq, and_true] at h1
    subst h1
    refine ⟨[], fun _ _ => (none, 0), Nat.zero_le _, fun i hi => absurd hi (Nat.not_lt_zero _), [⟨0, 0, 0, true, fun _ => 0⟩, default], rfl, fun i β0 hβ => ?_⟩
    have hb0 : β0 i = ⟨0, 0, 0, true, fun _ => 0⟩ := by simpa using hβ 0 _ rfl
    refine ⟨by simp [AD.deep, CV.rel, SV.rel, hb0], fun c ch hc => ?_⟩
    simp only [AD.deep, Mem.get, nbeq] at hc
    by_cases h1 : i = c
    · subst h1
      simp only [decide_true, cond_true, Option.some.injEq] at hc
      subst hc
      rw [hb0]
      simp [HoldsAt, RoAt]
    · by_cases h2 : i + 1 = c
      · subst h2
        simp only [h1, decide_false, decide_true, cond_true, cond_false, Option.some.injEq] at hc
        subst hc
        exact ⟨fun _ => False, fun _ h => h.elim, fun i hi => absurd hi (Nat.not_lt_zero _)⟩
      · simp [h1, h2] at hc
  · simp only [List.cons.injEq, and_true] at h1
    subst h1
    have pick : ∀ k, k ≤ len → ∃ (l : List E) (ad : Nat → Nat → Option Addr × Nat), l.length = k ∧ ∀ i, i < k → Q (l.getD i dflt) ∧ (fillA 0 (ac (l.getD i dflt)) (ad i)).length = te.size ∧ (∀ j u, (fillA 0 (ac (l.getD i dflt)) (ad i))[j]? = some u → W.cell? ⟨a.block, a.off + (i * te.size + j), none⟩ = some u) ∧ ∀ j y, (ac (l.getD i dflt))[j]? = some y → ∃ v, AC.at W (fun k => k < W.heap.size) y (ad i j) v := by
      intro k
      induction k with
      | zero => intro _; exact ⟨[], fun _ _ => (none, 0), rfl, fun i hi => by omega⟩
      | succ k ih =>
        intro hk'
        obtain ⟨l, ad, h2, h3⟩ := ih (by omega)
        obtain ⟨cs', n, y, h4, h5, h6⟩ := hx k (by omega)
        obtain ⟨z, g, q1, q2, q3⟩ := dec n cs' y h4 h5 a.block (spot (by omega)).2
        subst q2
        refine ⟨l ++ [z], fun i => if i = k then g else ad i, by simp [h2], fun i hi => ?_⟩
        by_cases hik : i < k
        · have e1 : (l ++ [z]).getD i dflt = l.getD i dflt := by simp [List.getD_eq_getElem?_getD, List.getElem?_append_left (show i < l.length by omega)]
          dsimp only
          rw [e1, if_neg (by omega)]; exact h3 i hik
        · obtain rfl : i = k := by omega
          have e1 : (l ++ [z]).getD i dflt = z := by simp [List.getD_eq_getElem?_getD, ← h2]
          dsimp only
          rw [e1, if_pos rfl]; exact ⟨q1, h5, h6, q3⟩
    obtain ⟨l, ad, hl, hcell⟩ := pick len (Nat.le_refl _)
    refine ⟨l, ad, by rw [hl]; exact Nat.le_trans hle hm, fun i hi => (hcell i (by omega)).1, ?_⟩
    have hu := under_slice hT ht hd
    have hsp : a.spot = none ∧ a.block < W.heap.size := by
      simp only [hu, Cell.okWide, Cell.ok] at hv
      obtain ⟨_, _, _, hs, row, cells', hsh, _⟩ := hv
      refine ⟨hs, ?_⟩
      unfold World.shape? at hsh
      split at hsh
      · rename_i hb
        exact (Array.getElem?_eq_some_iff.1 hb).1
      · cases hsh
    have s1 : a = ⟨a.block, a.off, none⟩ := by cases a; simp_all
    have s2 := hsp.2
    refine ⟨[⟨a.block, a.off, cap, false, fun _ => 0⟩, default], rfl, fun i β0 hβ => ?_⟩
    have hb0 : β0 i = ⟨a.block, a.off, cap, false, fun _ => 0⟩ := by simpa using hβ 0 _ rfl
    refine ⟨?_, fun c ch hc => ?_⟩
    · simp only [AD.deep, CV.rel, SV.rel, hb0, Bool.false_eq_true, if_false]
      exact ⟨a, by rw [hl, Nat.sub_zero], by omega, fun _ => by simp only [Loc.addr, Nat.zero_mul, Nat.add_zero]; exact s1⟩
    · simp only [AD.deep, Mem.get, nbeq] at hc
      by_cases h1 : i = c
      · subst h1
        simp only [decide_true, cond_true, Option.some.injEq] at hc
        subst hc
        rw [hb0]
        simp only [HoldsAt, RoAt, Bool.false_eq_true, if_false]
        exact ⟨⟨s2, trivial⟩, fun k hk => by rw [hl] at hk; exact ⟨(hcell k hk).2.1, (hcell k hk).2.2.1⟩⟩
      · by_cases h2 : i + 1 = c
        · subst h2
          simp only [h1, decide_false, decide_true, cond_true, cond_false, Option.some.injEq] at hc
          subst hc
          exact ⟨fun k => k < W.heap.size, fun k hk => ⟨hk, trivial⟩, fun k hk => by rw [hl] at hk; exact (hcell k hk).2.2.2⟩
        · simp [h1, h2] at hc
end
end Go.Sx
namespace Go.Proofs.YtnpkdoggfnlapaaGreatDoor
open Go.Sx
def Tryz.tab : List (Nat × TyD) := [
  (2, { size := 1, bytes := 8, agg := false, zero := [.int .i64 0], desc := .int .i64 }),
  (3, { size := 1, bytes := 8, agg := false, zero := [.int .i64 0], desc := .int .i64 }),
  (4, { size := 1, bytes := 1, agg := false, zero := [.bool false], desc := .bool }),
  (5, { size := 1, bytes := 1, agg := false, zero := [.int .u8 0], desc := .int .u8 }),
  (9, { size := 1, bytes := 16, agg := false, zero := [.string ByteArray.empty], desc := .str }),
  (12, { size := 1, bytes := 8, agg := false, zero := [.int .u64 0], desc := .int .u64 }),
  (21, { size := 1, bytes := 4, agg := false, zero := [.int .i32 0], desc := .int .i32 }),
  (25, { size := 1, bytes := 2, agg := false, zero := [.int .u16 0], desc := .int .u16 }),
  (84, { size := 1, bytes := 8, agg := false, zero := [.int .u64 0], desc := .int .u64 }),
  (225, { size := 1, bytes := 4, agg := false, zero := [.int .u32 0], desc := .int .u32 }),
  (229, { size := 1, bytes := 8, agg := false, zero := [.int .u64 0], desc := .int .u64 }),
  (22, { size := 1, bytes := 24, agg := false, zero := [.slice none 0 0], desc := .slice 25 }),
  (23, { size := 2, bytes := 48, agg := true, zero := [.slice none 0 0, .slice none 0 0], desc := .struct [(22, 0), (22, 1)] }),
  (24, { size := 2, bytes := 48, agg := true, zero := [.slice none 0 0, .slice none 0 0], desc := .struct [(22, 0), (22, 1)] }),
  (27, { size := 1, bytes := 8, agg := false, zero := [.map none], desc := .map 29 4 }),
  (28, { size := 8, bytes := 8, agg := true, zero := List.replicate 8 (.int .u8 0), desc := .array 8 5 }),
  (29, { size := 8, bytes := 8, agg := true, zero := List.replicate 8 (.int .u8 0), desc := .array 8 5 }),
  (30, { size := 10, bytes := 24, agg := true, zero := List.replicate 8 (.int .u8 0) ++ [.int .i64 0, .int .i64 0], desc := .struct [(29, 0), (3, 8), (3, 9)] }),
  (31, { size := 10, bytes := 24, agg := true, zero := List.replicate 8 (.int .u8 0) ++ [.int .i64 0, .int .i64 0], desc := .struct [(29, 0), (3, 8), (3, 9)] }),
  (35, { size := 1, bytes := 24, agg := false, zero := [.slice none 0 0], desc := .slice 223 }),
  (36, { size := 1, bytes := 24, agg := false, zero := [.slice none 0 0], desc := .slice 59 }),
  (37, { size := 1, bytes := 24, agg := false, zero := [.slice none 0 0], desc := .slice 150 }),
  (38, { size := 1, bytes := 24, agg := false, zero := [.slice none 0 0], desc := .slice 29 }),
  (39, { size := 4, bytes := 48, agg := true, zero := [.int .i64 0, .int .i64 0, .int .i64 0] ++ [.slice none 0 0], desc := .struct [(3, 0), (3, 1), (3, 2), (38, 3)] }),
  (40, { size := 4, bytes := 48, agg := true, zero := [.int .i64 0, .int .i64 0, .int .i64 0] ++ [.slice none 0 0], desc := .struct [(3, 0), (3, 1), (3, 2), (38, 3)] }),
  (41, { size := 1, bytes := 24, agg := false, zero := [.slice none 0 0], desc := .slice 192 }),
  (42, { size := 21, bytes := 88, agg := true, zero := [.int .i64 0, .int .i64 0, .int .i64 0] ++ List.replicate 16 (.int .u8 0) ++ [.slice none 0 0, .slice none 0 0], desc := .struct [(3, 0), (3, 1), (3, 2), (29, 3), (29, 11), (36, 19), (41, 20)] }),
  (43, { size := 21, bytes := 88, agg := true, zero := [.int .i64 0, .int .i64 0, .int .i64 0] ++ List.replicate 16 (.int .u8 0) ++ [.slice none 0 0, .slice none 0 0], desc := .struct [(3, 0), (3, 1), (3, 2), (29, 3), (29, 11), (36, 19), (41, 20)] }),
  (44, { size := 128, bytes := 128, agg := true, zero := List.replicate 128 (.int .u8 0), desc := .array 16 29 }),
  (45, { size := 140, bytes := 168, agg := true, zero := [.int .i64 0, .int .i64 0] ++ List.replicate 8 (.int .u8 0) ++ [.int .i64 0, .int .i64 0] ++ List.replicate 128 (.int .u8 0), desc := .struct [(3, 0), (3, 1), (31, 2), (44, 12)] }),
  (46, { size := 140, bytes := 168, agg := true, zero := [.int .i64 0, .int .i64 0] ++ List.replicate 8 (.int .u8 0) ++ [.int .i64 0, .int .i64 0] ++ List.replicate 128 (.int .u8 0), desc := .struct [(3, 0), (3, 1), (31, 2), (44, 12)] }),
  (47, { size := 170, bytes := 392, agg := true, zero := [.int .i64 0, .int .i64 0] ++ [.slice none 0 0, .slice none 0 0, .slice none 0 0] ++ [.int .i64 0, .int .i64 0, .int .i64 0] ++ [.slice none 0 0] ++ [.int .i64 0, .int .i64 0, .int .i64 0] ++ List.replicate 16 (.int .u8 0) ++ [.slice none 0 0, .slice none 0 0] ++ [.int .i64 0, .int .i64 0] ++ List.replicate 8 (.int .u8 0) ++ [.int .i64 0, .int .i64 0] ++ List.replicate 128 (.int .u8 0), desc := .struct [(3, 0), (3, 1), (35, 2), (36, 3), (37, 4), (40, 5), (43, 9), (46, 30)] }),
  (48, { size := 170, bytes := 392, agg := true, zero := [.int .i64 0, .int .i64 0] ++ [.slice none 0 0, .slice none 0 0, .slice none 0 0] ++ [.int .i64 0, .int .i64 0, .int .i64 0] ++ [.slice none 0 0] ++ [.int .i64 0, .int .i64 0, .int .i64 0] ++ List.replicate 16 (.int .u8 0) ++ [.slice none 0 0, .slice none 0 0] ++ [.int .i64 0, .int .i64 0] ++ List.replicate 8 (.int .u8 0) ++ [.int .i64 0, .int .i64 0] ++ List.replicate 128 (.int .u8 0), desc := .struct [(3, 0), (3, 1), (35, 2), (36, 3), (37, 4), (40, 5), (43, 9), (46, 30)] }),
  (50, { size := 1, bytes := 8, agg := false, zero := [.pointer none], desc := .ptr }),
  (51, { size := 1, bytes := 8, agg := false, zero := [.pointer none], desc := .ptr }),
  (54, { size := 1, bytes := 8, agg := false, zero := [.pointer none], desc := .ptr }),
  (56, { size := 1, bytes := 8, agg := false, zero := [.int .i64 0], desc := .int .i64 }),
  (58, { size := 9, bytes := 16, agg := true, zero := List.replicate 8 (.int .u8 0) ++ [.int .i64 0], desc := .struct [(29, 0), (3, 8)] }),
  (59, { size := 9, bytes := 16, agg := true, zero := List.replicate 8 (.int .u8 0) ++ [.int .i64 0], desc := .struct [(29, 0), (3, 8)] }),
  (60, { size := 11, bytes := 32, agg := true, zero := List.replicate 8 (.int .u8 0) ++ [.int .i64 0, .int .i64 0] ++ [.bool false], desc := .struct [(59, 0), (3, 9), (4, 10)] }),
  (61, { size := 11, bytes := 32, agg := true, zero := List.replicate 8 (.int .u8 0) ++ [.int .i64 0, .int .i64 0] ++ [.bool false], desc := .struct [(59, 0), (3, 9), (4, 10)] }),
  (64, { size := 9, bytes := 16, agg := true, zero := List.replicate 8 (.int .u8 0) ++ [.int .i64 0], desc := .struct [(29, 0), (3, 8)] }),
  (65, { size := 9, bytes := 16, agg := true, zero := List.replicate 8 (.int .u8 0) ++ [.int .i64 0], desc := .struct [(29, 0), (3, 8)] }),
  (66, { size := 1, bytes := 24, agg := false, zero := [.slice none 0 0], desc := .slice 3 }),
  (67, { size := 42, bytes := 232, agg := true, zero := [.int .i64 0, .int .i64 0, .int .i64 0] ++ [.slice none 0 0] ++ List.replicate 5 (.int .i64 0) ++ [.bool false] ++ [.int .i64 0] ++ List.replicate 8 (.int .u8 0) ++ [.bool false] ++ [.int .i64 0, .int .i64 0, .int .i64 0] ++ List.replicate 16 (.int .u8 0) ++ [.slice none 0 0, .slice none 0 0, .slice none 0 0], desc := .struct [(40, 0), (3, 4), (3, 5), (3, 6), (3, 7), (3, 8), (4, 9), (3, 10), (29, 11), (4, 19), (43, 20), (66, 41)] }),
  (68, { size := 42, bytes := 232, agg := true, zero := [.int .i64 0, .int .i64 0, .int .i64 0] ++ [.slice none 0 0] ++ List.replicate 5 (.int .i64 0) ++ [.bool false] ++ [.int .i64 0] ++ List.replicate 8 (.int .u8 0) ++ [.bool false] ++ [.int .i64 0, .int .i64 0, .int .i64 0] ++ List.replicate 16 (.int .u8 0) ++ [.slice none 0 0, .slice none 0 0, .slice none 0 0], desc := .struct [(40, 0), (3, 4), (3, 5), (3, 6), (3, 7), (3, 8), (4, 9), (3, 10), (29, 11), (4, 19), (43, 20), (66, 41)] }),
  (73, { size := 1, bytes := 24, agg := false, zero := [.slice none 0 0], desc := .slice 5 }),
  (74, { size := 1, bytes := 8, agg := false, zero := [.pointer none], desc := .ptr }),
  (75, { size := 1, bytes := 24, agg := false, zero := [.slice none 0 0], desc := .slice 65 }),
  (76, { size := 1, bytes := 24, agg := false, zero := [.slice none 0 0], desc := .slice 162 }),
  (77, { size := 2, bytes := 48, agg := true, zero := [.slice none 0 0, .slice none 0 0], desc := .struct [(75, 0), (76, 1)] }),
  (78, { size := 2, bytes := 48, agg := true, zero := [.slice none 0 0, .slice none 0 0], desc := .struct [(75, 0), (76, 1)] }),
  (79, { size := 1, bytes := 24, agg := false, zero := [.slice none 0 0], desc := .slice 4 }),
  (82, { size := 2, bytes := 4, agg := true, zero := [.int .u16 0, .int .u16 0], desc := .array 2 25 }),
  (86, { size := 4, bytes := 32, agg := true, zero := List.replicate 4 (.int .i64 0), desc := .array 4 3 }),
  (91, { size := 1, bytes := 24, agg := false, zero := [.slice none 0 0], desc := .slice 95 }),
  (94, { size := 6, bytes := 80, agg := true, zero := [.int .i64 0, .int .i64 0, .int .i64 0] ++ [.slice none 0 0, .slice none 0 0] ++ [.int .u8 0], desc := .struct [(3, 0), (3, 1), (3, 2), (66, 3), (73, 4), (5, 5)] }),
  (95, { size := 6, bytes := 80, agg := true, zero := [.int .i64 0, .int .i64 0, .int .i64 0] ++ [.slice none 0 0, .slice none 0 0] ++ [.int .u8 0], desc := .struct [(3, 0), (3, 1), (3, 2), (66, 3), (73, 4), (5, 5)] }),
  (104, { size := 2, bytes := 2, agg := true, zero := [.int .u8 0, .int .u8 0], desc := .array 2 5 }),
  (106, { size := 1, bytes := 24, agg := false, zero := [.slice none 0 0], desc := .slice 109 }),
  (107, { size := 1, bytes := 24, agg := true, zero := [.slice none 0 0], desc := .struct [(106, 0)] }),
  (108, { size := 1, bytes := 24, agg := true, zero := [.slice none 0 0], desc := .struct [(106, 0)] }),
  (109, { size := 42, bytes := 232, agg := true, zero := [.int .i64 0, .int .i64 0, .int .i64 0] ++ [.slice none 0 0] ++ List.replicate 5 (.int .i64 0) ++ [.bool false] ++ [.int .i64 0] ++ List.replicate 8 (.int .u8 0) ++ [.bool false] ++ [.int .i64 0, .int .i64 0, .int .i64 0] ++ List.replicate 16 (.int .u8 0) ++ [.slice none 0 0, .slice none 0 0, .slice none 0 0], desc := .struct [(40, 0), (3, 4), (3, 5), (3, 6), (3, 7), (3, 8), (4, 9), (3, 10), (29, 11), (4, 19), (43, 20), (66, 41)] }),
  (115, { size := 3, bytes := 6, agg := true, zero := [.int .u16 0, .int .u16 0, .int .u16 0], desc := .array 3 25 }),
  (123, { size := 1, bytes := 8, agg := false, zero := [.pointer none], desc := .ptr }),
  (128, { size := 1, bytes := 8, agg := false, zero := [.map none], desc := .map 65 61 }),
  (129, { size := 1, bytes := 24, agg := false, zero := [.slice none 0 0], desc := .slice 236 }),
  (130, { size := 3, bytes := 40, agg := true, zero := [.map none] ++ [.slice none 0 0] ++ [.int .i64 0], desc := .struct [(128, 0), (129, 1), (3, 2)] }),
  (131, { size := 3, bytes := 40, agg := true, zero := [.map none] ++ [.slice none 0 0] ++ [.int .i64 0], desc := .struct [(128, 0), (129, 1), (3, 2)] }),
  (137, { size := 1, bytes := 24, agg := false, zero := [.slice none 0 0], desc := .slice 68 }),
  (138, { size := 1, bytes := 24, agg := true, zero := [.slice none 0 0], desc := .struct [(137, 0)] }),
  (139, { size := 1, bytes := 24, agg := true, zero := [.slice none 0 0], desc := .struct [(137, 0)] }),
  (149, { size := 11, bytes := 32, agg := true, zero := [.int .i64 0, .int .i64 0] ++ List.replicate 8 (.int .u8 0) ++ [.int .i64 0], desc := .struct [(3, 0), (3, 1), (29, 2), (3, 10)] }),
  (150, { size := 11, bytes := 32, agg := true, zero := [.int .i64 0, .int .i64 0] ++ List.replicate 8 (.int .u8 0) ++ [.int .i64 0], desc := .struct [(3, 0), (3, 1), (29, 2), (3, 10)] }),
  (162, { size := 11, bytes := 32, agg := true, zero := List.replicate 8 (.int .u8 0) ++ [.int .i64 0, .int .i64 0] ++ [.bool false], desc := .struct [(59, 0), (3, 9), (4, 10)] }),
  (173, { size := 1, bytes := 24, agg := false, zero := [.slice none 0 0], desc := .slice 73 }),
  (174, { size := 32, bytes := 32, agg := true, zero := List.replicate 32 (.int .u8 0), desc := .array 32 5 }),
  (176, { size := 2, bytes := 48, agg := true, zero := [.slice none 0 0, .slice none 0 0], desc := .struct [(66, 0), (38, 1)] }),
  (177, { size := 2, bytes := 48, agg := true, zero := [.slice none 0 0, .slice none 0 0], desc := .struct [(66, 0), (38, 1)] }),
  (188, { size := 24, bytes := 24, agg := true, zero := List.replicate 24 (.int .u8 0), desc := .array 3 29 }),
  (189, { size := 281, bytes := 288, agg := true, zero := [.int .i64 0] ++ List.replicate 280 (.int .u8 0), desc := .struct [(3, 0), (44, 1), (44, 129), (188, 257)] }),
  (190, { size := 281, bytes := 288, agg := true, zero := [.int .i64 0] ++ List.replicate 280 (.int .u8 0), desc := .struct [(3, 0), (44, 1), (44, 129), (188, 257)] }),
  (191, { size := 282, bytes := 296, agg := true, zero := [.int .i64 0, .int .i64 0] ++ List.replicate 280 (.int .u8 0), desc := .struct [(3, 0), (190, 1)] }),
  (192, { size := 282, bytes := 296, agg := true, zero := [.int .i64 0, .int .i64 0] ++ List.replicate 280 (.int .u8 0), desc := .struct [(3, 0), (190, 1)] }),
  (202, { size := 1, bytes := 8, agg := false, zero := [.pointer none], desc := .ptr }),
  (222, { size := 298, bytes := 312, agg := true, zero := List.replicate 8 (.int .u8 0) ++ [.int .i64 0] ++ List.replicate 8 (.int .u8 0) ++ [.int .i64 0] ++ List.replicate 280 (.int .u8 0), desc := .struct [(65, 0), (29, 9), (190, 17)] }),
  (223, { size := 298, bytes := 312, agg := true, zero := List.replicate 8 (.int .u8 0) ++ [.int .i64 0] ++ List.replicate 8 (.int .u8 0) ++ [.int .i64 0] ++ List.replicate 280 (.int .u8 0), desc := .struct [(65, 0), (29, 9), (190, 17)] }),
  (226, { size := 8, bytes := 32, agg := true, zero := List.replicate 8 (.int .u32 0), desc := .array 8 225 }),
  (227, { size := 64, bytes := 256, agg := true, zero := List.replicate 64 (.int .u32 0), desc := .array 64 225 }),
  (235, { size := 21, bytes := 56, agg := true, zero := List.replicate 8 (.int .u8 0) ++ [.int .i64 0] ++ List.replicate 8 (.int .u8 0) ++ [.int .i64 0, .int .i64 0] ++ [.bool false, .bool false], desc := .struct [(65, 0), (61, 9), (4, 20)] }),
  (236, { size := 21, bytes := 56, agg := true, zero := List.replicate 8 (.int .u8 0) ++ [.int .i64 0] ++ List.replicate 8 (.int .u8 0) ++ [.int .i64 0, .int .i64 0] ++ [.bool false, .bool false], desc := .struct [(65, 0), (61, 9), (4, 20)] }),
  (256, { size := 1, bytes := 8, agg := false, zero := [.pointer none], desc := .ptr }),
  (257, { size := 2, bytes := 32, agg := true, zero := [.slice none 0 0] ++ [.int .i64 0], desc := .struct [(73, 0), (56, 1)] }),
  (258, { size := 2, bytes := 32, agg := true, zero := [.slice none 0 0] ++ [.int .i64 0], desc := .struct [(73, 0), (56, 1)] }),
  (259, { size := 2, bytes := 32, agg := true, zero := [.slice none 0 0] ++ [.int .i64 0], desc := .struct [(258, 0)] }),
  (260, { size := 2, bytes := 32, agg := true, zero := [.slice none 0 0] ++ [.int .i64 0], desc := .struct [(258, 0)] }),
  (283, { size := 8, bytes := 32, agg := true, zero := List.replicate 8 (.int .u32 0), desc := .array 8 225 }),
  (286, { size := 1, bytes := 8, agg := false, zero := [.pointer none], desc := .ptr }),
  (293, { size := 1, bytes := 8, agg := false, zero := [.int .i64 0], desc := .int .i64 }),
  (301, { size := 1, bytes := 8, agg := false, zero := [.pointer none], desc := .ptr }),
  (304, { size := 1, bytes := 24, agg := false, zero := [.slice none 0 0], desc := .slice 225 }),
  (306, { size := 16, bytes := 16, agg := true, zero := List.replicate 16 (.int .u8 0), desc := .array 2 29 }),
  (307, { size := 256, bytes := 256, agg := true, zero := List.replicate 256 (.int .u8 0), desc := .array 16 306 }),
  (310, { size := 1, bytes := 8, agg := false, zero := [.int .u64 0], desc := .int .u64 }),
  (314, { size := 1, bytes := 8, agg := false, zero := [.pointer none], desc := .ptr }),
  (316, { size := 1, bytes := 8, agg := false, zero := [.pointer none], desc := .ptr }),
  (327, { size := 1, bytes := 8, agg := false, zero := [.pointer none], desc := .ptr })]
abbrev Tryz.T : TyTab := tlook Tryz.tab
theorem Tryz.T_ok : TabOK Tryz.prog Tryz.T := tab_ok (by kernel_rfl)
theorem Tryz.mixed : Tryz.prog.follows .mixedOrders = true := by kernel_rfl
end Go.Proofs.YtnpkdoggfnlapaaGreatDoor
