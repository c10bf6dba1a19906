/- Symbolic states for walks, part G: the operations that are reckoned by themselves. -/
import Derived.Test.YtfdmlpdhngmbiaaSxF
namespace Go.Sx
open Go.RowKit

/-! ### ways to show that an operation is sound -/
section
variable {P : Program} {S : St} {d : Nat} {o : Oper}

theorem upon_value {a : Act} {w w' : World} {x : Value} {K : Act → World → Prop} {Q : Exit → Act → World → Prop} (h : (execOp a.eval o).run P w = .ok (.value x) w') (hK : K (a.put o.dst x) w') : o.wp P a w K Q := by
  unfold Oper.wp
  rw [h]
  exact hK
theorem upon_skip {a : Act} {w w' : World} {K : Act → World → Prop} {Q : Exit → Act → World → Prop} (h : (execOp a.eval o).run P w = .ok .skip w') (hK : K (a.put o.dst undef) w') : o.wp P a w K Q := by
  unfold Oper.wp
  rw [h]
  exact hK

/-- It looks at its operands and at the pieces 'rd', and turns nothing. -/
theorem read_op {X : XV} {rd : List Nat} (h : ∀ β ow (w : World) (a : Act), WF ow w → (∀ x ∈ o.op.operands, ∀ X, S.ev x = some X → X.rel β (a.eval x)) → (∀ c ∈ rd, ∀ ch, S.mem.get c = some ch → Holds β ow w c ch) →
    ∃ x, (execOp a.eval o).run P w = .ok (.value x) w ∧ X.rel β x) : OpSound P S d o { v := X } rd := by
  intro β ow w a K Q hw _ hx hr hK
  obtain ⟨x, h1, h2⟩ := h β ow w a hw hx hr
  exact upon_value h1 (hK β ow w x (Eff.refl hw d) h2 (fun c ch h => by simp [Mem.get] at h))

def setβ (β : Nat → Loc) (d : Nat) (l : Loc) : Nat → Loc := fun c => if c = d then l else β c
def setow (ow : Nat → Option Nat) (k : Nat) (c : Option Nat) : Nat → Option Nat := fun j => if j = k then c else ow j

theorem Eff.alloc {β : Nat → Loc} {ow : Nat → Option Nat} {w : World} (hw : WF ow w) (d : Nat) (l : Loc) (ob : Obj) : Eff β ow w (setβ β d l) (setow ow w.heap.size (some d)) (w.alloc ob) [] d := by
  refine ⟨fun c hc => by simp [setβ, hc], rfl, rfl, rfl, by simp, fun k hk _ => ⟨Below.heap_alloc w ob k hk, by simp [setow, Nat.ne_of_lt hk]⟩, fun k hk c hc => ?_, fun k hk => ?_⟩
  · by_cases hks : k = w.heap.size
    · simp only [setow, hks, if_true, Option.some.injEq] at hc
      exact .inr hc.symm
    · simp only [setow, if_neg hks] at hc
      have := hw k (by simp [hc])
      rcases hk with hk | ⟨_, h0, _⟩
      · omega
      · cases h0
  · by_cases hks : k = w.heap.size
    · rw [hks]; simp
    · simp only [setow, if_neg hks] at hk
      have := hw k hk
      simp; omega

/-- It makes a new block of cells. -/
theorem alloc_op {e : TypeId} {cs : List SV} {X : XV} {L : World → Loc} (hL : ∀ w, (L w).blk = w.heap.size ∧ (L w).base = 0 ∧ (L w).nil = false)
    (hcs : cs.all (SV.ok (fun c => !Nat.beq c d)) = true) (h : ∀ β (w : World) (a : Act), (∀ x ∈ o.op.operands, ∀ X, S.ev x = some X → X.rel β (a.eval x)) →
      ∃ (x : Value) (arr : Array Value), (execOp a.eval o).run P w = .ok (.value x) (w.alloc (.cells arr e)) ∧ Rels β cs arr.toList ∧ X.rel (setβ β d (L w)) x) : OpSound P S d o { v := X, upd := [(d, .cells e cs)] } [] := by
  intro β ow w a K Q hw _ hx _ hK
  obtain ⟨x, arr, h1, h2, h3⟩ := h β w a hx
  refine upon_value h1 (hK _ _ _ x (Eff.alloc hw d (L w) _) h3 (fun c ch hc => ?_))
  simp only [Mem.get, nbeq] at hc
  by_cases hcd : d = c
  · subst hcd
    simp only [decide_true, cond_true, Option.some.injEq] at hc
    subst hc
    obtain ⟨l1, l2, l3⟩ := hL w
    have e1 : setβ β d (L w) d = L w := by simp [setβ]
    refine ⟨by rw [e1]; exact l3, by rw [e1]; exact l2, by rw [e1, l1]; simp [setow], arr, by rw [e1, l1]; exact heap_alloc_new w _, ?_⟩
    refine Rels.congr (p := fun c => !Nat.beq c d) (fun c hc => ?_) hcs h2
    simp only [nbeq, Bool.not_eq_true', decide_eq_false_iff_not] at hc
    simp [setβ, hc]
  · simp [hcd] at hc

/-- It writes one of the state's own blocks. -/
theorem Eff.setRow {β : Nat → Loc} {ow : Nat → Option Nat} {w : World} (hw : WF ow w) (d c : Nat) {g : Nat} (hg : ow g = some c) (cs : Array Value) : Eff β ow w β ow (w.setRow g cs) [c] d := by
  refine ⟨fun _ _ => rfl, rfl, rfl, rfl, by simp, fun k hk hn => ⟨setRow_other w g k cs (fun e => hn c (by simp) (by rw [e]; exact hg)), rfl⟩, fun k hk c' hc => ?_, fun k hk => by simpa using hw k hk⟩
  rcases hk with hk | ⟨c0, h0, h1⟩
  · exact absurd (hw k (by simp [hc])) (by omega)
  · rw [h1] at hc
    cases hc
    exact .inl h0
end

/-! ### loads -/
def mkCV (agg : Bool) (sub : List SV) : Option CV :=
  match agg, sub with
  | true, _ => some (.agg sub)
  | false, [s] => some (.one s)
  | false, _ => none

/-- What lies at a place. -/
def loadX (T : TyTab) (M : Mem) (t : TypeId) (s : SV) : Option (Option Prop × CV × Nat) :=
  match s with
  | .ptr c i sz j =>
    match T t, M.get c with
    | some td, some (.cells _ cs) =>
      let sub := (cs.drop (i * sz + j)).take td.size
      bif Nat.beq sub.length td.size then (match mkCV td.agg sub with | some v => some (none, v, c) | none => none) else none
    | some td, some (.vec _ sz' n f) | some td, some (.ro sz' n f) =>
      let sub := (((f i).drop j).take td.size).map SV.raw
      bif Nat.beq sub.length td.size && Nat.beq sz sz' then (match mkCV td.agg sub with | some v => some (some (i < n), v, c) | none => none) else none
    | _, _ => none
  | _ => none

section
variable {P : Program} {T : TyTab} {β : Nat → Loc} {w : World}

theorem loadVar_ok {t : TypeId} {td : TyD} (ht : TyOK P t td) {sub : List SV} {vs : List Value} (hr : Rels β sub vs) (hl : sub.length = td.size) {a : Addr} (hc : ∀ j v, vs[j]? = some v → w.cell? (a.add j) = some v) {v : CV} (hv : mkCV td.agg sub = some v) :
    ∃ x, (loadVar t a).run P w = .ok x w ∧ v.rel β x := by
  obtain ⟨i, u, h1, h2, h3, _, h5, _⟩ := ht.info
  have hagg : (isAgg t).run P w = .ok (isAggD u) w := by
    unfold isAgg
    rw [Sem.run_bind, run_underlying h2 w]
    cases u <;> rfl
  cases hb : td.agg with
  | true =>
    simp only [hb, mkCV, Option.some.injEq] at hv
    subst hv
    have hlc := run_loadCells_list (P := P) w a vs hc
    have hvl : vs.length = i.size := by rw [h3, ← hl]; exact hr.length.symm
    rw [hvl] at hlc
    refine ⟨.agg vs.toArray, ?_, vs.toArray, rfl, by simpa using hr⟩
    simp [loadVar, hagg, h5, hb, sizeOf, typeInfo, h1, hlc]
  | false =>
    rw [hb] at hv
    match sub, hv with
    | [s], hv =>
      simp only [mkCV, Option.some.injEq] at hv
      subst hv
      obtain ⟨x, r, rfl, hx, _⟩ := hr
      have := hc 0 x rfl
      simp only [Addr.add, if_true] at this
      exact ⟨x, by simp [loadVar, hagg, h5, hb, this], hx⟩

theorem loc_add (l : Loc) (n j : Nat) : (l.addr n).add j = l.addr (n + j) := by
  unfold Loc.addr Addr.add
  by_cases h : j = 0
  · simp [h]
  · simp [h, Nat.add_assoc]

theorem loadX_ok (hT : TabOK P T) {ow : Nat → Option Nat} {M : Mem} {t : TypeId} {s : SV} {np : Option Prop} {v : CV} {c : Nat} (h : loadX T M t s = some (np, v, c)) (hnp : ∀ p, np = some p → p) {x : Value} (hs : s.rel β x)
    (hh : ∀ ch, M.get c = some ch → Holds β ow w c ch) : ∃ y, (Instr.loadAt t x).run P w = .ok y w ∧ v.rel β y := by
  cases s with
  | ptr c0 i sz j =>
    simp only [SV.rel] at hs
    subst hs
    have go : ∀ td, T t = some td → ∀ sub vs, Rels β sub vs → sub.length = td.size → (∀ m v, vs[m]? = some v → w.cell? ((β c0).addr (i * sz + j + m)) = some v) → mkCV td.agg sub = some v →
        ∃ y, (Instr.loadAt t (.pointer (some ((β c0).addr (i * sz + j))))).run P w = .ok y w ∧ v.rel β y := by
      intro td htd sub vs h1 h2 h3 h4
      obtain ⟨y, h5, h6⟩ := loadVar_ok (w := w) (hT t td htd) h1 h2 (a := (β c0).addr (i * sz + j)) (fun m u hu => by rw [loc_add]; exact h3 m u hu) h4
      exact ⟨y, by simp [Instr.loadAt, Instr.sureAddr, h5], h6⟩
    simp only [loadX] at h
    split at h
    · rename_i td e cs h1 h2
      cases hb : Nat.beq ((cs.drop (i * sz + j)).take td.size).length td.size with
      | false => simp only [hb, cond_false] at h; cases h
      | true =>
        simp only [hb, cond_true] at h
        split at h
        · rename_i v' hv'
          simp only [Option.some.injEq, Prod.mk.injEq] at h
          obtain ⟨rfl, rfl, rfl⟩ := h
          obtain ⟨g1, g2, g3, arr, g4, g5⟩ := hh _ h2
          refine go td h1 _ _ ((g5.drop (i * sz + j)).take td.size) (Nat.eq_of_beq_eq_true hb) (fun m u hu => ?_) hv'
          simp only [Loc.addr, g2, Nat.zero_add]
          rw [cell_of_row w _ _ arr e _ g4]
          rw [List.getElem?_take] at hu
          split at hu
          · rw [List.getElem?_drop] at hu; simpa using hu
          · cases hu
        · cases h
    · rename_i td e sz' n f h1 h2
      cases hb : (Nat.beq ((((f i).drop j).take td.size).map SV.raw).length td.size && Nat.beq sz sz') with
      | false => simp only [hb, cond_false] at h; cases h
      | true =>
        simp only [hb, cond_true] at h
        split at h
        · rename_i v' hv'
          simp only [Option.some.injEq, Prod.mk.injEq] at h
          obtain ⟨rfl, rfl, rfl⟩ := h
          simp only [Bool.and_eq_true, nbeq, decide_eq_true_eq] at hb
          obtain ⟨b1, b2⟩ := hb
          subst b2
          have hi : i < n := hnp _ rfl
          have hc := hh _ h2
          simp only [Holds] at hc
          by_cases hn : (β c0).nil = true
          · rw [if_pos hn] at hc; omega
          · rw [if_neg hn] at hc
            obtain ⟨g1, g2, g3, g4, arr, g5, g6, g7⟩ := hc
            obtain ⟨g8, g9⟩ := g7 i hi
            refine go td h1 _ _ (Rels.raw _) b1 (fun m u hu => ?_) hv'
            simp only [Loc.addr, g1, Nat.zero_add]
            rw [cell_of_row w _ _ arr e _ g5]
            rw [List.getElem?_take] at hu
            split at hu
            · rw [List.getElem?_drop] at hu
              have := g9 (j + m) u hu
              rwa [← Nat.add_assoc] at this
            · cases hu
        · cases h
    · rename_i td sz' n f h1 h2
      cases hb : (Nat.beq ((((f i).drop j).take td.size).map SV.raw).length td.size && Nat.beq sz sz') with
      | false => simp only [hb, cond_false] at h; cases h
      | true =>
        simp only [hb, cond_true] at h
        split at h
        · rename_i v' hv'
          simp only [Option.some.injEq, Prod.mk.injEq] at h
          obtain ⟨rfl, rfl, rfl⟩ := h
          simp only [Bool.and_eq_true, nbeq, decide_eq_true_eq] at hb
          obtain ⟨b1, b2⟩ := hb
          subst b2
          have hi : i < n := hnp _ rfl
          have hc := hh _ h2
          simp only [Holds] at hc
          by_cases hn : (β c0).nil = true
          · rw [if_pos hn] at hc; omega
          · rw [if_neg hn] at hc
            obtain ⟨g1, g2, g3⟩ := hc
            obtain ⟨g8, g9⟩ := g3 i hi
            refine go td h1 _ _ (Rels.raw _) b1 (fun m u hu => ?_) hv'
            rw [List.getElem?_take] at hu
            split at hu
            · rw [List.getElem?_drop] at hu
              have := g9 (j + m) u hu
              rwa [← Nat.add_assoc] at this
            · cases hu
        · cases h
    · cases h
  | raw v => simp [loadX] at h
  | slc c sz lo len => simp [loadX] at h
  | map c => simp [loadX] at h
  | inn c j => simp [loadX] at h
end

end Go.Sx
