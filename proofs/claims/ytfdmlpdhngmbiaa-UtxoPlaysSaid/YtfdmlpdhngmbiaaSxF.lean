/- Symbolic states for walks, part F: a table of types, and the operations that are reckoned by themselves. -/
import Derived.Test.YtfdmlpdhngmbiaaSxE
namespace Go.Sx
open Go.RowKit

/-! ### lists of cells -/
section
variable {β : Nat → Loc}
theorem Rels.length : ∀ {ss : List SV} {vs : List Value}, Rels β ss vs → ss.length = vs.length
  | [], _, h => by cases h; rfl
  | s :: ss, vs, h => by obtain ⟨v, r, rfl, _, h2⟩ := h; simp [Rels.length h2]
theorem Rels.append : ∀ {a b : List SV} {x y : List Value}, Rels β a x → Rels β b y → Rels β (a ++ b) (x ++ y)
  | [], b, x, y, h, k => by cases h; exact k
  | s :: ss, b, x, y, h, k => by obtain ⟨v, r, rfl, h1, h2⟩ := h; exact ⟨v, r ++ y, rfl, h1, Rels.append h2 k⟩
theorem Rels.take : ∀ (n : Nat) {ss : List SV} {vs : List Value}, Rels β ss vs → Rels β (ss.take n) (vs.take n)
  | 0, _, _, _ => by simp [Rels]
  | n + 1, [], _, h => by cases h; simp [Rels]
  | n + 1, s :: ss, vs, h => by obtain ⟨v, r, rfl, h1, h2⟩ := h; exact ⟨v, r.take n, rfl, h1, Rels.take n h2⟩
theorem Rels.drop : ∀ (n : Nat) {ss : List SV} {vs : List Value}, Rels β ss vs → Rels β (ss.drop n) (vs.drop n)
  | 0, _, _, h => h
  | n + 1, [], _, h => by cases h; simp [Rels]
  | n + 1, s :: ss, vs, h => by obtain ⟨v, r, rfl, h1, h2⟩ := h; exact Rels.drop n h2
theorem Rels.get : ∀ {ss : List SV} {vs : List Value}, Rels β ss vs → ∀ (j : Nat) (s : SV), ss[j]? = some s → ∃ v, vs[j]? = some v ∧ s.rel β v
  | [], _, _, j, s, hs => by simp at hs
  | s0 :: ss, vs, h, 0, s, hs => by
    obtain ⟨v, r, rfl, h1, _⟩ := h
    simp only [List.getElem?_cons_zero, Option.some.injEq] at hs
    subst hs
    exact ⟨v, rfl, h1⟩
  | s0 :: ss, vs, h, j + 1, s, hs => by
    obtain ⟨v, r, rfl, _, h2⟩ := h
    exact Rels.get h2 j s (by simpa using hs)
theorem Rels.raw : ∀ (l : List Value), Rels β (l.map .raw) l
  | [] => rfl
  | x :: r => ⟨x, r, rfl, rfl, Rels.raw r⟩
theorem Rels.one : ∀ {ss : List SV} {vs : List Value}, Rels β ss vs → ss.all SV.one = true → ∀ v ∈ vs, v.oneCell' = true
  | [], _, h, _, v, hv => by cases h; cases hv
  | s :: ss, vs, h, hs, v, hv => by
    obtain ⟨v0, r, rfl, h1, h2⟩ := h
    simp only [List.all_cons, Bool.and_eq_true] at hs
    rcases List.mem_cons.1 hv with rfl | hv
    · cases s with
      | raw x => cases h1; exact hs.1
      | ptr c i sz j => cases h1; rfl
      | slc c sz lo len =>
        simp only [SV.rel] at h1
        split at h1
        · rw [h1.1]; rfl
        · obtain ⟨a, rfl, _⟩ := h1; rfl
      | map c => cases h1; rfl
      | inn c j => cases h1; rfl
    · exact Rels.one h2 hs.2 v hv
theorem CVs.get : ∀ {ss : List CV} {vs : List Value}, CVs β ss vs → ∀ (j : Nat) (s : CV), ss[j]? = some s → ∃ v, vs[j]? = some v ∧ s.rel β v
  | [], _, _, j, s, hs => by simp at hs
  | s0 :: ss, vs, h, 0, s, hs => by
    obtain ⟨v, r, rfl, h1, _⟩ := h
    simp only [List.getElem?_cons_zero, Option.some.injEq] at hs
    subst hs
    exact ⟨v, rfl, h1⟩
  | s0 :: ss, vs, h, j + 1, s, hs => by
    obtain ⟨v, r, rfl, _, h2⟩ := h
    exact CVs.get h2 j s (by simpa using hs)
end

/-- The cells of a value. -/
def CV.cells : CV → List SV
  | .one s => [s]
  | .agg cs => cs
/-- A value whose only cell is no struct's and no tuple's. -/
def CV.fine : CV → Bool
  | .one s => s.one
  | .agg cs => cs.all SV.one
theorem CV.rel_cells {β : Nat → Loc} {c : CV} {v : Value} (h : c.rel β v) (hf : c.fine = true) : Rels β c.cells v.cells.toList ∧ ∀ u ∈ v.cells.toList, u.oneCell' = true := by
  cases c with
  | one s =>
    have h1 : v.oneCell' = true := Rels.one (ss := [s]) (vs := [v]) ⟨v, [], rfl, h, rfl⟩ (by simpa [CV.fine] using hf) v (by simp)
    have hc : v.cells = #[v] := by cases v <;> first | rfl | simp [Value.oneCell'] at h1
    rw [hc]
    exact ⟨⟨v, [], rfl, h, rfl⟩, by simpa using h1⟩
  | agg cs =>
    obtain ⟨arr, rfl, h⟩ := h
    exact ⟨h, Rels.one h hf⟩

/-! ### types -/
inductive Desc where
  | int (k : IntKind) | bool | str | ptr | slice (e : TypeId) | array (n : Nat) (e : TypeId) | struct (fs : List (TypeId × Nat)) | map (k e : TypeId) | other
structure TyD where
  size : Nat
  bytes : Nat
  agg : Bool
  zero : List Value
  desc : Desc
abbrev TyTab := TypeId → Option TyD

def DescOK : TypeDesc → Desc → Prop
  | .int k, .int k' => k = k'
  | .bool, .bool => True
  | .string, .str => True
  | .pointer _, .ptr => True
  | .slice e, .slice e' => e = e'
  | .array n e, .array n' e' => n = n' ∧ e = e'
  | .struct fs, .struct l => fs.toList.map (fun f => (f.type, f.offset)) = l
  | .map k e, .map k' e' => k = k' ∧ e = e'
  | _, .other => True
  | _, _ => False

def isAggD : TypeDesc → Bool
  | .struct _ | .array _ _ => true
  | _ => false

/-- What the table says of a type is so. -/
structure TyOK (P : Program) (t : TypeId) (d : TyD) : Prop where
  info : ∃ i u, P.info? t = some i ∧ P.underlying t = some u ∧ i.size = d.size ∧ i.bytes = d.bytes ∧ isAggD u = d.agg ∧ DescOK u d.desc ∧ (∃ z, i.zero = some z ∧ z.cells.toList = d.zero) ∧ d.zero.all (fun v => v.oneCell') = true

def TabOK (P : Program) (T : TyTab) : Prop := ∀ t d, T t = some d → TyOK P t d

def tlook : List (Nat × TyD) → TyTab
  | [], _ => none
  | (t, d) :: r, u => bif Nat.beq t u then some d else tlook r u
theorem tlook_ok {P : Program} : ∀ (l : List (Nat × TyD)), (∀ x ∈ l, TyOK P x.1 x.2) → TabOK P (tlook l)
  | [], _, t, d, h => by simp [tlook] at h
  | (t, d) :: r, hl, u, e, h => by
    simp only [tlook, nbeq] at h
    by_cases ht : t = u
    · simp only [ht, decide_true, cond_true, Option.some.injEq] at h
      subst h; subst ht
      exact hl (t, d) (by simp)
    · simp only [ht, decide_false, cond_false] at h
      exact tlook_ok r (fun x hx => hl x (by simp [hx])) u e h

/-! ### laying parts into cells -/
def laid (cs : List SV) (off : Nat) (p : List SV) : List SV := cs.take off ++ (p ++ cs.drop (off + p.length))

theorem foldl_set (v : List Value) : ∀ (j off : Nat) (arr : Array Value), off + j + v.length ≤ arr.size →
    (((v.zipIdx j).foldl (fun (cs : Array Value) (x : Value × Nat) => cs.setIfInBounds (off + x.2) x.1) arr)).toList = arr.toList.take (off + j) ++ (v ++ arr.toList.drop (off + j + v.length)) := by
  induction v with
  | nil => intro j off arr h; simp
  | cons x r ih =>
    intro j off arr h
    simp only [List.length_cons] at h
    rw [List.zipIdx_cons, List.foldl_cons, ih (j + 1) off _ (by simp; omega)]
    simp only [Array.toList_setIfInBounds]
    have hlt : off + j < arr.toList.length := by simp; omega
    have e1 : (arr.toList.set (off + j) x).take (off + (j + 1)) = arr.toList.take (off + j) ++ [x] := by
      rw [show off + (j + 1) = off + j + 1 by omega, List.take_succ_eq_append_getElem (by simpa using hlt), List.take_set_of_le (Nat.le_refl _)]
      simp
    have e2 : (arr.toList.set (off + j) x).drop (off + (j + 1) + r.length) = arr.toList.drop (off + j + (x :: r).length) := by
      rw [List.drop_set_of_lt (by omega)]
      congr 1
      simp only [List.length_cons]; omega
    rw [e1, e2]
    simp

theorem fill_step {β : Nat → Loc} {cs p : List SV} {arr : Array Value} {v : Value} {off : Nat} (h : Rels β cs arr.toList) (hp : Rels β p v.cells.toList) (hfit : off + p.length ≤ cs.length) :
    Rels β (laid cs off p) (v.cells.zipIdx.foldl (fun (cs : Array Value) (x : Value × Nat) => cs.setIfInBounds (off + x.2) x.1) arr).toList := by
  have hl := h.length
  have hpl := hp.length
  have e := foldl_set v.cells.toList 0 off arr (by simp only [Nat.add_zero]; simp only [Array.length_toList] at hl hpl ⊢; omega)
  have e2 : v.cells.zipIdx.foldl (fun (cs : Array Value) (x : Value × Nat) => cs.setIfInBounds (off + x.2) x.1) arr = (v.cells.toList.zipIdx 0).foldl (fun (cs : Array Value) (x : Value × Nat) => cs.setIfInBounds (off + x.2) x.1) arr := by
    rw [← Array.foldl_toList, Array.toList_zipIdx]
  rw [e2, e]
  simp only [Nat.add_zero, laid]
  have : (v.cells.toList).length = p.length := hpl.symm
  rw [this]
  exact (h.take off).append (hp.append (h.drop _))

/-- Struct or array parts, each at its place. -/
def fillX (T : TyTab) (place : Nat → Option (Nat × Nat)) (ev : Operand → Option XV) : List (Nat × Operand) → List SV → Option (List SV)
  | [], cs => some cs
  | (i, x) :: r, cs =>
    match place i, ev x with
    | some (off, size), some (.cv c) => bif (Nat.beq c.cells.length size && Nat.ble (off + c.cells.length) cs.length) && c.fine then fillX T place ev r (laid cs off c.cells) else none
    | _, _ => none

theorem laid_length {cs : List SV} {off : Nat} {p : List SV} (h : off + p.length ≤ cs.length) : (laid cs off p).length = cs.length := by
  simp only [laid, List.length_append, List.length_take, List.length_drop]; omega
theorem laid_one {cs : List SV} {off : Nat} {p : List SV} (h : cs.all SV.one = true) (hp : p.all SV.one = true) : (laid cs off p).all SV.one = true := by
  simp only [laid, List.all_append, Bool.and_eq_true, List.all_eq_true] at *
  exact ⟨fun x hx => h x (List.mem_of_mem_take hx), hp, fun x hx => h x (List.mem_of_mem_drop hx)⟩

theorem fillX_sound {T : TyTab} {β : Nat → Loc} {place : Nat → Option (Nat × Nat)} {ev : Operand → Option XV} {ρ : Operand → Value} : ∀ (parts : List (Nat × Operand)) (cs out : List SV) (arr : Array Value),
    (∀ x ∈ parts, ∀ X, ev x.2 = some X → X.rel β (ρ x.2)) → fillX T place ev parts cs = some out → Rels β cs arr.toList → cs.all SV.one = true → ∃ arr', Instr.fill place arr (parts.map fun x => (x.1, ρ x.2)) = some arr' ∧ Rels β out arr'.toList ∧ out.all SV.one = true
  | [], cs, out, arr, _, h, hr, ho => by
    simp only [fillX, Option.some.injEq] at h
    subst h
    exact ⟨arr, rfl, hr, ho⟩
  | (i, x) :: r, cs, out, arr, hev, h, hr, ho => by
    simp only [fillX] at h
    split at h
    · rename_i off size c h1 h2
      cases hb : ((Nat.beq c.cells.length size && Nat.ble (off + c.cells.length) cs.length) && c.fine) with
      | false => simp [hb] at h
      | true =>
        simp only [hb, cond_true] at h
        simp only [nbeq, Bool.and_eq_true, decide_eq_true_eq, Nat.ble_eq] at hb
        obtain ⟨⟨b1, b2⟩, b3⟩ := hb
        have hx : c.rel β (ρ x) := hev (i, x) (by simp) _ h2
        obtain ⟨hc, h1c⟩ := CV.rel_cells hx b3
        have hlc := hc.length
        have hlr := hr.length
        simp only [Array.length_toList] at hlc hlr
        have hone : c.cells.all SV.one = true := by cases c <;> simpa [CV.cells, CV.fine] using b3
        obtain ⟨arr', e1, e2, e3⟩ := fillX_sound r _ out _ (fun y hy => hev y (by simp [hy])) h (fill_step hr hc b2) (laid_one ho hone)
        refine ⟨arr', ?_, e2, e3⟩
        simp only [List.map_cons, Instr.fill, h1]
        rw [if_neg (by simp; omega)]
        exact e1
    · cases h

end Go.Sx
