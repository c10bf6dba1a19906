/- Symbolic states for walks, part A: what a slot holds, what a piece of memory holds, and how a world fits them.
   Nothing of the program stands here. -/
import Derived.WalkKit
import Derived.WalkLawsBesides
namespace Go.Sx
open Go.RowKit

/-- Where a piece of memory lies: its block, the cell at which it begins, how many elements there is room for, whether it is nothing at all (a nil slice), and at which blocks inner objects lie to which pointers lead. -/
structure Loc where
  blk : Nat
  base : Nat
  cap : Nat
  nil : Bool
  sub : Nat → Nat
  deriving Inhabited

def Loc.addr (l : Loc) (n : Nat) : Addr := ⟨l.blk, l.base + n, none⟩

/-- A cell's value: a plain one, or one that leads to a piece of memory by its number. -/
inductive SV where
  | raw (v : Value)
  | ptr (c i sz j : Nat)
  | slc (c sz lo len : Nat)
  | map (c : Nat)
  | inn (c j : Nat)
  deriving Inhabited

def SV.rel (β : Nat → Loc) : SV → Value → Prop
  | .raw v, x => x = v
  | .ptr c i sz j, x => x = .pointer (some ((β c).addr (i * sz + j)))
  | .slc c sz lo len, x => if (β c).nil = true then x = .slice none 0 0 ∧ lo = 0 ∧ len = 0
      else ∃ a, x = .slice (some a) len ((β c).cap - lo) ∧ lo + len ≤ (β c).cap ∧ (lo < (β c).cap → a = (β c).addr (lo * sz))
  | .map c, x => x = .map (some (β c).blk)
  | .inn c j, x => x = .pointer (some ⟨(β c).sub j, 0, none⟩)

/-- What a piece's place says besides its block: how much room there is, and where inner objects lie. -/
def subs (l : Loc) : Nat → Nat
  | 0 => l.cap
  | j + 1 => l.sub j
theorem subs_of (b : Nat) (s : Nat → Nat) : subs ⟨b, 0, s 0, false, fun j => s (j + 1)⟩ = s := by
  funext j
  cases j <;> rfl

def SV.rawB : SV → Bool
  | .raw _ => true
  | _ => false

/-- The numbers in it are among p. -/
def SV.ok (p : Nat → Bool) : SV → Bool
  | .raw _ => true
  | .ptr c _ _ _ | .slc c _ _ _ | .map c | .inn c _ => p c

def SV.one : SV → Bool
  | .raw v => v.oneCell'
  | _ => true

def Rels (β : Nat → Loc) : List SV → List Value → Prop
  | [], vs => vs = []
  | s :: ss, vs => ∃ v r, vs = v :: r ∧ s.rel β v ∧ Rels β ss r

inductive CV where
  | one (s : SV)
  | agg (cs : List SV)
  deriving Inhabited

def CV.rel (β : Nat → Loc) : CV → Value → Prop
  | .one s, x => s.rel β x
  | .agg cs, x => ∃ arr : Array Value, x = .agg arr ∧ Rels β cs arr.toList

def CV.ok (p : Nat → Bool) : CV → Bool
  | .one s => s.ok p
  | .agg cs => cs.all (SV.ok p)

def CVs (β : Nat → Loc) : List CV → List Value → Prop
  | [], vs => vs = []
  | s :: ss, vs => ∃ v r, vs = v :: r ∧ s.rel β v ∧ CVs β ss r

inductive XV where
  | cv (c : CV)
  | tup (l : List CV)
  deriving Inhabited

def XV.rel (β : Nat → Loc) : XV → Value → Prop
  | .cv c, x => c.rel β x
  | .tup l, x => ∃ arr : Array Value, x = .tuple arr ∧ CVs β l arr.toList

def XV.ok (p : Nat → Bool) : XV → Bool
  | .cv c => c.ok p
  | .tup l => l.all (CV.ok p)

abbrev XV.sv (s : SV) : XV := .cv (.one s)
abbrev XV.val (v : Value) : XV := .cv (.one (.raw v))
abbrev XV.int (k : IntKind) (n : Int) : XV := .cv (.one (.raw (.int k n)))
abbrev XV.bool (b : Bool) : XV := .cv (.one (.raw (.bool b)))

/-- A predicate on what some blocks hold: it looks at no others. -/
structure AbsP where
  Φ : World → Nat → (Nat → Nat) → (Nat → Prop) → Prop
  loc : ∀ {w w' : World} {b : Nat} {s : Nat → Nat} {O O' : Nat → Prop}, (∀ k, O k → w'.heap[k]? = w.heap[k]?) → (∀ k, O' k ↔ O k) → Φ w b s O → Φ w' b s O'
  in_heap : ∀ {w : World} {b : Nat} {s : Nat → Nat} {O : Nat → Prop}, Φ w b s O → ∀ k, O k → k < w.heap.size

inductive Chunk where
  | cells (e : TypeId) (cs : List SV)
  | vec (e sz n : Nat) (f : Nat → List Value)
  | ro (sz n : Nat) (f : Nat → List Value)
  | abs (A : AbsP)

def Holds (β : Nat → Loc) (ow : Nat → Option Nat) (w : World) (c : Nat) : Chunk → Prop
  | .cells e cs => (β c).nil = false ∧ (β c).base = 0 ∧ ow (β c).blk = some c ∧ ∃ arr : Array Value, w.heap[(β c).blk]? = some (.cells arr e (0, 0)) ∧ Rels β cs arr.toList
  | .vec e sz n f => if (β c).nil = true then n = 0 else
      (β c).base = 0 ∧ ow (β c).blk = some c ∧ n ≤ (β c).cap ∧ (β c).cap ≤ maxLen ∧ ∃ arr : Array Value, w.heap[(β c).blk]? = some (.cells arr e (0, 0)) ∧ arr.size = (β c).cap * sz ∧
        ∀ i, i < n → (f i).length = sz ∧ ∀ j v, (f i)[j]? = some v → arr[i * sz + j]? = some v
  | .ro sz n f => if (β c).nil = true then n = 0 else
      ow (β c).blk = none ∧ (β c).blk < w.heap.size ∧ ∀ i, i < n → (f i).length = sz ∧ ∀ j v, (f i)[j]? = some v → w.cell? ((β c).addr (i * sz + j)) = some v
  | .abs A => (β c).nil = false ∧ (β c).base = 0 ∧ A.Φ w (β c).blk (subs (β c)) (fun k => ow k = some c)

def Chunk.ok (p : Nat → Bool) : Chunk → Bool
  | .cells _ cs => cs.all (SV.ok p)
  | _ => true

abbrev Mem := List (Nat × Chunk)
def Mem.get : Mem → Nat → Option Chunk
  | [], _ => none
  | (c, ch) :: r, d => bif Nat.beq c d then some ch else Mem.get r d
def Mem.del : Mem → Nat → Mem
  | [], _ => []
  | (c, ch) :: r, d => bif Nat.beq c d then Mem.del r d else (c, ch) :: Mem.del r d
def Mem.put (m : Mem) (c : Nat) (ch : Chunk) : Mem := (c, ch) :: m.del c

theorem nbeq (a b : Nat) : Nat.beq a b = decide (a = b) := by
  by_cases h : a = b
  · subst h; simp
  · have : Nat.beq a b ≠ true := fun e => h (Nat.eq_of_beq_eq_true e)
    rw [decide_eq_false h]
    cases hb : Nat.beq a b
    · rfl
    · exact absurd hb this

theorem Mem.get_del (m : Mem) (d c : Nat) : (m.del d).get c = if c = d then none else m.get c := by
  induction m with
  | nil => simp [Mem.del, Mem.get]
  | cons x r ih =>
    obtain ⟨k, ch⟩ := x
    simp only [Mem.del, Mem.get, nbeq]
    by_cases h : k = d
    · subst h
      simp only [decide_true, cond_true, ih]
      by_cases h2 : c = k
      · simp [h2]
      · have h3 : ¬ k = c := fun e => h2 e.symm
        simp [h2, h3]
    · simp only [h, decide_false, cond_false, Mem.get, nbeq, ih]
      by_cases h2 : k = c
      · subst h2; simp [h]
      · simp [h2]

theorem Mem.get_put (m : Mem) (d : Nat) (ch : Chunk) (c : Nat) : (m.put d ch).get c = if c = d then some ch else m.get c := by
  simp only [Mem.put, Mem.get, Mem.get_del, nbeq]
  by_cases h : c = d
  · subst h; simp
  · have h3 : ¬ d = c := fun e => h e.symm
    simp [h3, h]

/-! ### the relations hang on the numbers alone that they name -/

section
variable {β β' : Nat → Loc} {p q : Nat → Bool}
theorem SV.rel_congr (h : ∀ c, p c = true → β' c = β c) {s : SV} (hs : s.ok p = true) {v : Value} (hr : s.rel β v) : s.rel β' v := by
  cases s <;> simp only [SV.ok] at hs
  · exact hr
  · simpa [SV.rel, h _ hs] using hr
  · simpa [SV.rel, h _ hs] using hr
  · simpa [SV.rel, h _ hs] using hr
  · simpa [SV.rel, h _ hs] using hr

theorem Rels.congr (h : ∀ c, p c = true → β' c = β c) : ∀ {ss : List SV}, ss.all (SV.ok p) = true → ∀ {vs : List Value}, Rels β ss vs → Rels β' ss vs
  | [], _, _, hr => hr
  | s :: ss, hs, vs, hr => by
    simp only [List.all_cons, Bool.and_eq_true] at hs
    obtain ⟨v, r, rfl, h1, h2⟩ := hr
    exact ⟨v, r, rfl, SV.rel_congr h hs.1 h1, Rels.congr h hs.2 h2⟩

theorem CV.rel_congr (h : ∀ c, p c = true → β' c = β c) {s : CV} (hs : s.ok p = true) {v : Value} (hr : s.rel β v) : s.rel β' v := by
  cases s with
  | one s => exact SV.rel_congr h hs hr
  | agg cs => obtain ⟨arr, rfl, hr⟩ := hr; exact ⟨arr, rfl, Rels.congr h hs hr⟩

theorem CVs.congr (h : ∀ c, p c = true → β' c = β c) : ∀ {ss : List CV}, ss.all (CV.ok p) = true → ∀ {vs : List Value}, CVs β ss vs → CVs β' ss vs
  | [], _, _, hr => hr
  | s :: ss, hs, vs, hr => by
    simp only [List.all_cons, Bool.and_eq_true] at hs
    obtain ⟨v, r, rfl, h1, h2⟩ := hr
    exact ⟨v, r, rfl, CV.rel_congr h hs.1 h1, CVs.congr h hs.2 h2⟩

theorem XV.rel_congr (h : ∀ c, p c = true → β' c = β c) {s : XV} (hs : s.ok p = true) {v : Value} (hr : s.rel β v) : s.rel β' v := by
  cases s with
  | cv c => exact CV.rel_congr h hs hr
  | tup l => obtain ⟨arr, rfl, hr⟩ := hr; exact ⟨arr, rfl, CVs.congr h hs hr⟩

theorem SV.ok_mono (h : ∀ c, p c = true → q c = true) {s : SV} (hs : s.ok p = true) : s.ok q = true := by
  cases s <;> simp only [SV.ok] at hs ⊢ <;> exact h _ hs

theorem SVs.ok_mono (h : ∀ c, p c = true → q c = true) {cs : List SV} (hs : cs.all (SV.ok p) = true) : cs.all (SV.ok q) = true := by
  simp only [List.all_eq_true] at hs ⊢
  exact fun s hs' => SV.ok_mono h (hs s hs')

theorem CV.ok_mono (h : ∀ c, p c = true → q c = true) {s : CV} (hs : s.ok p = true) : s.ok q = true := by
  cases s with
  | one s => exact SV.ok_mono h hs
  | agg cs => exact SVs.ok_mono h hs

theorem XV.ok_mono (h : ∀ c, p c = true → q c = true) {s : XV} (hs : s.ok p = true) : s.ok q = true := by
  cases s with
  | cv s => exact CV.ok_mono h hs
  | tup cs =>
    simp only [XV.ok, List.all_eq_true] at hs ⊢
    exact fun s hs' => CV.ok_mono h (hs s hs')

theorem Chunk.ok_mono (h : ∀ c, p c = true → q c = true) {s : Chunk} (hs : s.ok p = true) : s.ok q = true := by
  cases s with
  | cells e cs => exact SVs.ok_mono h hs
  | _ => rfl
end

/-! ### what an operation does to the world, as far as the rest is concerned -/

/-- Owned blocks lie in the heap. -/
def WF (ow : Nat → Option Nat) (w : World) : Prop := ∀ k, ow k ≠ none → k < w.heap.size

/-- From w to w': what the pieces 'wr' own may have turned, 'd' may be a new piece; all else is as it was. -/
structure Eff (β : Nat → Loc) (ow : Nat → Option Nat) (w : World) (β' : Nat → Loc) (ow' : Nat → Option Nat) (w' : World) (wr : List Nat) (d : Nat) : Prop where
  beta : ∀ c, c ≠ d → β' c = β c
  os : w'.os = w.os
  tape : w'.tape = w.tape
  output : w'.output = w.output
  size : w.heap.size ≤ w'.heap.size
  keep : ∀ k, k < w.heap.size → (∀ c ∈ wr, ow k ≠ some c) → w'.heap[k]? = w.heap[k]? ∧ ow' k = ow k
  mine : ∀ k, (w.heap.size ≤ k ∨ ∃ c ∈ wr, ow k = some c) → ∀ c, ow' k = some c → c ∈ wr ∨ c = d
  wf : WF ow' w'

theorem Eff.refl {β : Nat → Loc} {ow : Nat → Option Nat} {w : World} (h : WF ow w) (d : Nat) : Eff β ow w β ow w [] d :=
  ⟨fun _ _ => rfl, rfl, rfl, rfl, Nat.le_refl _, fun _ _ _ => ⟨rfl, rfl⟩, fun k hk c hc => (by
    rcases hk with hk | ⟨_, h0, _⟩
    · have := h k (by simp [hc]); omega
    · cases h0), h⟩

/-- A piece that is not among those holds what it held. -/
theorem Eff.holds {β β' : Nat → Loc} {ow ow' : Nat → Option Nat} {w w' : World} {wr : List Nat} {d : Nat} (E : Eff β ow w β' ow' w' wr d) (hw : WF ow w) {c : Nat} (hc : c ∉ wr) (hd : c ≠ d) {p : Nat → Bool}
    (hp : ∀ i, p i = true → i ≠ d) {ch : Chunk} (hl : ch.ok p = true) (h : Holds β ow w c ch) : Holds β' ow' w' c ch := by
  have hβ : ∀ i, p i = true → β' i = β i := fun i hi => E.beta i (hp i hi)
  have hb : β' c = β c := E.beta c hd
  have own : ∀ k, ow k = some c → w'.heap[k]? = w.heap[k]? ∧ ow' k = ow k := fun k hk =>
    E.keep k (hw k (by simp [hk])) (fun c0 h0 e => by rw [hk] at e; cases e; exact hc h0)
  cases ch with
  | cells e cs =>
    obtain ⟨h0, h1, h2, arr, h3, h4⟩ := h
    obtain ⟨k1, k2⟩ := own _ h2
    exact ⟨by rw [hb]; exact h0, by rw [hb]; exact h1, by rw [hb, k2]; exact h2, arr, by rw [hb, k1]; exact h3, Rels.congr hβ hl h4⟩
  | vec e sz n f =>
    simp only [Holds] at h ⊢
    rw [hb]
    by_cases hn : (β c).nil = true
    · rw [if_pos hn] at h ⊢; exact h
    · rw [if_neg hn] at h ⊢
      obtain ⟨h1, h2, h3, h4, arr, h5, h6, h7⟩ := h
      obtain ⟨k1, k2⟩ := own _ h2
      exact ⟨h1, by rw [k2]; exact h2, h3, h4, arr, by rw [k1]; exact h5, h6, h7⟩
  | ro sz n f =>
    simp only [Holds] at h ⊢
    rw [hb]
    by_cases hn : (β c).nil = true
    · rw [if_pos hn] at h ⊢; exact h
    · rw [if_neg hn] at h ⊢
      obtain ⟨h1, h2, h3⟩ := h
      obtain ⟨k1, k2⟩ := E.keep _ h2 (fun c0 _ e => by rw [h1] at e; cases e)
      refine ⟨by rw [k2]; exact h1, Nat.lt_of_lt_of_le h2 E.size, fun i hi => ⟨(h3 i hi).1, fun j v hv => ?_⟩⟩
      rw [World.cell?_of_block (w := w) (by exact k1)]
      exact (h3 i hi).2 j v hv
  | abs A =>
    obtain ⟨h0, h1, h2⟩ := h
    refine ⟨by rw [hb]; exact h0, by rw [hb]; exact h1, ?_⟩
    rw [hb]
    refine A.loc (fun k hk => (own k hk).1) (fun k => ⟨fun hk => ?_, fun hk => by rw [(own k hk).2]; exact hk⟩) h2
    by_cases hx : w.heap.size ≤ k ∨ ∃ c ∈ wr, ow k = some c
    · rcases E.mine k hx c hk with h' | h'
      · exact absurd h' hc
      · exact absurd h' hd
    · have hx1 : k < w.heap.size := Nat.lt_of_not_le fun h' => hx (.inl h')
      have hx2 : ∀ c ∈ wr, ow k ≠ some c := fun c0 h0 e => hx (.inr ⟨c0, h0, e⟩)
      rw [← (E.keep k hx1 hx2).2]; exact hk

end Go.Sx
