/- Parts SxA SxB SxC SxD. -/
import Derived.WalkKit
import Derived.WalkLawsBesides
import Derived.Orders
set_option linter.unusedSimpArgs false
set_option linter.unusedVariables false
namespace Go.Sx
open Go.RowKit
structure Loc where
  blk : Nat
  base : Nat
  cap : Nat
  nil : Bool
  sub : Nat → Nat
  deriving Inhabited
def Loc.addr (l : Loc) (n : Nat) : Addr := ⟨l.blk, l.base + n, none⟩
inductive SV where
  | raw (v : Value)
  | ptr (c i sz j : Nat)
  | slc (c sz lo len : Nat)
  | map (c : Nat)
  | inn (c j : Nat)
  | sla (c off sz len cap : Nat)
  | ins (c m j len : Nat)
  | fn (f : FuncId) (caps : List Nat)
  deriving Inhabited
def Loc.inner (l : Loc) (m j : Nat) : Loc := ⟨l.sub j, 0, l.sub (j + m), Nat.beq (l.sub (j + 2 * m)) 1, fun i => l.sub (j + (3 + i) * m)⟩
def SV.rel (β : Nat → Loc) : SV → Value → Prop
  | .raw v, x => x = v
  | .ptr c i sz j, x => x = .pointer (some ((β c).addr (i * sz + j)))
  | .slc c sz lo len, x => if (β c).nil = true then x = .slice none 0 0 ∧ lo = 0 ∧ len = 0
      else ∃ a, x = .slice (some a) len ((β c).cap - lo) ∧ lo + len ≤ (β c).cap ∧ (lo < (β c).cap → a = (β c).addr (lo * sz))
  | .map c, x => x = .map (some (β c).blk)
  | .inn c j, x => x = .pointer (some ⟨(β c).sub j, 0, none⟩)
  | .sla c off _ len cap, x => ∃ a, x = .slice (some a) len cap ∧ len ≤ cap ∧ (0 < cap → a = (β c).addr off)
  | .ins c m j len, x => if ((β c).inner m j).nil = true then x = .slice none 0 0 ∧ len = 0
      else ∃ a, x = .slice (some a) len ((β c).inner m j).cap ∧ len ≤ ((β c).inner m j).cap ∧ (0 < ((β c).inner m j).cap → a = ((β c).inner m j).addr 0)
  | .fn f caps, x => x = .func (.func f) #[] (caps.map fun c => .pointer (some ((β c).addr 0))).toArray
def subs (l : Loc) : Nat → Nat
  | 0 => l.cap
  | j + 1 => l.sub j
def SV.rawB : SV → Bool
  | .raw _ => true
  | _ => false
def SV.ok (p : Nat → Bool) : SV → Bool
  | .raw _ => true
  | .ptr c _ _ _ | .slc c _ _ _ | .map c | .inn c _ | .sla c _ _ _ _ | .ins c _ _ _ => p c
  | .fn _ caps => caps.all p
def SV.one : SV → Bool
  | .raw v => v.oneCell'
  | _ => true
def Rels (β : Nat → Loc) : List SV → List Value → Prop
  | [], vs => vs = []
  | s :: ss, vs => ∃ v r, vs = v :: r ∧ s.rel β v ∧ Rels β ss r
inductive CV where
  | one (s : SV)
  | agg (cs : List SV)
  deriving Inhabited
def CV.rel (β : Nat → Loc) : CV → Value → Prop
  | .one s, x => s.rel β x
  | .agg cs, x => ∃ arr : Array Value, x = .agg arr ∧ Rels β cs arr.toList
def CV.ok (p : Nat → Bool) : CV → Bool
  | .one s => s.ok p
  | .agg cs => cs.all (SV.ok p)
def CVs (β : Nat → Loc) : List CV → List Value → Prop
  | [], vs => vs = []
  | s :: ss, vs => ∃ v r, vs = v :: r ∧ s.rel β v ∧ CVs β ss r
inductive XV where
  | cv (c : CV)
  | tup (l : List CV)
  deriving Inhabited
def XV.rel (β : Nat → Loc) : XV → Value → Prop
  | .cv c, x => c.rel β x
  | .tup l, x => ∃ arr : Array Value, x = .tuple arr ∧ CVs β l arr.toList
def XV.ok (p : Nat → Bool) : XV → Bool
  | .cv c => c.ok p
  | .tup l => l.all (CV.ok p)
abbrev XV.sv (s : SV) : XV := .cv (.one s)
abbrev XV.val (v : Value) : XV := .cv (.one (.raw v))
abbrev XV.int (k : IntKind) (n : Int) : XV := .cv (.one (.raw (.int k n)))
abbrev XV.bool (b : Bool) : XV := .cv (.one (.raw (.bool b)))
structure AbsP where
  Φ : World → Nat → (Nat → Nat) → (Nat → Prop) → Prop
  loc : ∀ {w w' : World} {b : Nat} {s : Nat → Nat} {O O' : Nat → Prop}, (∀ k, O k → w'.heap[k]? = w.heap[k]?) → (∀ k, O' k ↔ O k) → Φ w b s O → Φ w' b s O'
  in_heap : ∀ {w : World} {b : Nat} {s : Nat → Nat} {O : Nat → Prop}, Φ w b s O → ∀ k, O k → k < w.heap.size
structure ExtP where
  Ψ : World → Loc → (Nat → Prop) → Prop
  loc : ∀ {w w' : World} {L : Loc} {O : Nat → Prop}, (∀ k, O k → w'.heap[k]? = w.heap[k]?) → Ψ w L O → Ψ w' L O
inductive Chunk where
  | cells (e : TypeId) (cs : List SV)
  | vec (e sz n : Nat) (f : Nat → List Value)
  | ro (sz n : Nat) (f : Nat → List Value)
  | abs (A : AbsP)
  | ext (A : ExtP)
def Holds (β : Nat → Loc) (ow : Nat → Option Nat) (w : World) (c : Nat) : Chunk → Prop
  | .cells e cs => (β c).nil = false ∧ (β c).base = 0 ∧ ow (β c).blk = some c ∧ ∃ arr : Array Value, w.heap[(β c).blk]? = some (.cells arr e (0, 0)) ∧ Rels β cs arr.toList
  | .vec e sz n f => if (β c).nil = true then n = 0 else
      (β c).base = 0 ∧ ow (β c).blk = some c ∧ n ≤ (β c).cap ∧ (β c).cap ≤ maxLen ∧ ∃ arr : Array Value, w.heap[(β c).blk]? = some (.cells arr e (0, 0)) ∧ arr.size = (β c).cap * sz ∧
        ∀ i, i < n → (f i).length = sz ∧ ∀ j v, (f i)[j]? = some v → arr[i * sz + j]? = some v
  | .ro sz n f => if (β c).nil = true then n = 0 else
      ow (β c).blk = none ∧ (β c).blk < w.heap.size ∧ ∀ i, i < n → (f i).length = sz ∧ ∀ j v, (f i)[j]? = some v → w.cell? ((β c).addr (i * sz + j)) = some v
  | .abs A => (β c).nil = false ∧ (β c).base = 0 ∧ A.Φ w (β c).blk (subs (β c)) (fun k => ow k = some c)
  | .ext A => ∃ O : Nat → Prop, (∀ k, O k → ow k = none ∧ k < w.heap.size) ∧ A.Ψ w (β c) O
def Chunk.ok (p : Nat → Bool) : Chunk → Bool
  | .cells _ cs => cs.all (SV.ok p)
  | _ => true
abbrev Mem := List (Nat × Chunk)
def Mem.get : Mem → Nat → Option Chunk
  | [], _ => none
  | (c, ch) :: r, d => bif Nat.beq c d then some ch else Mem.get r d
def Mem.del : Mem → Nat → Mem
  | [], _ => []
  | (c, ch) :: r, d => bif Nat.beq c d then Mem.del r d else (c, ch) :: Mem.del r d
def Mem.put (m : Mem) (c : Nat) (ch : Chunk) : Mem := (c, ch) :: m.del c
theorem nbeq (a b : Nat) : Nat.beq a b = decide (a = b) := by
  by_cases h : a = b
  · subst h; simp
  · have : Nat.beq a b ≠ true := fun e => h (Nat.eq_of_beq_eq_true e)
    rw [decide_eq_false h]
    cases hb : Nat.beq a b
    · rfl
    · exact absurd hb this
theorem Mem.get_del (m : Mem) (d c : Nat) : (m.del d).get c = if c = d then none else m.get c := by
  induction m with
  | nil => simp [Mem.del, Mem.get]
  | cons x r ih =>
    obtain ⟨k, ch⟩ := x
    simp only [Mem.del, Mem.get, nbeq]
    by_cases h : k = d
    · subst h
      simp only [decide_true, cond_true, ih]
      by_cases h2 : c = k
      · simp [h2]
      · have h3 : ¬ k = c := fun e => h2 e.symm
        simp [h2, h3]
    · simp only [h, decide_false, cond_false, Mem.get, nbeq, ih]
      by_cases h2 : k = c
      · subst h2; simp [h]
      · simp [h2]
section
variable {β β' : Nat → Loc} {p q : Nat → Bool}
theorem SV.rel_congr (h : ∀ c, p c = true → β' c = β c) {s : SV} (hs : s.ok p = true) {v : Value} (hr : s.rel β v) : s.rel β' v := by
  cases s with
  | raw x => exact hr
  | fn f caps =>
    simp only [SV.ok, List.all_eq_true] at hs
    simp only [SV.rel] at hr ⊢
    rw [hr]
    congr 2
    exact List.map_congr_left fun c hc => by rw [h c (hs c hc)]
  | _ => simp only [SV.ok] at hs; simpa [SV.rel, h _ hs] using hr
theorem Rels.congr (h : ∀ c, p c = true → β' c = β c) : ∀ {ss : List SV}, ss.all (SV.ok p) = true → ∀ {vs : List Value}, Rels β ss vs → Rels β' ss vs
  | [], _, _, hr => hr
  | s :: ss, hs, vs, hr => by
    simp only [List.all_cons, Bool.and_eq_true] at hs
    obtain ⟨v, r, rfl, h1, h2⟩ := hr
    exact ⟨v, r, rfl, SV.rel_congr h hs.1 h1, Rels.congr h hs.2 h2⟩
theorem CV.rel_congr (h : ∀ c, p c = true → β' c = β c) {s : CV} (hs : s.ok p = true) {v : Value} (hr : s.rel β v) : s.rel β' v := by
  cases s with
  | one s => exact SV.rel_congr h hs hr
  | agg cs => obtain ⟨arr, rfl, hr⟩ := hr; exact ⟨arr, rfl, Rels.congr h hs hr⟩
theorem CVs.congr (h : ∀ c, p c = true → β' c = β c) : ∀ {ss : List CV}, ss.all (CV.ok p) = true → ∀ {vs : List Value}, CVs β ss vs → CVs β' ss vs
  | [], _, _, hr => hr
  | s :: ss, hs, vs, hr => by
    simp only [List.all_cons, Bool.and_eq_true] at hs
    obtain ⟨v, r, rfl, h1, h2⟩ := hr
    exact ⟨v, r, rfl, CV.rel_congr h hs.1 h1, CVs.congr h hs.2 h2⟩
theorem XV.rel_congr (h : ∀ c, p c = true → β' c = β c) {s : XV} (hs : s.ok p = true) {v : Value} (hr : s.rel β v) : s.rel β' v := by
  cases s with
  | cv c => exact CV.rel_congr h hs hr
  | tup l => obtain ⟨arr, rfl, hr⟩ := hr; exact ⟨arr, rfl, CVs.congr h hs hr⟩
theorem SV.ok_mono (h : ∀ c, p c = true → q c = true) {s : SV} (hs : s.ok p = true) : s.ok q = true := by
  cases s with
  | raw x => rfl
  | fn f caps => simp only [SV.ok, List.all_eq_true] at hs ⊢; exact fun c hc => h c (hs c hc)
  | _ => simp only [SV.ok] at hs ⊢; exact h _ hs
theorem SVs.ok_mono (h : ∀ c, p c = true → q c = true) {cs : List SV} (hs : cs.all (SV.ok p) = true) : cs.all (SV.ok q) = true := by
  simp only [List.all_eq_true] at hs ⊢
  exact fun s hs' => SV.ok_mono h (hs s hs')
theorem CV.ok_mono (h : ∀ c, p c = true → q c = true) {s : CV} (hs : s.ok p = true) : s.ok q = true := by
  cases s with
  | one s => exact SV.ok_mono h hs
  | agg cs => exact SVs.ok_mono h hs
theorem XV.ok_mono (h : ∀ c, p c = true → q c = true) {s : XV} (hs : s.ok p = true) : s.ok q = true := by
  cases s with
  | cv s => exact CV.ok_mono h hs
  | tup cs =>
    simp only [XV.ok, List.all_eq_true] at hs ⊢
    exact fun s hs' => CV.ok_mono h (hs s hs')
theorem Chunk.ok_mono (h : ∀ c, p c = true → q c = true) {s : Chunk} (hs : s.ok p = true) : s.ok q = true := by
  cases s with
  | cells e cs => exact SVs.ok_mono h hs
  | _ => rfl
end
def WF (ow : Nat → Option Nat) (w : World) : Prop := ∀ k, ow k ≠ none → k < w.heap.size
structure Eff (β : Nat → Loc) (ow : Nat → Option Nat) (w : World) (β' : Nat → Loc) (ow' : Nat → Option Nat) (w' : World) (wr : List Nat) (d : Nat) : Prop where
  beta : ∀ c, c ≠ d → β' c = β c
  os : w'.os = w.os
  tape : w'.tape = w.tape
  output : w'.output = w.output
  size : w.heap.size ≤ w'.heap.size
  keep : ∀ k, k < w.heap.size → (∀ c ∈ wr, ow k ≠ some c) → w'.heap[k]? = w.heap[k]? ∧ ow' k = ow k
  mine : ∀ k, (w.heap.size ≤ k ∨ ∃ c ∈ wr, ow k = some c) → ∀ c, ow' k = some c → c ∈ wr ∨ c = d
  wf : WF ow' w'
theorem Eff.refl {β : Nat → Loc} {ow : Nat → Option Nat} {w : World} (h : WF ow w) (d : Nat) : Eff β ow w β ow w [] d :=
  ⟨fun _ _ => rfl, rfl, rfl, rfl, Nat.le_refl _, fun _ _ _ => ⟨rfl, rfl⟩, fun k hk c hc => (by
    rcases hk with hk | ⟨_, h0, _⟩
    · have := h k (by simp [hc]); omega
    · cases h0), h⟩
theorem Eff.holds {β β' : Nat → Loc} {ow ow' : Nat → Option Nat} {w w' : World} {wr : List Nat} {d : Nat} (E : Eff β ow w β' ow' w' wr d) (hw : WF ow w) {c : Nat} (hc : c ∉ wr) (hd : c ≠ d) {p : Nat → Bool}
    (hp : ∀ i, p i = true → i ≠ d) {ch : Chunk} (hl : ch.ok p = true) (h : Holds β ow w c ch) : Holds β' ow' w' c ch := by
  have hβ : ∀ i, p i = true → β' i = β i := fun i hi => E.beta i (hp i hi)
  have hb : β' c = β c := E.beta c hd
  have own : ∀ k, ow k = some c → w'.heap[k]? = w.heap[k]? ∧ ow' k = ow k := fun k hk =>
    E.keep k (hw k (by simp [hk])) (fun c0 h0 e => by rw [hk] at e; cases e; exact hc h0)
  cases ch with
  | cells e cs =>
    obtain ⟨h0, h1, h2, arr, h3, h4⟩ := h
    obtain ⟨k1, k2⟩ := own _ h2
    exact ⟨by rw [hb]; exact h0, by rw [hb]; exact h1, by rw [hb, k2]; exact h2, arr, by rw [hb, k1]; exact h3, Rels.congr hβ hl h4⟩
  | vec e sz n f =>
    simp only [Holds] at h ⊢
    rw [hb]
    by_cases hn : (β c).nil = true
    · rw [if_pos hn] at h ⊢; exact h
    · rw [if_neg hn] at h ⊢
      obtain ⟨h1, h2, h3, h4, arr, h5, h6, h7⟩ := h
      obtain ⟨k1, k2⟩ := own _ h2
      exact ⟨h1, by rw [k2]; exact h2, h3, h4, arr, by rw [k1]; exact h5, h6, h7⟩
  | ro sz n f =>
    simp only [Holds] at h ⊢
    rw [hb]
    by_cases hn : (β c).nil = true
    · rw [if_pos hn] at h ⊢; exact h
    · rw [if_neg hn] at h ⊢
      obtain ⟨h1, h2, h3⟩ := h
      obtain ⟨k1, k2⟩ := E.keep _ h2 (fun c0 _ e => by rw [h1] at e; cases e)
      refine ⟨by rw [k2]; exact h1, Nat.lt_of_lt_of_le h2 E.size, fun i hi => ⟨(h3 i hi).1, fun j v hv => ?_⟩⟩
      rw [World.cell?_of_block (w := w) (by exact k1)]
      exact (h3 i hi).2 j v hv
  | abs A =>
    obtain ⟨h0, h1, h2⟩ := h
    refine ⟨by rw [hb]; exact h0, by rw [hb]; exact h1, ?_⟩
    rw [hb]
    refine A.loc (fun k hk => (own k hk).1) (fun k => ⟨fun hk => ?_, fun hk => by rw [(own k hk).2]; exact hk⟩) h2
    by_cases hx : w.heap.size ≤ k ∨ ∃ c ∈ wr, ow k = some c
    · rcases E.mine k hx c hk with h' | h'
      · exact absurd h' hc
      · exact absurd h' hd
    · have hx1 : k < w.heap.size := Nat.lt_of_not_le fun h' => hx (.inl h')
      have hx2 : ∀ c ∈ wr, ow k ≠ some c := fun c0 h0 e => hx (.inr ⟨c0, h0, e⟩)
      rw [← (E.keep k hx1 hx2).2]; exact hk
  | ext A =>
    obtain ⟨O, h1, h2⟩ := h
    have kp : ∀ k, O k → w'.heap[k]? = w.heap[k]? ∧ ow' k = ow k := fun k hk => E.keep k (h1 k hk).2 (fun c0 _ e => by rw [(h1 k hk).1] at e; cases e)
    refine ⟨O, fun k hk => ⟨by rw [(kp k hk).2]; exact (h1 k hk).1, Nat.lt_of_lt_of_le (h1 k hk).2 E.size⟩, ?_⟩
    rw [hb]
    exact A.loc (fun k hk => (kp k hk).1) h2
open Go.RowKit
structure St where
  slots : List (Option XV)
  mem : Mem
  nx : Nat
def lget : List (Option XV) → Nat → Option XV
  | [], _ => none
  | x :: _, 0 => x
  | _ :: r, n + 1 => lget r n
def lset : List (Option XV) → Nat → Option XV → List (Option XV)
  | [], _, _ => []
  | _ :: r, 0, y => y :: r
  | x :: r, n + 1, y => x :: lset r n y
theorem lget_lset (y : Option XV) : ∀ (l : List (Option XV)) (d t : Nat), lget (lset l d y) t = if t = d then (if d < l.length then y else none) else lget l t
  | [], d, t => by simp [lset, lget]
  | x :: r, 0, 0 => by simp [lset, lget]
  | x :: r, 0, t + 1 => by simp [lset, lget]
  | x :: r, d + 1, 0 => by simp [lset, lget]
  | x :: r, d + 1, t + 1 => by simp [lset, lget, lget_lset y r d t]
theorem lset_length (y : Option XV) : ∀ (l : List (Option XV)) (d : Nat), (lset l d y).length = l.length
  | [], d => rfl
  | x :: r, 0 => rfl
  | x :: r, d + 1 => by simp [lset, lset_length y r d]
theorem lget_some_lt : ∀ {l : List (Option XV)} {t : Nat} {X : XV}, lget l t = some X → t < l.length
  | [], t, X, h => by simp [lget] at h
  | x :: r, 0, X, h => by simp
  | x :: r, t + 1, X, h => by simp only [lget] at h; have := lget_some_lt h; simp; omega
def constX : Value → XV
  | .agg cs => .cv (.agg (cs.toList.map .raw))
  | v => .cv (.one (.raw v))
def St.ev (S : St) : Operand → Option XV
  | .tmp t => lget S.slots t
  | .const v => some (constX v)
  | .global g => some (XV.val (.pointer (some ⟨g, 0, none⟩)))
  | .func f => some (XV.val (.func (.func f) #[] #[]))
structure Res where
  v : XV
  upd : Mem := []
  wr : List Nat := []
def Mem.dels (m : Mem) : List Nat → Mem
  | [] => m
  | c :: r => Mem.dels (m.del c) r
theorem Mem.get_dels (c : Nat) : ∀ (l : List Nat) (m : Mem), (m.dels l).get c = if c ∈ l then none else m.get c
  | [], m => by simp [Mem.dels]
  | d :: r, m => by
    simp only [Mem.dels, Mem.get_dels c r, Mem.get_del, List.mem_cons]
    by_cases h1 : c = d <;> by_cases h2 : c ∈ r <;> simp [h1, h2]
theorem Mem.get_append (c : Nat) : ∀ (l m : Mem), Mem.get (l ++ m) c = (Mem.get l c).or (m.get c)
  | [], m => by simp [Mem.get]
  | (k, ch) :: r, m => by
    simp only [List.cons_append, Mem.get, nbeq]
    by_cases h : k = c
    · simp [h]
    · simp [h, Mem.get_append c r m]
def St.app (S : St) (dst : Option Tmp) (r : Res) : St :=
  { slots := match dst with | some t => lset S.slots t (some r.v) | none => S.slots, mem := r.upd ++ S.mem.dels r.wr, nx := S.nx }
def OpSound (P : Program) (S : St) (d : Nat) (o : Oper) (r : Res) (rd : List Nat) : Prop :=
  ∀ (β : Nat → Loc) (ow : Nat → Option Nat) (w : World) (a : Act) (K : Act → World → Prop) (Q : Exit → Act → World → Prop), WF ow w → (∀ k, ow k ≠ some d) →
    (∀ x ∈ o.op.operands, ∀ X, S.ev x = some X → X.rel β (a.eval x)) → (∀ c ∈ rd, ∀ ch, S.mem.get c = some ch → Holds β ow w c ch) →
    (∀ β' ow' w' x, Eff β ow w β' ow' w' r.wr d → r.v.rel β' x → (∀ c ch, Mem.get r.upd c = some ch → Holds β' ow' w' c ch) → K (a.put o.dst x) w') → o.wp P a w K Q
structure Rec where
  skip : Bool
  r : Res
  rd : List Nat
def skipRes : Res := { v := XV.val undef }
def skipRec : Rec := ⟨true, skipRes, []⟩
def nmem (c : Nat) : List Nat → Bool
  | [] => false
  | d :: r => bif Nat.beq d c then true else nmem c r
theorem nmem_iff (c : Nat) : ∀ l, nmem c l = true ↔ c ∈ l
  | [] => by simp [nmem]
  | d :: r => by
    simp only [nmem, nbeq, List.mem_cons]
    by_cases h : d = c
    · simp [h]
    · have h' : ¬ c = d := fun e => h e.symm
      simp [h, h', nmem_iff c r]
def Rec.ok (p : Nat → Bool) (d : Nat) (x : Rec) : Bool :=
  x.r.v.ok p && x.r.upd.all (fun y => (Nat.beq y.1 d || nmem y.1 x.r.wr) && y.2.ok p) && x.r.wr.all (fun c => nmem c x.rd && !Nat.beq c d && p c) && p d
structure Sat (β : Nat → Loc) (ow : Nat → Option Nat) (w : World) (S : St) (a : Act) : Prop where
  defers : a.defers = []
  size : a.tmps.size = S.slots.length
  slots : ∀ t X, lget S.slots t = some X → X.rel β (a.tmps.getD t undef)
  mem : ∀ c ch, S.mem.get c = some ch → Holds β ow w c ch
  wf : WF ow w
structure SOK (p : Nat → Bool) (S : St) : Prop where
  slots : ∀ t X, lget S.slots t = some X → X.ok p = true
  mem : ∀ c ch, S.mem.get c = some ch → p c = true ∧ ch.ok p = true
theorem SOK.mono {p q : Nat → Bool} {S : St} (h : ∀ c, p c = true → q c = true) (H : SOK p S) : SOK q S :=
  ⟨fun t X hX => XV.ok_mono h (H.slots t X hX), fun c ch hc => ⟨h c (H.mem c ch hc).1, Chunk.ok_mono h (H.mem c ch hc).2⟩⟩
def OWN (p : Nat → Bool) (ow : Nat → Option Nat) : Prop := ∀ k c, ow k = some c → p c = true
theorem OWN.mono {p q : Nat → Bool} {ow : Nat → Option Nat} (h : ∀ c, p c = true → q c = true) (H : OWN p ow) : OWN q ow := fun k c hc => h c (H k c hc)
theorem OWN.eff {p q : Nat → Bool} {β β' : Nat → Loc} {ow ow' : Nat → Option Nat} {w w' : World} {wr : List Nat} {d : Nat} (H : OWN p ow) (E : Eff β ow w β' ow' w' wr d) (h : ∀ c, p c = true → q c = true) (hwr : ∀ c ∈ wr, q c = true) (hd : q d = true) : OWN q ow' := by
  intro k c hc
  by_cases hx : w.heap.size ≤ k ∨ ∃ c ∈ wr, ow k = some c
  · rcases E.mine k hx c hc with h1 | h1
    · exact hwr c h1
    · rw [h1]; exact hd
  · have hx1 : k < w.heap.size := Nat.lt_of_not_le fun h' => hx (.inl h')
    have hx2 : ∀ c ∈ wr, ow k ≠ some c := fun c0 h0 e => hx (.inr ⟨c0, h0, e⟩)
    exact h c (H k c (by rw [← (E.keep k hx1 hx2).2]; exact hc))
theorem Rec.wr_ok {p : Nat → Bool} {d : Nat} {x : Rec} (hx : x.ok p d = true) : (∀ c ∈ x.r.wr, p c = true) ∧ p d = true := by
  simp only [Rec.ok, Bool.and_eq_true, List.all_eq_true] at hx
  exact ⟨fun c hc => (hx.1.2 c hc).2, hx.2⟩
theorem rel_const (β : Nat → Loc) (v : Value) : (constX v).rel β v := by
  cases v <;> simp only [constX, XV.rel, CV.rel, SV.rel]
  rename_i cs
  refine ⟨cs, rfl, ?_⟩
  have : ∀ l : List Value, Rels β (l.map .raw) l := by
    intro l
    induction l with
    | nil => rfl
    | cons x r ih => exact ⟨x, r, rfl, rfl, ih⟩
  exact this _
theorem Sat.ev {β : Nat → Loc} {ow : Nat → Option Nat} {w : World} {S : St} {a : Act} (H : Sat β ow w S a) {x : Operand} {X : XV} (h : S.ev x = some X) : X.rel β (a.eval x) := by
  cases x with
  | tmp t => exact H.slots t X h
  | const v => simp only [St.ev, Option.some.injEq] at h; subst h; exact rel_const β v
  | global g => simp only [St.ev, Option.some.injEq] at h; subst h; rfl
  | func f => simp only [St.ev, Option.some.injEq] at h; subst h; rfl
theorem put_getD (a : Act) (d t : Nat) (v : Value) : (a.put (some d) v).tmps.getD t undef = if t = d ∧ d < a.tmps.size then v else a.tmps.getD t undef := by
  simp only [Act.put, Array.getD_eq_getD_getElem?, Array.getElem?_setIfInBounds]
  by_cases h : d = t
  · subst h
    by_cases h2 : d < a.tmps.size <;> simp [h2]
  · have : ¬ t = d := fun e => h e.symm
    simp [h, this]
theorem Sat.app {β β' : Nat → Loc} {ow ow' : Nat → Option Nat} {w w' : World} {S : St} {a : Act} (H : Sat β ow w S a) {p : Nat → Bool} {d : Nat} (hS : SOK p S) (hp : ∀ c, p c = true → c ≠ d)
    {dst : Option Tmp} {r : Res} (E : Eff β ow w β' ow' w' r.wr d) {x : Value} (hx : r.v.rel β' x) (hu : ∀ c ch, Mem.get r.upd c = some ch → Holds β' ow' w' c ch) : Sat β' ow' w' (S.app dst r) (a.put dst x) := by
  have hβ : ∀ c, p c = true → β' c = β c := fun c hc => E.beta c (hp c hc)
  refine ⟨?_, ?_, ?_, ?_, E.wf⟩
  · cases dst <;> exact H.defers
  · cases dst with
    | none => exact H.size
    | some t => simpa [Act.put, St.app, lset_length] using H.size
  · intro t X hX
    cases dst with
    | none => exact XV.rel_congr hβ (hS.slots t X hX) (H.slots t X hX)
    | some t0 =>
      simp only [St.app, lget_lset] at hX
      rw [put_getD]
      by_cases h : t = t0
      · simp only [h, if_true] at hX ⊢
        split at hX
        · rename_i hl
          cases hX
          rw [if_pos ⟨trivial, by rw [H.size]; exact hl⟩]
          exact hx
        · cases hX
      · simp only [h, if_false, false_and] at hX ⊢
        exact XV.rel_congr hβ (hS.slots t X hX) (H.slots t X hX)
  · intro c ch hc
    simp only [St.app, Mem.get_append] at hc
    cases hg : Mem.get r.upd c with
    | some y => simp only [hg, Option.some_or, Option.some.injEq] at hc; subst hc; exact hu c y hg
    | none =>
      simp only [hg, Option.none_or, Mem.get_dels] at hc
      split at hc
      · cases hc
      · rename_i hn
        exact E.holds H.wf hn (hp c (hS.mem c ch hc).1) hp (hS.mem c ch hc).2 (H.mem c ch hc)
theorem SOK.app {p q : Nat → Bool} {S : St} (hS : SOK p S) (hpq : ∀ c, p c = true → q c = true) {d : Nat} {x : Rec} (hx : x.ok q d = true) (dst : Option Tmp) : SOK q (S.app dst x.r) := by
  simp only [Rec.ok, Bool.and_eq_true, List.all_eq_true, Bool.or_eq_true, nbeq, decide_eq_true_eq, nmem_iff] at hx
  obtain ⟨⟨⟨h1, h2⟩, h3⟩, h4⟩ := hx
  constructor
  · intro t X hX
    cases dst with
    | none => exact XV.ok_mono hpq (hS.slots t X hX)
    | some t0 =>
      simp only [St.app, lget_lset] at hX
      split at hX
      · split at hX
        · cases hX; exact h1
        · cases hX
      · exact XV.ok_mono hpq (hS.slots t X hX)
  · intro c ch hc
    simp only [St.app, Mem.get_append] at hc
    cases hg : Mem.get x.r.upd c with
    | some y =>
      simp only [hg, Option.some_or, Option.some.injEq] at hc
      subst hc
      have hm : (c, y) ∈ x.r.upd := by
        have : ∀ l : Mem, Mem.get l c = some y → (c, y) ∈ l := by
          intro l
          induction l with
          | nil => intro h; simp [Mem.get] at h
          | cons z r ih =>
            obtain ⟨k, ck⟩ := z
            intro h
            simp only [Mem.get, nbeq] at h
            by_cases hk : k = c
            · simp only [hk, decide_true, cond_true, Option.some.injEq] at h; subst hk; subst h; simp
            · simp only [hk, decide_false, cond_false] at h; exact List.mem_cons_of_mem _ (ih h)
        exact this _ hg
      obtain ⟨h5, h6⟩ := h2 _ hm
      refine ⟨?_, h6⟩
      rcases h5 with h5 | h5
      · simp only at h5; rw [h5]; exact h4
      · exact (h3 _ h5).2
    | none =>
      simp only [hg, Option.none_or, Mem.get_dels] at hc
      split at hc
      · cases hc
      · exact ⟨hpq _ (hS.mem c ch hc).1, Chunk.ok_mono hpq (hS.mem c ch hc).2⟩
open Go.RowKit
inductive Tree where
  | done (e : Exit) (S : St)
  | cond (b : Bool) (t e : Tree)
  | need (p : Prop) (t : Tree)
  | prim (o : Oper) (S : St) (d : Nat) (k : Res → List Nat → Tree)
  | loop (body : Code) (S : St) (k : Exit → St → Tree)
  | fail
structure Ctx where
  w0 : World
  own0 : Nat → Prop
  β0 : Nat → Loc
  n0 : Nat
structure Grow (C : Ctx) (β : Nat → Loc) (ow : Nat → Option Nat) (w : World) : Prop where
  os : w.os = C.w0.os
  tape : w.tape = C.w0.tape
  output : w.output = C.w0.output
  size : C.w0.heap.size ≤ w.heap.size
  keep : ∀ k, k < C.w0.heap.size → ¬ C.own0 k → w.heap[k]? = C.w0.heap[k]? ∧ ow k = none
  beta : ∀ c, c < C.n0 → β c = C.β0 c
theorem Grow.eff {C : Ctx} {β β' : Nat → Loc} {ow ow' : Nat → Option Nat} {w w' : World} {wr : List Nat} {d : Nat} (G : Grow C β ow w) (E : Eff β ow w β' ow' w' wr d) (hd : C.n0 ≤ d) : Grow C β' ow' w' :=
  ⟨E.os.trans G.os, E.tape.trans G.tape, E.output.trans G.output, Nat.le_trans G.size E.size, fun k hk hn => by
    obtain ⟨h1, h2⟩ := G.keep k hk hn
    obtain ⟨h3, h4⟩ := E.keep k (Nat.lt_of_lt_of_le hk G.size) (fun c _ e => by rw [h2] at e; cases e)
    exact ⟨h3.trans h1, h4.trans h2⟩, fun c hc => (E.beta c (by omega)).trans (G.beta c hc)⟩
def SatC (C : Ctx) (S : St) (a : Act) (w : World) : Prop :=
  ∃ β ow, Sat β ow w S a ∧ SOK (fun c => Nat.blt c S.nx) S ∧ Grow C β ow w ∧ C.n0 ≤ S.nx ∧ OWN (fun c => Nat.blt c S.nx) ow
def wpT (P : Program) (C : Ctx) (Q : Exit → St → Prop) : Tree → Prop
  | .done e S => Q e S
  | .cond b t e => (b = true → wpT P C Q t) ∧ (b = false → wpT P C Q e)
  | .need p t => p ∧ (p → wpT P C Q t)
  | .prim o S d k => ∃ r rd, OpSound P S d o r rd ∧ wpT P C Q (k r rd)
  | .loop body S k => ∀ a w, SatC C S a w → (Code.loop body).wp P (fun e a' w' => ∃ S', SatC C S' a' w' ∧ wpT P C Q (k e S')) a w
  | .fail => False
def chk (b : Bool) (t : Tree) : Tree := bif b then t else .fail
def needs (p : Option Prop) (t : Tree) : Tree := match p with | none => t | some p => .need p t
def St.set1 (S : St) (t : Nat) (X : XV) : St := { S with slots := lset S.slots t (some X) }
def isBoolV : Value → Bool
  | .bool _ => true
  | _ => false
def guarded (ops : Array Oper) (S : St) (o : Oper) (k : St → Bool → Tree) : Tree :=
  match o.guard with
  | none => k S false
  | some (g, want) =>
    match (ops[g]?).bind (·.dst) with
    | none => .fail
    | some dg =>
      match lget S.slots dg with
      | some (.cv (.one (.raw (.bool b)))) => .cond b (k (S.set1 dg (XV.bool true)) (!want)) (k (S.set1 dg (XV.bool false)) want)
      | some (.cv (.one (.raw v))) => bif isBoolV v then .fail else k S true
      | _ => .fail
def spineK {α β : Type} : List α → (List α → β) → β
  | [], k => k []
  | x :: r, k => spineK r fun r' => k (x :: r')
theorem spineK_eq {α β : Type} : ∀ (l : List α) (k : List α → β), spineK l k = k l
  | [], k => rfl
  | x :: r, k => by rw [spineK, spineK_eq]
def svK {β : Type} (s : SV) (k : SV → β) : β :=
  match s with
  | .raw v => k (.raw v)
  | .ptr c i sz j => k (.ptr c i sz j)
  | .slc c sz lo len => k (.slc c sz lo len)
  | .map c => k (.map c)
  | .inn c j => k (.inn c j)
  | .sla c off sz len cap => k (.sla c off sz len cap)
  | .ins c m j len => k (.ins c m j len)
  | .fn f caps => k (.fn f caps)
theorem svK_eq {β : Type} (s : SV) (k : SV → β) : svK s k = k s := by cases s <;> rfl
def cvK {β : Type} (c : CV) (k : CV → β) : β :=
  match c with
  | .one s => svK s fun s => k (.one s)
  | .agg cs => spineK cs fun cs => k (.agg cs)
theorem cvK_eq {β : Type} (c : CV) (k : CV → β) : cvK c k = k c := by cases c <;> simp [cvK, svK_eq, spineK_eq]
def cvsK {β : Type} : List CV → (List CV → β) → β
  | [], k => k []
  | x :: r, k => cvK x fun x' => cvsK r fun r' => k (x' :: r')
theorem cvsK_eq {β : Type} : ∀ (l : List CV) (k : List CV → β), cvsK l k = k l
  | [], k => rfl
  | x :: r, k => by rw [cvsK, cvK_eq, cvsK_eq]
def xvK {β : Type} (x : XV) (k : XV → β) : β :=
  match x with
  | .cv c => cvK c fun c => k (.cv c)
  | .tup l => cvsK l fun l => k (.tup l)
theorem xvK_eq {β : Type} (x : XV) (k : XV → β) : xvK x k = k x := by cases x <;> simp [xvK, cvK_eq, cvsK_eq]
def chK {β : Type} (x : Chunk) (k : Chunk → β) : β :=
  match x with
  | .cells e cs => spineK cs fun cs => k (.cells e cs)
  | .vec e sz n f => k (.vec e sz n f)
  | .ro sz n f => k (.ro sz n f)
  | .abs A => k (.abs A)
  | .ext A => k (.ext A)
theorem chK_eq {β : Type} (x : Chunk) (k : Chunk → β) : chK x k = k x := by cases x <;> simp [chK, spineK_eq]
def memK {β : Type} : Mem → (Mem → β) → β
  | [], k => k []
  | (c, ch) :: r, k => chK ch fun ch' => memK r fun r' => k ((c, ch') :: r')
theorem memK_eq {β : Type} : ∀ (l : Mem) (k : Mem → β), memK l k = k l
  | [], k => rfl
  | (c, ch) :: r, k => by rw [memK, chK_eq, memK_eq]
def natK {β : Type} (n : Nat) (k : Nat → β) : β :=
  match n with
  | 0 => k 0
  | m + 1 => k (m + 1)
theorem natK_eq {β : Type} (n : Nat) (k : Nat → β) : natK n k = k n := by cases n <;> rfl
def resK {β : Type} (r : Res) (k : Res → β) : β :=
  match r with
  | ⟨v, upd, wr⟩ => xvK v fun v => memK upd fun upd => spineK wr fun wr => k ⟨v, upd, wr⟩
theorem resK_eq {β : Type} (r : Res) (k : Res → β) : resK r k = k r := by cases r; simp [resK, xvK_eq, memK_eq, spineK_eq]
def stK {β : Type} (S : St) (k : St → β) : β :=
  match S with
  | ⟨sl, m, nx⟩ => spineK sl fun sl => spineK m fun m => natK nx fun nx => k ⟨sl, m, nx⟩
theorem stK_eq {β : Type} (S : St) (k : St → β) : stK S k = k S := by cases S; simp [stK, spineK_eq, natK_eq]
abbrev Step := St → Nat → Oper → Option (Option Prop × Res × List Nat)
def evalOps (step : Step) (ops : Array Oper) (b : Nat) : List Oper → Nat → St → List Rec → (List Rec → St → Tree) → Tree
  | [], _, S, recs, k => k recs.reverse S
  | o :: l, i, S, recs, k => guarded ops S o fun S skip => natK (b + i) fun d =>
    match skip with
    | true => stK (S.app o.dst skipRes) fun S' => evalOps step ops b l (i + 1) S' (skipRec :: recs) k
    | false =>
      match step S d o with
      | some (np, r, rd) => resK r fun r => needs np (chk (Rec.ok (fun c => Nat.blt c (d + 1)) d ⟨false, r, rd⟩) (stK (S.app o.dst r) fun S' => evalOps step ops b l (i + 1) S' (⟨false, r, rd⟩ :: recs) k))
      | none => .prim o S d fun r rd => resK r fun r => chk (Rec.ok (fun c => Nat.blt c (d + 1)) d ⟨false, r, rd⟩) (stK (S.app o.dst r) fun S' => evalOps step ops b l (i + 1) S' (⟨false, r, rd⟩ :: recs) k)
def StepSound (P : Program) (step : Step) : Prop := ∀ S d o np r rd, step S d o = some (np, r, rd) → (∀ p, np = some p → p) → OpSound P S d o r rd
def GuardFact (ops : Array Oper) (S : St) (o : Oper) (skip : Bool) : Prop :=
  match o.guard with
  | none => skip = false
  | some (g, want) => ∃ dg, (ops[g]?).bind (·.dst) = some dg ∧ ((∃ t : Bool, lget S.slots dg = some (XV.bool t) ∧ skip = (t != want)) ∨ ∃ v : Value, lget S.slots dg = some (XV.val v) ∧ isBoolV v = false ∧ skip = true)
structure StepOK (P : Program) (ops : Array Oper) (b i : Nat) (S : St) (o : Oper) (x : Rec) : Prop where
  ok : x.ok (fun c => Nat.blt c (b + i + 1)) (b + i) = true
  guard : GuardFact ops S o x.skip
  run : x.skip = false → OpSound P S (b + i) o x.r x.rd
  pass : x.skip = true → x.r = skipRes
def Tr (P : Program) (ops : Array Oper) (b : Nat) : List Oper → Nat → St → List Rec → St → Prop
  | [], _, S, recs, S' => recs = [] ∧ S' = S
  | o :: l, i, S, recs, S' => ∃ x rest, recs = x :: rest ∧ StepOK P ops b i S o x ∧ Tr P ops b l (i + 1) (S.app o.dst x.r) rest S'
theorem lset_self : ∀ {l : List (Option XV)} {t : Nat} {X : XV}, lget l t = some X → lset l t (some X) = l
  | [], t, X, h => rfl
  | x :: r, 0, X, h => by simp only [lget] at h; subst h; rfl
  | x :: r, t + 1, X, h => by simp only [lget] at h; simp [lset, lset_self h]
theorem skipRec_ok (b i : Nat) : skipRec.ok (fun c => Nat.blt c (b + i + 1)) (b + i) = true := by
  simp [Rec.ok, skipRec, skipRes, XV.ok, CV.ok, SV.ok]
section
variable {P : Program} {C : Ctx} {Q : Exit → St → Prop} {step : Step} {ops : Array Oper} {b : Nat}
theorem evalOps_tr (hstep : StepSound P step) : ∀ (l : List Oper) (i : Nat) (S : St) (recs : List Rec) (k : List Rec → St → Tree), wpT P C Q (evalOps step ops b l i S recs k) →
    ∃ rs S', Tr P ops b l i S rs S' ∧ wpT P C Q (k (recs.reverse ++ rs) S')
  | [], i, S, recs, k, h => ⟨[], S, ⟨rfl, rfl⟩, by simpa [evalOps] using h⟩
  | o :: l, i, S, recs, k, h => by
    have main : ∀ skip, GuardFact ops S o skip → wpT P C Q (match skip with
        | true => evalOps step ops b l (i + 1) (S.app o.dst skipRes) (skipRec :: recs) k
        | false =>
          match step S (b + i) o with
          | some (np, r, rd) => needs np (chk (Rec.ok (fun c => Nat.blt c (b + i + 1)) (b + i) ⟨false, r, rd⟩) (evalOps step ops b l (i + 1) (S.app o.dst r) (⟨false, r, rd⟩ :: recs) k))
          | none => .prim o S (b + i) fun r rd => chk (Rec.ok (fun c => Nat.blt c (b + i + 1)) (b + i) ⟨false, r, rd⟩) (evalOps step ops b l (i + 1) (S.app o.dst r) (⟨false, r, rd⟩ :: recs) k)) →
        ∃ rs S', Tr P ops b (o :: l) i S rs S' ∧ wpT P C Q (k (recs.reverse ++ rs) S') := by
      intro skip hg hh
      have fin : ∀ (x : Rec), StepOK P ops b i S o x → wpT P C Q (evalOps step ops b l (i + 1) (S.app o.dst x.r) (x :: recs) k) → ∃ rs S', Tr P ops b (o :: l) i S rs S' ∧ wpT P C Q (k (recs.reverse ++ rs) S') := by
        intro x hx hw
        obtain ⟨rs, S', h1, h2⟩ := evalOps_tr hstep l (i + 1) _ _ k hw
        exact ⟨x :: rs, S', ⟨x, rs, rfl, hx, h1⟩, by simpa using h2⟩
      have ck : ∀ r rd, wpT P C Q (chk (Rec.ok (fun c => Nat.blt c (b + i + 1)) (b + i) ⟨false, r, rd⟩) (evalOps step ops b l (i + 1) (S.app o.dst r) (⟨false, r, rd⟩ :: recs) k)) → OpSound P S (b + i) o r rd →
          skip = false → ∃ rs S', Tr P ops b (o :: l) i S rs S' ∧ wpT P C Q (k (recs.reverse ++ rs) S') := by
        intro r rd hw hs he
        subst he
        unfold chk at hw
        cases hk : Rec.ok (fun c => Nat.blt c (b + i + 1)) (b + i) ⟨false, r, rd⟩ with
        | false => simp only [hk, cond_false, wpT] at hw
        | true =>
          simp only [hk, cond_true] at hw
          exact fin ⟨false, r, rd⟩ ⟨hk, hg, fun _ => hs, fun h => by cases h⟩ hw
      cases skip with
      | true => exact fin skipRec ⟨skipRec_ok b i, hg, fun h => by simp [skipRec] at h, fun _ => rfl⟩ hh
      | false =>
        simp only at hh
        split at hh
        · rename_i np r rd hst
          cases np with
          | none => exact ck r rd hh (hstep S (b + i) o none r rd hst (fun _ h => by cases h)) rfl
          | some p =>
            simp only [needs, wpT] at hh
            exact ck r rd (hh.2 hh.1) (hstep S (b + i) o (some p) r rd hst (fun q hq => by cases hq; exact hh.1)) rfl
        · simp only [wpT] at hh
          obtain ⟨r, rd, h1, h2⟩ := hh
          exact ck r rd h2 h1 rfl
    simp only [evalOps, guarded, natK_eq, stK_eq, resK_eq] at h
    cases hgd : o.guard with
    | none =>
      simp only [hgd] at h
      exact main false (by simp [GuardFact, hgd]) h
    | some gw =>
      obtain ⟨g, want⟩ := gw
      simp only [hgd] at h
      split at h
      · simp only [wpT] at h
      · rename_i dg hdg
        split at h
        · rename_i t ht
          simp only [wpT] at h
          have same : S.set1 dg (XV.bool t) = S := by simp only [St.set1, lset_self ht]
          cases t with
          | true =>
            have h' := h.1 rfl
            rw [same] at h'
            refine main (!want) ?_ h'
            simp only [GuardFact, hgd]
            exact ⟨dg, hdg, .inl ⟨true, ht, by cases want <;> rfl⟩⟩
          | false =>
            have h' := h.2 rfl
            rw [same] at h'
            refine main want ?_ h'
            simp only [GuardFact, hgd]
            exact ⟨dg, hdg, .inl ⟨false, ht, by cases want <;> rfl⟩⟩
        · rename_i v _ hv
          cases hb : isBoolV v with
          | true => simp only [hb, cond_true, wpT] at h
          | false =>
            simp only [hb, cond_false] at h
            refine main true ?_ h
            simp only [GuardFact, hgd]
            exact ⟨dg, hdg, .inr ⟨v, hv, by simpa using hb, by simp⟩⟩
        · simp only [wpT] at h
theorem wanted_of {β : Nat → Loc} {ow : Nat → Option Nat} {w : World} {S S1 : St} {a : Act} {o : Oper} {skip : Bool} (H : Sat β ow w S a) (hv : ∀ t ∈ o.looksAt ops, lget S.slots t = lget S1.slots t) (hg : GuardFact ops S1 o skip) :
    Region.wanted o (yielded ops a.tmps) = !skip := by
  unfold GuardFact at hg
  unfold Region.wanted
  cases hgd : o.guard with
  | none => simp only [hgd] at hg; simp [hg]
  | some gw =>
    obtain ⟨g, want⟩ := gw
    simp only [hgd] at hg
    obtain ⟨dg, h1, hor⟩ := hg
    have hin : dg ∈ o.looksAt ops := by simp [Oper.looksAt, hgd, h1]
    rcases hor with ⟨t, h2, h3⟩ | ⟨v, h2, h4, h3⟩
    · have h2' := h2
      rw [← hv dg hin] at h2'
      have hr : a.tmps.getD dg undef = .bool t := by
        have := H.slots dg _ h2'
        simpa [XV.bool, XV.rel, CV.rel, SV.rel] using this
      have hlt : dg < a.tmps.size := by rw [H.size]; exact lget_some_lt h2'
      have hget : a.tmps[dg]? = some (.bool t) := by
        rw [Array.getElem?_eq_getElem hlt]
        simp only [Array.getD, hlt, dite_true] at hr
        simpa using hr
      have hy : yielded ops a.tmps g = some t := by simp [yielded, h1, hget]
      simp only [hy, h3]
      cases t <;> cases want <;> rfl
    · have h2' := h2
      rw [← hv dg hin] at h2'
      have hr : a.tmps.getD dg undef = v := by
        have := H.slots dg _ h2'
        simpa [XV.rel, CV.rel, SV.rel] using this
      have hlt : dg < a.tmps.size := by rw [H.size]; exact lget_some_lt h2'
      have hget : a.tmps[dg]? = some v := by
        rw [Array.getElem?_eq_getElem hlt]
        simp only [Array.getD, hlt, dite_true] at hr
        simpa using hr
      have hy : yielded ops a.tmps g = none := by
        cases v <;> first | (simp [isBoolV] at h4; done) | simp [yielded, h1, hget]
      simp [hy, h3]
theorem seq_sound {Q' : Exit → Act → World → Prop} {n : Nat} (hn : C.n0 ≤ b) (hend : b + ops.size ≤ n) : ∀ (l : List Oper) (i : Nat) (S S' : St) (recs : List Rec), Tr P ops b l i S recs S' → (∀ j, l[j]? = ops[i + j]?) → i + l.length = ops.size →
    (∀ a w, SatC C { S' with nx := n } a w → Q' .normal a w) → ∀ β ow a w, Sat β ow w S a → SOK (fun c => Nat.blt c (b + i)) S → Grow C β ow w → OWN (fun c => Nat.blt c (b + i)) ow → wpOps P ops Q' (List.range' i l.length) a w
  | [], i, S, S', recs, h, _, hlen, hQ, β, ow, a, w, h1, h2, h3, h4 => by
    obtain ⟨_, rfl⟩ := h
    simp only [List.length_nil, List.range'_zero, wpOps]
    have hlt : ∀ c, Nat.blt c (b + i) = true → Nat.blt c n = true := fun c hc => by simp only [Nat.blt_eq] at hc ⊢; simp only [List.length_nil] at hlen; omega
    refine hQ a w ⟨β, ow, ⟨h1.defers, h1.size, h1.slots, h1.mem, h1.wf⟩, ?_, h3, Nat.le_trans hn (by simp only; omega), h4.mono hlt⟩
    have hm := h2.mono (q := fun c => Nat.blt c n) hlt
    exact ⟨hm.slots, hm.mem⟩
  | o :: l, i, S, S', recs, h, hl, hlen, hQ, β, ow, a, w, h1, h2, h3, h4 => by
    obtain ⟨x, rest, rfl, hx, htr⟩ := h
    have ho : ops[i]? = some o := by have := hl 0; simpa using this.symm
    have hlen' : i + 1 + l.length = ops.size := by simp only [List.length_cons] at hlen; omega
    have hne : ∀ c, Nat.blt c (b + i) = true → c ≠ b + i := fun c hc => by simp only [Nat.blt_eq] at hc; omega
    have ih := fun β ow a w => seq_sound hn hend l (i + 1) _ S' rest htr (fun j => by have := hl (j + 1); simpa [Nat.add_assoc, Nat.add_comm 1] using this) hlen' hQ β ow a w
    have hw := wanted_of (ops := ops) h1 (fun _ _ => rfl) hx.guard
    simp only [List.length_cons, List.range'_succ, wpOps, ho]
    have hmono : ∀ c, Nat.blt c (b + i) = true → Nat.blt c (b + i + 1) = true := fun c hc => by simp only [Nat.blt_eq] at hc ⊢; omega
    have hsok : SOK (fun c => Nat.blt c (b + (i + 1))) (S.app o.dst x.r) := SOK.app h2 hmono hx.ok o.dst
    by_cases hs : x.skip = true
    · rw [hs] at hw
      simp only [hw, Bool.not_true, Bool.false_eq_true, if_false]
      have hr := hx.pass hs
      refine ih β ow _ w ?_ (by rw [hr] at hsok ⊢; exact hsok) h3 (h4.mono hmono)
      rw [hr]
      exact h1.app h2 hne (r := skipRes) (Eff.refl h1.wf (b + i)) rfl (fun c ch h => by simp [skipRes, Mem.get] at h)
    · have hs' : x.skip = false := by simpa using hs
      rw [hs'] at hw
      simp only [hw, Bool.not_false, if_true]
      refine .inl (hx.run hs' β ow w a _ _ h1.wf (fun k e => hne _ (h4 k _ e) rfl) (fun y _ X hX => h1.ev hX) (fun c _ ch hc => h1.mem c ch hc) ?_)
      intro β' ow' w' v E hv hu
      exact ih β' ow' _ w' (h1.app h2 hne E hv hu) hsok (h3.eff E (by omega)) (h4.eff E hmono (Rec.wr_ok hx.ok).1 (Rec.wr_ok hx.ok).2)
end
open Go.RowKit
def edgesOf (o : Oper) : List Nat := (o.after.toList.filter fun e => Region.binds .any e).map (·.on)
def maskOf (acc : List Nat) : List Nat → Nat
  | [] => 0
  | k :: r => (2 ^ k ||| acc.getD k 0) ||| maskOf acc r
def masks : List Oper → List Nat → List Nat
  | [], acc => acc
  | o :: l, acc => masks l (acc ++ [maskOf acc (edgesOf o)])
def Rec.tch (x : Rec) : List Nat := x.r.wr ++ x.r.upd.map Prod.fst
def apartB (l r : List Nat) : Bool := l.all fun c => !nmem c r
def dstApart (d : Option Tmp) (l : List Nat) : Bool := match d with | none => true | some t => !nmem t l
def indepB (ops : Array Oper) (oi : Oper) (xi : Rec) (oj : Oper) (xj : Rec) : Bool :=
  dstApart oi.dst (oj.looksAt ops) && dstApart oj.dst (oi.looksAt ops) && (match oi.dst, oj.dst with | some a, some b => !Nat.beq a b | _, _ => true) &&
  apartB xi.tch xj.rd && apartB xj.tch xi.rd && apartB xi.tch xj.tch
def lnth {α : Type} : List α → Nat → Option α
  | [], _ => none
  | x :: _, 0 => some x
  | _ :: r, n + 1 => lnth r n
theorem lnth_eq {α : Type} : ∀ (l : List α) (n : Nat), lnth l n = l[n]?
  | [], n => by simp [lnth]
  | x :: r, 0 => by simp [lnth]
  | x :: r, n + 1 => by simp [lnth, lnth_eq r n]
def rowB (ops : Array Oper) (oj : Oper) (xj : Rec) (m : Nat) : List Oper → List Rec → Nat → Bool
  | o :: l, x :: r, i => (Nat.testBit m i || indepB ops o x oj xj) && rowB ops oj xj m l r (i + 1)
  | _, _, _ => true
def orderB (ops : Array Oper) (recs : List Rec) (b : Nat) : Bool :=
  let l := ops.toList
  let ms := masks l []
  (List.range ops.size).all fun j =>
    match lnth l j, lnth recs j, lnth ms j with
    | some o, some x, some m => (edgesOf o).all (fun k => Nat.blt k j) && rowB ops o x m (l.take j) recs 0 && x.ok (fun c => Nat.blt c b || (Nat.ble b c && (Nat.beq (c - b) j || Nat.testBit m (c - b)))) (b + j)
    | _, _, _ => false
theorem maskOf_bit (acc : List Nat) (i : Nat) : ∀ l : List Nat, Nat.testBit (maskOf acc l) i = true → ∃ k ∈ l, i = k ∨ Nat.testBit (acc.getD k 0) i = true
  | [], h => by simp [maskOf] at h
  | k :: r, h => by
    simp only [maskOf, Nat.testBit_or, Bool.or_eq_true, Nat.testBit_two_pow, decide_eq_true_eq] at h
    rcases h with (h | h) | h
    · exact ⟨k, by simp, .inl h.symm⟩
    · exact ⟨k, by simp, .inr h⟩
    · obtain ⟨k', h1, h2⟩ := maskOf_bit acc i r h
      exact ⟨k', by simp [h1], h2⟩
theorem masks_pre : ∀ (l : List Oper) (acc : List Nat) (k : Nat), k < acc.length → (masks l acc)[k]? = acc[k]?
  | [], acc, k, h => rfl
  | o :: l, acc, k, h => by
    rw [masks, masks_pre l _ k (by simp; omega), List.getElem?_append_left h]
theorem masks_bit : ∀ (l : List Oper) (acc : List Nat) (j : Nat) (o : Oper), acc.length ≤ j → l[j - acc.length]? = some o → ∃ m, (masks l acc)[j]? = some m ∧
    ∀ i, Nat.testBit m i = true → ∃ k ∈ edgesOf o, i = k ∨ (k < j ∧ ∃ mk, (masks l acc)[k]? = some mk ∧ Nat.testBit mk i = true)
  | [], acc, j, o, h, hl => by simp at hl
  | x :: l, acc, j, o, h, hl => by
    by_cases hj : j = acc.length
    · subst hj
      simp only [Nat.sub_self, List.getElem?_cons_zero, Option.some.injEq] at hl
      subst hl
      refine ⟨maskOf acc (edgesOf x), ?_, ?_⟩
      · rw [masks, masks_pre l _ _ (by simp)]; simp
      · intro i hi
        obtain ⟨k, h1, h2⟩ := maskOf_bit acc i _ hi
        refine ⟨k, h1, h2.imp id fun h3 => ?_⟩
        have hk : k < acc.length := by
          rcases Nat.lt_or_ge k acc.length with h' | h'
          · exact h'
          · simp [List.getD_eq_getElem?_getD, List.getElem?_eq_none h'] at h3
        refine ⟨hk, acc[k], ?_, ?_⟩
        · rw [masks, masks_pre l _ _ (by simp; omega), List.getElem?_append_left hk, List.getElem?_eq_getElem hk]
        · simpa [List.getD_eq_getElem?_getD, hk] using h3
    · have hl' : l[j - (acc ++ [maskOf acc (edgesOf x)]).length]? = some o := by
        have : j - acc.length = (j - (acc.length + 1)) + 1 := by omega
        rw [this] at hl
        simpa using hl
      exact masks_bit l _ j o (by simp; omega) hl'
def runD (ops : Array Oper) (recs : List Rec) (S0 : St) (D : Nat → Bool) : Nat → St
  | 0 => S0
  | n + 1 => if D n = true then (match ops[n]?, recs[n]? with | some o, some x => (runD ops recs S0 D n).app o.dst x.r | _, _ => runD ops recs S0 D n) else runD ops recs S0 D n
structure Same (S S' : St) : Prop where
  len : S.slots.length = S'.slots.length
  slots : ∀ t, lget S.slots t = lget S'.slots t
  mem : ∀ c, S.mem.get c = S'.mem.get c
theorem Same.refl (S : St) : Same S S := ⟨rfl, fun _ => rfl, fun _ => rfl⟩
theorem Same.trans {A B D : St} (h : Same A B) (k : Same B D) : Same A D := ⟨h.len.trans k.len, fun t => (h.slots t).trans (k.slots t), fun c => (h.mem c).trans (k.mem c)⟩
theorem Same.symm {A B : St} (h : Same A B) : Same B A := ⟨h.len.symm, fun t => (h.slots t).symm, fun c => (h.mem c).symm⟩
theorem Same.sat {β : Nat → Loc} {ow : Nat → Option Nat} {w : World} {S S' : St} {a : Act} (h : Same S S') (H : Sat β ow w S a) : Sat β ow w S' a :=
  ⟨H.defers, H.size.trans h.len, fun t X hX => H.slots t X (by rw [h.slots t]; exact hX), fun c ch hc => H.mem c ch (by rw [h.mem c]; exact hc), H.wf⟩
theorem app_len (S : St) (dst : Option Tmp) (r : Res) : (S.app dst r).slots.length = S.slots.length := by
  cases dst <;> simp [St.app, lset_length]
theorem app_slot (S : St) (dst : Option Tmp) (r : Res) (t : Nat) : lget (S.app dst r).slots t = if dst = some t then (if t < S.slots.length then some r.v else none) else lget S.slots t := by
  cases dst with
  | none => simp [St.app]
  | some d =>
    simp only [St.app, lget_lset, Option.some.injEq]
    by_cases h : t = d
    · subst h; simp
    · have : ¬ d = t := fun e => h e.symm
      simp [h, this]
theorem app_mem (S : St) (dst : Option Tmp) (r : Res) (c : Nat) : (S.app dst r).mem.get c = (Mem.get r.upd c).or (if c ∈ r.wr then none else S.mem.get c) := by
  simp only [St.app, Mem.get_append, Mem.get_dels]
theorem Same.app {S S' : St} (h : Same S S') (dst : Option Tmp) (r : Res) : Same (S.app dst r) (S'.app dst r) :=
  ⟨by rw [app_len, app_len, h.len], fun t => by rw [app_slot, app_slot, h.len, h.slots t], fun c => by rw [app_mem, app_mem, h.mem c]⟩
theorem get_none_of {c : Nat} : ∀ {l : Mem}, c ∉ l.map Prod.fst → Mem.get l c = none
  | [], _ => rfl
  | (k, ch) :: r, h => by
    simp only [List.map_cons, List.mem_cons, not_or] at h
    have : ¬ k = c := fun e => h.1 e.symm
    simp only [Mem.get, nbeq, this, decide_false, cond_false]
    exact get_none_of h.2
theorem app_mem_other (S : St) (dst : Option Tmp) (x : Rec) {c : Nat} (h : c ∉ x.tch) : (S.app dst x.r).mem.get c = S.mem.get c := by
  simp only [Rec.tch, List.mem_append, not_or] at h
  rw [app_mem, get_none_of h.2]
  simp [h.1]
theorem apartB_spec {l r : List Nat} (h : apartB l r = true) : ∀ c ∈ l, c ∉ r := by
  simp only [apartB, List.all_eq_true, Bool.not_eq_true'] at h
  intro c hc hr
  have := h c hc
  rw [(nmem_iff c r).2 hr] at this
  cases this
theorem dstApart_spec {d : Option Tmp} {l : List Nat} (h : dstApart d l = true) : ∀ t, d = some t → t ∉ l := by
  intro t ht hr
  subst ht
  simp only [dstApart, Bool.not_eq_true'] at h
  rw [(nmem_iff t l).2 hr] at h
  cases h
structure Indep (ops : Array Oper) (oi : Oper) (xi : Rec) (oj : Oper) (xj : Rec) : Prop where
  d1 : ∀ t, oi.dst = some t → t ∉ oj.looksAt ops
  d2 : ∀ t, oj.dst = some t → t ∉ oi.looksAt ops
  d3 : ∀ t, oi.dst = some t → oj.dst ≠ some t
  r1 : ∀ c ∈ xi.tch, c ∉ xj.rd
  r2 : ∀ c ∈ xj.tch, c ∉ xi.rd
  t1 : ∀ c ∈ xi.tch, c ∉ xj.tch
theorem indepB_spec {ops : Array Oper} {oi oj : Oper} {xi xj : Rec} (h : indepB ops oi xi oj xj = true) : Indep ops oi xi oj xj := by
  simp only [indepB, Bool.and_eq_true] at h
  obtain ⟨⟨⟨⟨⟨h1, h2⟩, h3⟩, h4⟩, h5⟩, h6⟩ := h
  refine ⟨dstApart_spec h1, dstApart_spec h2, ?_, apartB_spec h4, apartB_spec h5, apartB_spec h6⟩
  intro t ht hj
  simp [ht, hj] at h3
theorem Indep.symm {ops : Array Oper} {oi oj : Oper} {xi xj : Rec} (h : Indep ops oi xi oj xj) : Indep ops oj xj oi xi :=
  ⟨h.d2, h.d1, fun t ht hi => h.d3 t hi ht, h.r2, h.r1, fun c hc hx => h.t1 c hx hc⟩
theorem app_comm {ops : Array Oper} {oi oj : Oper} {xi xj : Rec} (h : Indep ops oi xi oj xj) (S : St) : Same ((S.app oi.dst xi.r).app oj.dst xj.r) ((S.app oj.dst xj.r).app oi.dst xi.r) := by
  refine ⟨by simp [app_len], fun t => ?_, fun c => ?_⟩
  · simp only [app_slot, app_len]
    by_cases h1 : oi.dst = some t
    · simp [h1, h.d3 t h1]
    · by_cases h2 : oj.dst = some t <;> simp [h1, h2]
  · by_cases h1 : c ∈ xi.tch
    · rw [app_mem_other _ _ _ (h.t1 c h1), app_mem, app_mem]
      rw [app_mem_other _ _ _ (h.t1 c h1)]
    · rw [app_mem_other _ oi.dst xi h1, app_mem, app_mem_other _ oi.dst xi h1, app_mem]
structure Ordered (ops : Array Oper) (recs : List Rec) (b : Nat) : Prop where
  len : ∀ (j : Nat) (o : Oper), ops[j]? = some o → ∃ x : Rec, recs[j]? = some x
  edge : ∀ (j : Nat) (o : Oper), ops[j]? = some o → ∀ k ∈ edgesOf o, k < j
  pair : ∀ (i j : Nat) (oi oj : Oper) (xi xj : Rec), i < j → ops[i]? = some oi → ops[j]? = some oj → recs[i]? = some xi → recs[j]? = some xj → Indep ops oi xi oj xj ∨ ∃ m : Nat, (masks ops.toList [])[j]? = some m ∧ Nat.testBit m i = true
  ok : ∀ (j : Nat) (oj : Oper) (xj : Rec), ops[j]? = some oj → recs[j]? = some xj → ∃ m : Nat, (masks ops.toList [])[j]? = some m ∧ xj.ok (fun c => Nat.blt c b || (Nat.ble b c && (Nat.beq (c - b) j || Nat.testBit m (c - b)))) (b + j) = true
theorem rowB_spec {ops : Array Oper} {oj : Oper} {xj : Rec} {m : Nat} : ∀ (l : List Oper) (r : List Rec) (k : Nat), rowB ops oj xj m l r k = true → ∀ (i : Nat) (o : Oper) (x : Rec), l[i]? = some o → r[i]? = some x → Nat.testBit m (k + i) = true ∨ indepB ops o x oj xj = true
  | [], r, k, h, i, o, x, h1, h2 => by simp at h1
  | _ :: _, [], k, h, i, o, x, h1, h2 => by simp at h2
  | o0 :: l, x0 :: r, k, h, i, o, x, h1, h2 => by
    simp only [rowB, Bool.and_eq_true, Bool.or_eq_true] at h
    cases i with
    | zero =>
      simp only [List.getElem?_cons_zero, Option.some.injEq] at h1 h2
      subst h1; subst h2
      exact h.1
    | succ i =>
      have := rowB_spec l r (k + 1) h.2 i o x (by simpa using h1) (by simpa using h2)
      rwa [show k + (i + 1) = k + 1 + i by omega]
theorem orderB_spec {ops : Array Oper} {recs : List Rec} {b : Nat} (h : orderB ops recs b = true) : Ordered ops recs b := by
  simp only [orderB, List.all_eq_true, List.mem_range, lnth_eq] at h
  have get : ∀ (j : Nat) (o : Oper), ops[j]? = some o → ∃ (x : Rec) (m : Nat), recs[j]? = some x ∧ (masks ops.toList [])[j]? = some m ∧ (edgesOf o).all (fun k => Nat.blt k j) = true ∧ rowB ops o x m (ops.toList.take j) recs 0 = true ∧
      x.ok (fun c => Nat.blt c b || (Nat.ble b c && (Nat.beq (c - b) j || Nat.testBit m (c - b)))) (b + j) = true := by
    intro j o ho
    have hj : j < ops.size := (Array.getElem?_eq_some_iff.1 ho).1
    have := h j hj
    have ho' : ops.toList[j]? = some o := by simpa using ho
    rw [ho'] at this
    split at this
    · rename_i o' x m h1 h2 h3
      cases h1
      simp only [Bool.and_eq_true] at this
      exact ⟨x, m, h2, h3, this.1.1, this.1.2, this.2⟩
    · cases this
  refine ⟨fun j o ho => ?_, fun j o ho k hk => ?_, fun i j oi oj xi xj hij hi hj hxi hxj => ?_, fun j oj xj hj hxj => ?_⟩
  · obtain ⟨x, m, h1, _⟩ := get j o ho
    exact ⟨x, h1⟩
  · obtain ⟨x, m, _, _, h1, _⟩ := get j o ho
    simp only [List.all_eq_true, Nat.blt_eq] at h1
    exact h1 k hk
  · obtain ⟨x, m, h1, h2, _, h3, _⟩ := get j oj hj
    rw [hxj] at h1
    cases h1
    have := rowB_spec _ _ 0 h3 i oi xi (by rw [List.getElem?_take]; simp [hij]; simpa using hi) hxi
    rcases this with h4 | h4
    · exact .inr ⟨m, h2, by simpa using h4⟩
    · exact .inl (indepB_spec h4)
  · obtain ⟨x, m, h1, h2, _, _, h3⟩ := get j oj hj
    rw [hxj] at h1
    cases h1
    exact ⟨m, h2, h3⟩
def Closed (ops : Array Oper) (D : Nat → Bool) : Prop := ∀ (j : Nat) (o : Oper), ops[j]? = some o → D j = true → ∀ k ∈ edgesOf o, D k = true
theorem Closed.anc {ops : Array Oper} {D : Nat → Bool} (hD : Closed ops D) (i : Nat) : ∀ (j : Nat) (o : Oper) (m : Nat), ops[j]? = some o → (∀ k ∈ edgesOf o, D k = true) → (masks ops.toList [])[j]? = some m → Nat.testBit m i = true → D i = true := by
  intro j
  induction j using Nat.strongRecOn with
  | _ j ih =>
    intro o m ho hD' hm hb
    obtain ⟨m', hm', hall⟩ := masks_bit ops.toList [] j o (by simp) (by simpa using ho)
    rw [hm] at hm'
    cases hm'
    obtain ⟨k, hk, h⟩ := hall i hb
    rcases h with rfl | ⟨hkj, mk, hmk, hbk⟩
    · exact hD' _ hk
    · have hkl : k < ops.size := by
        have hj := (Array.getElem?_eq_some_iff.1 ho).1
        omega
      exact ih k hkj ops[k] mk (by simp [hkl]) (fun k' hk' => hD k ops[k] (by simp [hkl]) (hD' k hk) k' hk') hmk hbk
section
variable {P : Program} {C : Ctx} {ops : Array Oper} {recs : List Rec} {b : Nat} {S0 : St}
theorem runD_len (D : Nat → Bool) : ∀ n, (runD ops recs S0 D n).slots.length = S0.slots.length
  | 0 => rfl
  | n + 1 => by
    simp only [runD]
    split
    · split
      · rw [app_len, runD_len D n]
      · exact runD_len D n
    · exact runD_len D n
theorem runD_congr {D D' : Nat → Bool} : ∀ n, (∀ j, j < n → D j = D' j) → runD ops recs S0 D n = runD ops recs S0 D' n
  | 0, _ => rfl
  | n + 1, h => by simp only [runD, runD_congr n (fun j hj => h j (by omega)), h n (by omega)]
theorem runD_stop {D : Nat → Bool} : ∀ n m, n ≤ m → (∀ j, n ≤ j → j < m → D j = false) → runD ops recs S0 D m = runD ops recs S0 D n
  | n, 0, h, _ => by
      have : n = 0 := by omega
      subst this; rfl
  | n, m + 1, h, hD => by
    by_cases hn : n = m + 1
    · subst hn; rfl
    · simp only [runD, hD m (by omega) (by omega)]
      exact runD_stop n m (by omega) (fun j h1 h2 => hD j h1 (by omega))
theorem agree (H : Ordered ops recs b) {D : Nat → Bool} (hD : Closed ops D) {i : Nat} {o : Oper} {x : Rec} (ho : ops[i]? = some o) (hx : recs[i]? = some x) (hi : D i = false) (hpre : ∀ k ∈ edgesOf o, D k = true) :
    ∀ n, i ≤ n → (∀ t ∈ o.looksAt ops, lget (runD ops recs S0 D n).slots t = lget (runD ops recs S0 (fun _ => true) i).slots t) ∧ (∀ c ∈ x.rd, (runD ops recs S0 D n).mem.get c = (runD ops recs S0 (fun _ => true) i).mem.get c) := by
  have low : ∀ j, j ≤ i → (∀ t ∈ o.looksAt ops, lget (runD ops recs S0 D j).slots t = lget (runD ops recs S0 (fun _ => true) j).slots t) ∧ (∀ c ∈ x.rd, (runD ops recs S0 D j).mem.get c = (runD ops recs S0 (fun _ => true) j).mem.get c) := by
    intro j
    induction j with
    | zero => intro _; exact ⟨fun _ _ => rfl, fun _ _ => rfl⟩
    | succ j ih =>
      intro hj
      obtain ⟨h1, h2⟩ := ih (by omega)
      have hjs : j < ops.size := by have := (Array.getElem?_eq_some_iff.1 ho).1; omega
      have hoj : ops[j]? = some ops[j] := by simp [hjs]
      obtain ⟨xj, hxj⟩ := H.len j _ hoj
      simp only [runD, if_true, hoj, hxj]
      by_cases hDj : D j = true
      · simp only [hDj, if_true]
        refine ⟨fun t ht => by rw [app_slot, app_slot, runD_len, runD_len, h1 t ht], fun c hc => by rw [app_mem, app_mem, h2 c hc]⟩
      · simp only [hDj]
        have hind : Indep ops ops[j] xj o x := by
          rcases H.pair j i _ _ _ _ (by omega) hoj ho hxj hx with h | ⟨m, hm, hb⟩
          · exact h
          · exact absurd (hD.anc j i o m ho hpre hm hb) hDj
        refine ⟨fun t ht => ?_, fun c hc => ?_⟩
        · rw [app_slot, if_neg (fun e => hind.d1 t e ht)]; exact h1 t ht
        · rw [app_mem_other _ _ _ (fun e => hind.r1 c e hc)]; exact h2 c hc
  intro n hn
  induction n with
  | zero => exact (by
      have : i = 0 := by omega
      subst this; exact low 0 (Nat.le_refl _))
  | succ n ih =>
    by_cases he : i = n + 1
    · subst he; exact low _ (Nat.le_refl _)
    · obtain ⟨h1, h2⟩ := ih (by omega)
      simp only [runD]
      by_cases hDn : D n = true
      · have hne : n ≠ i := fun e => by rw [e, hi] at hDn; cases hDn
        simp only [hDn, if_true]
        split
        · rename_i on xn hon hxn
          have hind : Indep ops o x on xn := by
            rcases H.pair i n _ _ _ _ (by omega) ho hon hx hxn with h | ⟨m, hm, hb⟩
            · exact h
            · have := hD.anc i n on m hon (hD n on hon hDn) hm hb
              rw [hi] at this; cases this
          refine ⟨fun t ht => ?_, fun c hc => ?_⟩
          · rw [app_slot, if_neg (fun e => hind.d2 t e ht)]; exact h1 t ht
          · rw [app_mem_other _ _ _ (fun e => hind.r2 c e hc)]; exact h2 c hc
        · exact ⟨h1, h2⟩
      · simp only [hDn]
        exact ⟨h1, h2⟩
theorem insert_same (H : Ordered ops recs b) {D : Nat → Bool} (hD : Closed ops D) {i : Nat} {o : Oper} {x : Rec} (ho : ops[i]? = some o) (hx : recs[i]? = some x) (hi : D i = false) :
    ∀ n, i < n → Same ((runD ops recs S0 D n).app o.dst x.r) (runD ops recs S0 (fun j => if j = i then true else D j) n) := by
  intro n hn
  induction n with
  | zero => omega
  | succ n ih =>
    by_cases he : i = n
    · subst he
      have e : runD ops recs S0 (fun j => if j = i then true else D j) i = runD ops recs S0 D i := runD_congr i (fun j hj => by simp [show j ≠ i by omega])
      simp only [runD, hi, if_true, ho, hx, e]
      exact Same.refl _
    · have ih' := ih (by omega)
      simp only [runD, show n ≠ i by omega, if_false]
      by_cases hDn : D n = true
      · simp only [hDn, if_true]
        split
        · rename_i on xn hon hxn
          have hind : Indep ops o x on xn := by
            rcases H.pair i n _ _ _ _ (by omega) ho hon hx hxn with h | ⟨m, hm, hb⟩
            · exact h
            · have := hD.anc i n on m hon (hD n on hon hDn) hm hb
              rw [hi] at this; cases this
          exact (app_comm hind.symm _).trans (ih'.app on.dst xn.r)
        · exact ih'
      · simp only [hDn]
        exact ih'
end
end Go.Sx
