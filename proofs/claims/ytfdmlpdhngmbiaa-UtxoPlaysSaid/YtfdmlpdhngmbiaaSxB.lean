/- Symbolic states for walks, part B: a state, what an operation makes of it, and a region of operations in whatever order its edges allow. -/
import Derived.Test.YtfdmlpdhngmbiaaSxA
import Derived.Orders
namespace Go.Sx
open Go.RowKit

structure St where
  slots : List (Option XV)
  mem : Mem
  nx : Nat

def lget : List (Option XV) → Nat → Option XV
  | [], _ => none
  | x :: _, 0 => x
  | _ :: r, n + 1 => lget r n
def lset : List (Option XV) → Nat → Option XV → List (Option XV)
  | [], _, _ => []
  | _ :: r, 0, y => y :: r
  | x :: r, n + 1, y => x :: lset r n y

theorem lget_lset (y : Option XV) : ∀ (l : List (Option XV)) (d t : Nat), lget (lset l d y) t = if t = d then (if d < l.length then y else none) else lget l t
  | [], d, t => by simp [lset, lget]
  | x :: r, 0, 0 => by simp [lset, lget]
  | x :: r, 0, t + 1 => by simp [lset, lget]
  | x :: r, d + 1, 0 => by simp [lset, lget]
  | x :: r, d + 1, t + 1 => by simp [lset, lget, lget_lset y r d t]
theorem lset_length (y : Option XV) : ∀ (l : List (Option XV)) (d : Nat), (lset l d y).length = l.length
  | [], d => rfl
  | x :: r, 0 => rfl
  | x :: r, d + 1 => by simp [lset, lset_length y r d]
theorem lget_some_lt : ∀ {l : List (Option XV)} {t : Nat} {X : XV}, lget l t = some X → t < l.length
  | [], t, X, h => by simp [lget] at h
  | x :: r, 0, X, h => by simp
  | x :: r, t + 1, X, h => by simp only [lget] at h; have := lget_some_lt h; simp; omega

def constX : Value → XV
  | .agg cs => .cv (.agg (cs.toList.map .raw))
  | v => .cv (.one (.raw v))

def St.ev (S : St) : Operand → Option XV
  | .tmp t => lget S.slots t
  | .const v => some (constX v)
  | .global g => some (XV.val (.pointer (some ⟨g, 0, none⟩)))
  | .func f => some (XV.val (.func (.func f) #[] #[]))

/-- What an operation leaves: its value, the pieces that hold something else or are new, and all pieces that it may have turned (what is among these and not among 'upd' is given up). -/
structure Res where
  v : XV
  upd : Mem := []
  wr : List Nat := []

def Mem.dels (m : Mem) : List Nat → Mem
  | [] => m
  | c :: r => Mem.dels (m.del c) r
theorem Mem.get_dels (c : Nat) : ∀ (l : List Nat) (m : Mem), (m.dels l).get c = if c ∈ l then none else m.get c
  | [], m => by simp [Mem.dels]
  | d :: r, m => by
    simp only [Mem.dels, Mem.get_dels c r, Mem.get_del, List.mem_cons]
    by_cases h1 : c = d <;> by_cases h2 : c ∈ r <;> simp [h1, h2]
theorem Mem.get_append (c : Nat) : ∀ (l m : Mem), Mem.get (l ++ m) c = (Mem.get l c).or (m.get c)
  | [], m => by simp [Mem.get]
  | (k, ch) :: r, m => by
    simp only [List.cons_append, Mem.get, nbeq]
    by_cases h : k = c
    · simp [h]
    · simp [h, Mem.get_append c r m]

def St.app (S : St) (dst : Option Tmp) (r : Res) : St :=
  { slots := match dst with | some t => lset S.slots t (some r.v) | none => S.slots, mem := r.upd ++ S.mem.dels r.wr, nx := S.nx }

/-- 'o' may be carried out in a state that agrees with S on its operands and on the pieces 'rd', with d for a new piece; it leaves r. -/
def OpSound (P : Program) (S : St) (d : Nat) (o : Oper) (r : Res) (rd : List Nat) : Prop :=
  ∀ (β : Nat → Loc) (ow : Nat → Option Nat) (w : World) (a : Act) (K : Act → World → Prop) (Q : Exit → Act → World → Prop), WF ow w → (∀ k, ow k ≠ some d) →
    (∀ x ∈ o.op.operands, ∀ X, S.ev x = some X → X.rel β (a.eval x)) → (∀ c ∈ rd, ∀ ch, S.mem.get c = some ch → Holds β ow w c ch) →
    (∀ β' ow' w' x, Eff β ow w β' ow' w' r.wr d → r.v.rel β' x → (∀ c ch, Mem.get r.upd c = some ch → Holds β' ow' w' c ch) → K (a.put o.dst x) w') → o.wp P a w K Q

structure Rec where
  skip : Bool
  r : Res
  rd : List Nat

def skipRes : Res := { v := XV.val undef }
def skipRec : Rec := ⟨true, skipRes, []⟩

def nmem (c : Nat) : List Nat → Bool
  | [] => false
  | d :: r => bif Nat.beq d c then true else nmem c r
theorem nmem_iff (c : Nat) : ∀ l, nmem c l = true ↔ c ∈ l
  | [] => by simp [nmem]
  | d :: r => by
    simp only [nmem, nbeq, List.mem_cons]
    by_cases h : d = c
    · simp [h]
    · have h' : ¬ c = d := fun e => h e.symm
      simp [h, h', nmem_iff c r]

/-- A result's numbers are in order: p tells which numbers may be named. -/
def Rec.ok (p : Nat → Bool) (d : Nat) (x : Rec) : Bool :=
  x.r.v.ok p && x.r.upd.all (fun y => (Nat.beq y.1 d || nmem y.1 x.r.wr) && y.2.ok p) && x.r.wr.all (fun c => nmem c x.rd && !Nat.beq c d && p c) && p d

/-! ### a world fits a state -/

structure Sat (β : Nat → Loc) (ow : Nat → Option Nat) (w : World) (S : St) (a : Act) : Prop where
  defers : a.defers = []
  size : a.tmps.size = S.slots.length
  slots : ∀ t X, lget S.slots t = some X → X.rel β (a.tmps.getD t undef)
  mem : ∀ c ch, S.mem.get c = some ch → Holds β ow w c ch
  wf : WF ow w

/-- The numbers that a state names. -/
structure SOK (p : Nat → Bool) (S : St) : Prop where
  slots : ∀ t X, lget S.slots t = some X → X.ok p = true
  mem : ∀ c ch, S.mem.get c = some ch → p c = true ∧ ch.ok p = true

theorem SOK.mono {p q : Nat → Bool} {S : St} (h : ∀ c, p c = true → q c = true) (H : SOK p S) : SOK q S :=
  ⟨fun t X hX => XV.ok_mono h (H.slots t X hX), fun c ch hc => ⟨h c (H.mem c ch hc).1, Chunk.ok_mono h (H.mem c ch hc).2⟩⟩

/-- The numbers under which blocks are owned. -/
def OWN (p : Nat → Bool) (ow : Nat → Option Nat) : Prop := ∀ k c, ow k = some c → p c = true
theorem OWN.mono {p q : Nat → Bool} {ow : Nat → Option Nat} (h : ∀ c, p c = true → q c = true) (H : OWN p ow) : OWN q ow := fun k c hc => h c (H k c hc)
theorem OWN.eff {p q : Nat → Bool} {β β' : Nat → Loc} {ow ow' : Nat → Option Nat} {w w' : World} {wr : List Nat} {d : Nat} (H : OWN p ow) (E : Eff β ow w β' ow' w' wr d) (h : ∀ c, p c = true → q c = true) (hwr : ∀ c ∈ wr, q c = true) (hd : q d = true) : OWN q ow' := by
  intro k c hc
  by_cases hx : w.heap.size ≤ k ∨ ∃ c ∈ wr, ow k = some c
  · rcases E.mine k hx c hc with h1 | h1
    · exact hwr c h1
    · rw [h1]; exact hd
  · have hx1 : k < w.heap.size := Nat.lt_of_not_le fun h' => hx (.inl h')
    have hx2 : ∀ c ∈ wr, ow k ≠ some c := fun c0 h0 e => hx (.inr ⟨c0, h0, e⟩)
    exact h c (H k c (by rw [← (E.keep k hx1 hx2).2]; exact hc))
theorem Rec.wr_ok {p : Nat → Bool} {d : Nat} {x : Rec} (hx : x.ok p d = true) : (∀ c ∈ x.r.wr, p c = true) ∧ p d = true := by
  simp only [Rec.ok, Bool.and_eq_true, List.all_eq_true] at hx
  exact ⟨fun c hc => (hx.1.2 c hc).2, hx.2⟩

theorem rel_const (β : Nat → Loc) (v : Value) : (constX v).rel β v := by
  cases v <;> simp only [constX, XV.rel, CV.rel, SV.rel]
  rename_i cs
  refine ⟨cs, rfl, ?_⟩
  have : ∀ l : List Value, Rels β (l.map .raw) l := by
    intro l
    induction l with
    | nil => rfl
    | cons x r ih => exact ⟨x, r, rfl, rfl, ih⟩
  exact this _

theorem Sat.ev {β : Nat → Loc} {ow : Nat → Option Nat} {w : World} {S : St} {a : Act} (H : Sat β ow w S a) {x : Operand} {X : XV} (h : S.ev x = some X) : X.rel β (a.eval x) := by
  cases x with
  | tmp t => exact H.slots t X h
  | const v => simp only [St.ev, Option.some.injEq] at h; subst h; exact rel_const β v
  | global g => simp only [St.ev, Option.some.injEq] at h; subst h; rfl
  | func f => simp only [St.ev, Option.some.injEq] at h; subst h; rfl

theorem put_getD (a : Act) (d t : Nat) (v : Value) : (a.put (some d) v).tmps.getD t undef = if t = d ∧ d < a.tmps.size then v else a.tmps.getD t undef := by
  simp only [Act.put, Array.getD_eq_getD_getElem?, Array.getElem?_setIfInBounds]
  by_cases h : d = t
  · subst h
    by_cases h2 : d < a.tmps.size <;> simp [h2]
  · have : ¬ t = d := fun e => h e.symm
    simp [h, this]

/-- A result is laid into a state, and the world that it leaves fits. -/
theorem Sat.app {β β' : Nat → Loc} {ow ow' : Nat → Option Nat} {w w' : World} {S : St} {a : Act} (H : Sat β ow w S a) {p : Nat → Bool} {d : Nat} (hS : SOK p S) (hp : ∀ c, p c = true → c ≠ d)
    {dst : Option Tmp} {r : Res} (E : Eff β ow w β' ow' w' r.wr d) {x : Value} (hx : r.v.rel β' x) (hu : ∀ c ch, Mem.get r.upd c = some ch → Holds β' ow' w' c ch) : Sat β' ow' w' (S.app dst r) (a.put dst x) := by
  have hβ : ∀ c, p c = true → β' c = β c := fun c hc => E.beta c (hp c hc)
  refine ⟨?_, ?_, ?_, ?_, E.wf⟩
  · cases dst <;> exact H.defers
  · cases dst with
    | none => exact H.size
    | some t => simpa [Act.put, St.app, lset_length] using H.size
  · intro t X hX
    cases dst with
    | none => exact XV.rel_congr hβ (hS.slots t X hX) (H.slots t X hX)
    | some t0 =>
      simp only [St.app, lget_lset] at hX
      rw [put_getD]
      by_cases h : t = t0
      · simp only [h, if_true] at hX ⊢
        split at hX
        · rename_i hl
          cases hX
          rw [if_pos ⟨trivial, by rw [H.size]; exact hl⟩]
          exact hx
        · cases hX
      · simp only [h, if_false, false_and] at hX ⊢
        exact XV.rel_congr hβ (hS.slots t X hX) (H.slots t X hX)
  · intro c ch hc
    simp only [St.app, Mem.get_append] at hc
    cases hg : Mem.get r.upd c with
    | some y => simp only [hg, Option.some_or, Option.some.injEq] at hc; subst hc; exact hu c y hg
    | none =>
      simp only [hg, Option.none_or, Mem.get_dels] at hc
      split at hc
      · cases hc
      · rename_i hn
        exact E.holds H.wf hn (hp c (hS.mem c ch hc).1) hp (hS.mem c ch hc).2 (H.mem c ch hc)

theorem SOK.app {p q : Nat → Bool} {S : St} (hS : SOK p S) (hpq : ∀ c, p c = true → q c = true) {d : Nat} {x : Rec} (hx : x.ok q d = true) (dst : Option Tmp) : SOK q (S.app dst x.r) := by
  simp only [Rec.ok, Bool.and_eq_true, List.all_eq_true, Bool.or_eq_true, nbeq, decide_eq_true_eq, nmem_iff] at hx
  obtain ⟨⟨⟨h1, h2⟩, h3⟩, h4⟩ := hx
  constructor
  · intro t X hX
    cases dst with
    | none => exact XV.ok_mono hpq (hS.slots t X hX)
    | some t0 =>
      simp only [St.app, lget_lset] at hX
      split at hX
      · split at hX
        · cases hX; exact h1
        · cases hX
      · exact XV.ok_mono hpq (hS.slots t X hX)
  · intro c ch hc
    simp only [St.app, Mem.get_append] at hc
    cases hg : Mem.get x.r.upd c with
    | some y =>
      simp only [hg, Option.some_or, Option.some.injEq] at hc
      subst hc
      have hm : (c, y) ∈ x.r.upd := by
        have : ∀ l : Mem, Mem.get l c = some y → (c, y) ∈ l := by
          intro l
          induction l with
          | nil => intro h; simp [Mem.get] at h
          | cons z r ih =>
            obtain ⟨k, ck⟩ := z
            intro h
            simp only [Mem.get, nbeq] at h
            by_cases hk : k = c
            · simp only [hk, decide_true, cond_true, Option.some.injEq] at h; subst hk; subst h; simp
            · simp only [hk, decide_false, cond_false] at h; exact List.mem_cons_of_mem _ (ih h)
        exact this _ hg
      obtain ⟨h5, h6⟩ := h2 _ hm
      refine ⟨?_, h6⟩
      rcases h5 with h5 | h5
      · simp only at h5; rw [h5]; exact h4
      · exact (h3 _ h5).2
    | none =>
      simp only [hg, Option.none_or, Mem.get_dels] at hc
      split at hc
      · cases hc
      · exact ⟨hpq _ (hS.mem c ch hc).1, Chunk.ok_mono hpq (hS.mem c ch hc).2⟩

end Go.Sx
