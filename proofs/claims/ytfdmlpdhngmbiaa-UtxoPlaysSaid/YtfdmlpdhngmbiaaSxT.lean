/- Symbolic states for walks, part T: blocks and loops by what holds at their heads; a state told anew, with fewer pieces and other numbers. -/
import Derived.Test.YtfdmlpdhngmbiaaSxS
namespace Go.Sx
open Go.RowKit

/-! ### blocks and loops -/
def blockQ (id : Nat) (Q : Exit → St → Prop) (e : Exit) (S : St) : Prop := match e with | .exit id' => if id' = id then Q .normal S else Q (.exit id') S | e => Q e S
theorem blockN {id : Nat} {Q : Exit → St → Prop} {S : St} (h : Q .normal S) : blockQ id Q .normal S := h
theorem blockR {id : Nat} {Q : Exit → St → Prop} {S : St} (h : Q .ret S) : blockQ id Q .ret S := h
theorem blockX {id : Nat} {Q : Exit → St → Prop} {S : St} (h : Q .normal S) : blockQ id Q (.exit id) S := by
  simp only [blockQ, if_true]; exact h
theorem blockY {id id' : Nat} {Q : Exit → St → Prop} {S : St} (hne : Nat.beq id' id = false) (h : Q (.exit id') S) : blockQ id Q (.exit id') S := by
  rw [nbeq] at hne
  have : ¬ id' = id := by simpa using hne
  simp only [blockQ, if_neg this]; exact h
theorem Tri.block {P : Program} {C : Ctx} {id : Nat} {c : Code} {S : St} {Q : Exit → St → Prop} (h : Tri P C c S (blockQ id Q)) : Tri P C (.block id c) S Q := by
  intro a w hs
  refine wp_block (wp_mono (h a w hs) ?_)
  rintro e a' w' ⟨S', h1, h2⟩
  cases e with
  | exit id' =>
    simp only [Exit.inBlock]
    simp only [blockQ] at h2
    by_cases hid : id' = id
    · rw [if_pos hid] at h2 ⊢; exact ⟨S', h1, h2⟩
    · rw [if_neg hid] at h2 ⊢; exact ⟨S', h1, h2⟩
  | _ => exact ⟨S', h1, h2⟩

def loopQ (Q : Exit → St → Prop) (next : St → Prop) (e : Exit) (S : St) : Prop := match e with | .normal => next S | e => Q e S
theorem loopN {Q : Exit → St → Prop} {next : St → Prop} {S : St} (h : next S) : loopQ Q next .normal S := h
theorem loopX {Q : Exit → St → Prop} {next : St → Prop} {S : St} {id : Nat} (h : Q (.exit id) S) : loopQ Q next (.exit id) S := h
theorem loopR {Q : Exit → St → Prop} {next : St → Prop} {S : St} (h : Q .ret S) : loopQ Q next .ret S := h
/-- The next round, if there is one, begins lower. -/
def nextQ {α : Type} (C : Ctx) (St : α → St) (μ : α → Nat) (x : α) (S' : Sx.St) : Prop := ∃ y, μ y < μ x ∧ Ent C S' (St y)
theorem Tri.loop {P : Program} {C : Ctx} {α : Type} (St : α → St) (μ : α → Nat) (a0 : α) {body : Code} {S : Sx.St} {Q : Exit → Sx.St → Prop} (h0 : Ent C S (St a0)) (round : ∀ x, Tri P C body (St x) (loopQ Q (nextQ C St μ x))) : Tri P C (.loop body) S Q := by
  intro a w hs
  refine wp_mono (wp_loop (fun a w => ∃ x, SatC C (St x) a w) (fun a w => Classical.epsilon fun n => ∃ x, SatC C (St x) a w ∧ n = μ x ∧ ∀ y, SatC C (St y) a w → μ x ≤ μ y) ⟨a0, h0 a w hs⟩ ?_) (fun e a' w' h => h)
  rintro a w hI
  have pick : ∀ (n : Nat) (a : Act) (w : World) (x : α), SatC C (St x) a w → μ x ≤ n → ∃ x, SatC C (St x) a w ∧ ∀ y, SatC C (St y) a w → μ x ≤ μ y := by
    intro n
    induction n with
    | zero => exact fun a w x hx hle => ⟨x, hx, fun y _ => by omega⟩
    | succ n ih =>
      intro a w x hx hle
      by_cases hex : ∃ y, SatC C (St y) a w ∧ μ y < μ x
      · obtain ⟨y, hy, hlt⟩ := hex
        exact ih a w y hy (by omega)
      · exact ⟨x, hx, fun y hy => Nat.le_of_not_lt fun hlt => hex ⟨y, hy, hlt⟩⟩
  have least : ∀ (a : Act) (w : World), (∃ x, SatC C (St x) a w) → ∃ x, SatC C (St x) a w ∧ (∀ y, SatC C (St y) a w → μ x ≤ μ y) ∧ (Classical.epsilon fun n => ∃ x, SatC C (St x) a w ∧ n = μ x ∧ ∀ y, SatC C (St y) a w → μ x ≤ μ y) = μ x := by
    rintro a w ⟨x0, hx0⟩
    obtain ⟨x, hx, hmin⟩ := pick _ a w x0 hx0 (Nat.le_refl _)
    have := Classical.epsilon_spec (p := fun n => ∃ x, SatC C (St x) a w ∧ n = μ x ∧ ∀ y, SatC C (St y) a w → μ x ≤ μ y) ⟨μ x, x, hx, rfl, hmin⟩
    obtain ⟨z, hz, he, hzm⟩ := this
    exact ⟨z, hz, hzm, he⟩
  obtain ⟨x, hx, hmin, hμ⟩ := least a w hI
  refine wp_mono (round x a w hx) ?_
  rintro e a' w' ⟨S', h1, h2⟩
  cases e with
  | normal =>
    obtain ⟨y, hlt, hent⟩ := h2
    have hy := hent a' w' h1
    obtain ⟨z, hz, hzm, hze⟩ := least a' w' ⟨y, hy⟩
    refine ⟨⟨y, hy⟩, ?_⟩
    show (Classical.epsilon fun n => ∃ x, SatC C (St x) a' w' ∧ n = μ x ∧ ∀ y, SatC C (St y) a' w' → μ x ≤ μ y) < (Classical.epsilon fun n => ∃ x, SatC C (St x) a w ∧ n = μ x ∧ ∀ y, SatC C (St y) a w → μ x ≤ μ y)
    rw [hμ, hze]
    exact Nat.lt_of_le_of_lt (hzm y hy) hlt
  | _ => exact ⟨S', h1, h2⟩

/-! ### a state told anew -/
theorem Holds.unren' {β : Nat → Loc} {ow ow' : Nat → Option Nat} {w : World} {ρ : Nat → Nat} {j : Nat} {ch : Chunk} (ho : ∀ k, ow' k = some j ↔ ow k = some (ρ j)) (hn : ∀ k, ow k = none → ow' k = none) (h : Holds β ow w (ρ j) (ch.ren ρ)) : Holds (fun i => β (ρ i)) ow' w j ch := by
  cases ch with
  | ro sz n f =>
    simp only [Chunk.ren, Holds] at h ⊢
    by_cases hn' : (β (ρ j)).nil = true
    · rw [if_pos hn'] at h ⊢; exact h
    · rw [if_neg hn'] at h ⊢
      exact ⟨hn _ h.1, h.2⟩
  | _ => exact Holds.unren rfl ho h

/-- One piece says all that another one says; read-only ones too. -/
def ChLe' : Chunk → Chunk → Prop
  | .ro sz n f, .ro sz' n' f' => sz = sz' ∧ n = n' ∧ ∀ i, i < n → f i = f' i
  | a, b => ChLe a b
theorem ChLe'.holds {a b : Chunk} (h : ChLe' a b) {β : Nat → Loc} {ow : Nat → Option Nat} {w : World} {c : Nat} (H : Holds β ow w c a) : Holds β ow w c b := by
  cases a <;> cases b <;> simp only [ChLe'] at h <;> first | exact ChLe.holds h H | skip
  obtain ⟨rfl, rfl, hf⟩ := h
  simp only [Holds] at H ⊢
  by_cases hn : (β c).nil = true
  · rw [if_pos hn] at H ⊢; exact H
  · rw [if_neg hn] at H ⊢
    exact ⟨H.1, H.2.1, fun i hi => by rw [← hf i hi]; exact H.2.2 i hi⟩
theorem ChLe'.refl : ∀ a : Chunk, ChLe' a a
  | .cells _ _ => ⟨rfl, rfl⟩
  | .vec _ _ _ _ => ⟨rfl, rfl, Nat.le_refl _, fun _ _ => rfl⟩
  | .ro _ _ _ => ⟨rfl, rfl, fun _ _ => rfl⟩
  | .abs _ => rfl

def slotsLe (ρ : Nat → Nat) : List (Option XV) → List (Option XV) → Prop
  | [], [] => True
  | none :: r, _ :: r' => slotsLe ρ r r'
  | some X :: r, y :: r' => y = some (X.ren ρ) ∧ slotsLe ρ r r'
  | _, _ => False
theorem slotsLe.get {ρ : Nat → Nat} : ∀ {l l' : List (Option XV)}, slotsLe ρ l l' → l.length = l'.length ∧ ∀ t X, lget l t = some X → lget l' t = some (X.ren ρ)
  | [], [], _ => ⟨rfl, fun t X h => by simp [lget] at h⟩
  | none :: r, y :: r', h => by
    obtain ⟨h1, h2⟩ := slotsLe.get (l := r) (l' := r') h
    refine ⟨by simp [h1], fun t X ht => ?_⟩
    cases t with
    | zero => simp [lget] at ht
    | succ t => exact h2 t X ht
  | some X :: r, y :: r', h => by
    obtain ⟨h1, h2⟩ := slotsLe.get (l := r) (l' := r') h.2
    refine ⟨by simp [h1], fun t X' ht => ?_⟩
    cases t with
    | zero => simp only [lget, Option.some.injEq] at ht ⊢; subst ht; exact h.1
    | succ t => exact h2 t X' ht
  | [], _ :: _, h => by cases h
  | none :: _, [], h => by cases h
  | some _ :: _, [], h => by cases h

def memLe (ρ : Nat → Nat) : Mem → Mem → Prop
  | [], _ => True
  | (c, ch) :: r, M => (∃ ch0, M.get (ρ c) = some ch0 ∧ ChLe' ch0 (ch.ren ρ)) ∧ memLe ρ r M
theorem memLe.get {ρ : Nat → Nat} {M : Mem} : ∀ {l : Mem}, memLe ρ l M → ∀ c ch, l.get c = some ch → ∃ ch0, M.get (ρ c) = some ch0 ∧ ChLe' ch0 (ch.ren ρ)
  | [], _, c, ch, h => by simp [Mem.get] at h
  | (k, x) :: r, hl, c, ch, h => by
    simp only [Mem.get, nbeq] at h
    by_cases hk : k = c
    · simp only [hk, decide_true, cond_true, Option.some.injEq] at h; subst hk; subst h; exact hl.1
    · simp only [hk, decide_false, cond_false] at h; exact memLe.get hl.2 c ch h

def okSlots (p : Nat → Bool) : List (Option XV) → Bool
  | [] => true
  | none :: r => okSlots p r
  | some X :: r => X.ok p && okSlots p r
theorem okSlots_get {p : Nat → Bool} : ∀ {l : List (Option XV)}, okSlots p l = true → ∀ t X, lget l t = some X → X.ok p = true
  | [], _, t, X, h => by simp [lget] at h
  | none :: r, hl, t, X, h => by
    cases t with
    | zero => simp [lget] at h
    | succ t => exact okSlots_get (l := r) hl t X h
  | some Y :: r, hl, t, X, h => by
    simp only [okSlots, Bool.and_eq_true] at hl
    cases t with
    | zero => simp only [lget, Option.some.injEq] at h; subst h; exact hl.1
    | succ t => exact okSlots_get hl.2 t X h

/-- How the numbers of a state told anew stand for the old ones: i for ids[i]. -/
def nth0 (ids : List Nat) (i : Nat) : Nat := (ids[i]?).getD 0

theorem Ent.ren {C : Ctx} {S S' : St} (ids : List Nat) (hnd : ids.Nodup) (hnx : S'.nx = ids.length) (hn0 : ∀ i, i < C.n0 → ids[i]? = some i) (hn : C.n0 ≤ ids.length)
    (hok : (okSlots (fun i => Nat.blt i S'.nx) S'.slots && S'.mem.all fun x => Nat.blt x.1 S'.nx && x.2.ok fun i => Nat.blt i S'.nx) = true) (hs : slotsLe (nth0 ids) S'.slots S.slots) (hm : memLe (nth0 ids) S'.mem S.mem) : Ent C S S' := by
  rintro a w ⟨β, ow, h1, h2, h3, h4, h5⟩
  let ρ := nth0 ids
  let ow' : Nat → Option Nat := fun k => (ow k).bind fun c => lidx c ids
  simp only [Bool.and_eq_true] at hok
  obtain ⟨ok1, ok2⟩ := hok
  obtain ⟨s1, s2⟩ := hs.get
  have hown : ∀ i k, i < ids.length → (ow' k = some i ↔ ow k = some (ρ i)) := by
    intro i k hi
    have e : ids[i]? = some (ρ i) := by
      rw [List.getElem?_eq_getElem hi]
      simp [ρ, nth0, List.getElem?_eq_getElem hi]
    constructor
    · intro h
      cases ho : ow k with
      | none => simp [ow', ho] at h
      | some c =>
        have := lidx_get (l := ids) (c := c) (i := i) (by simpa [ow', ho] using h)
        rw [e] at this
        exact this.symm
    · intro h
      simp only [ow', h, Option.bind_some]
      exact lidx_nodup hnd e
  have hmem : ∀ c ch, S'.mem.get c = some ch → Nat.blt c S'.nx = true ∧ ch.ok (fun i => Nat.blt i S'.nx) = true := by
    intro c ch hc
    have : ∀ (l : Mem) c ch, l.get c = some ch → (c, ch) ∈ l := by
      intro l
      induction l with
      | nil => intro c ch h; simp [Mem.get] at h
      | cons z r ih =>
        obtain ⟨k, ck⟩ := z
        intro c ch h
        simp only [Mem.get, nbeq] at h
        by_cases hk : k = c
        · simp only [hk, decide_true, cond_true, Option.some.injEq] at h; subst hk; subst h; simp
        · simp only [hk, decide_false, cond_false] at h; exact List.mem_cons_of_mem _ (ih c ch h)
    have := List.all_eq_true.1 ok2 _ (this _ c ch hc)
    simpa only [Bool.and_eq_true] using this
  refine ⟨fun i => β (ρ i), ow', ⟨h1.defers, by rw [h1.size, s1], fun t X hX => ?_, fun c ch hc => ?_, fun k hk => ?_⟩, ⟨fun t X hX => okSlots_get ok1 t X hX, hmem⟩, ⟨h3.os, h3.tape, h3.output, h3.size, fun k hk1 hk2 => ?_, fun i hi => ?_⟩, by rw [hnx]; exact hn, fun k i hi => ?_⟩
  · exact (XV.ren_rel X _).1 (h1.slots t _ (s2 t X hX))
  · obtain ⟨ch0, e1, e2⟩ := hm.get c ch hc
    have hlt := (hmem c ch hc).1
    simp only [Nat.blt_eq, hnx] at hlt
    exact Holds.unren' (hown c · hlt) (fun k hk => by simp [ow', hk]) (e2.holds (h1.mem _ ch0 e1))
  · refine h1.wf k (fun e => hk ?_)
    simp [ow', e]
  · obtain ⟨e1, e2⟩ := h3.keep k hk1 hk2
    exact ⟨e1, by simp [ow', e2]⟩
  · have e : ρ i = i := by simp [ρ, nth0, hn0 i hi]
    simp only [e]
    exact h3.beta i hi
  · cases ho : ow k with
    | none => simp [ow', ho] at hi
    | some c =>
      have := lidx_get (l := ids) (c := c) (i := i) (by simpa [ow', ho] using hi)
      have := (List.getElem?_eq_some_iff.1 this).1
      simp only [Nat.blt_eq, hnx]; exact this
end Go.Sx
