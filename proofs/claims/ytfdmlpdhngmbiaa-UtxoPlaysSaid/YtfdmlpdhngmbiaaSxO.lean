/- Symbolic states for walks, part O: an object laid open, and shut again. -/
import Derived.Test.YtfdmlpdhngmbiaaSxN
namespace Go.Sx
open Go.RowKit

theorem Holds.keep {β β' : Nat → Loc} {ow ow' : Nat → Option Nat} {w : World} {c : Nat} {ch : Chunk} {p : Nat → Bool} (hp : ch.ok p = true) (hβ : ∀ i, p i = true → β' i = β i) (hc : β' c = β c) (ho : ch.isRo = false → ∀ k, ow' k = some c ↔ ow k = some c)
    (hn : ch.isRo = true → ∀ k, ow k = none → ow' k = none) (h : Holds β ow w c ch) : Holds β' ow' w c ch := by
  cases ch with
  | cells e cs =>
    obtain ⟨h0, h1, h2, arr, h3, h4⟩ := h
    exact ⟨by rw [hc]; exact h0, by rw [hc]; exact h1, by rw [hc]; exact (ho rfl _).2 h2, arr, by rw [hc]; exact h3, Rels.congr (p := p) hβ hp h4⟩
  | vec e sz n f =>
    simp only [Holds] at h ⊢
    rw [hc]
    by_cases hn' : (β c).nil = true
    · rw [if_pos hn'] at h ⊢; exact h
    · rw [if_neg hn'] at h ⊢
      exact ⟨h.1, (ho rfl _).2 h.2.1, h.2.2⟩
  | ro sz n f =>
    simp only [Holds] at h ⊢
    rw [hc]
    by_cases hn' : (β c).nil = true
    · rw [if_pos hn'] at h ⊢; exact h
    · rw [if_neg hn'] at h ⊢
      exact ⟨hn rfl _ h.1, h.2⟩
  | abs A =>
    obtain ⟨h0, h1, h2⟩ := h
    refine ⟨by rw [hc]; exact h0, by rw [hc]; exact h1, ?_⟩
    rw [hc]
    exact A.loc (fun _ _ => rfl) (fun k => ho rfl k) h2

theorem Holds.unren {β : Nat → Loc} {ow ow' : Nat → Option Nat} {w : World} {ρ : Nat → Nat} {j : Nat} {ch : Chunk} (hro : ch.isRo = false) (ho : ∀ k, ow' k = some j ↔ ow k = some (ρ j)) (h : Holds β ow w (ρ j) (ch.ren ρ)) : Holds (fun i => β (ρ i)) ow' w j ch := by
  cases ch with
  | cells e cs =>
    obtain ⟨h0, h1, h2, arr, h3, h4⟩ := h
    exact ⟨h0, h1, (ho _).2 h2, arr, h3, (Rels.ren cs _).1 h4⟩
  | vec e sz n f =>
    simp only [Chunk.ren, Holds] at h ⊢
    by_cases hn' : (β (ρ j)).nil = true
    · rw [if_pos hn'] at h ⊢; exact h
    · rw [if_neg hn'] at h ⊢
      exact ⟨h.1, (ho _).2 h.2.1, h.2.2⟩
  | ro sz n f => cases hro
  | abs A => exact ⟨h.1, h.2.1, A.loc (fun _ _ => rfl) (fun k => ho k) h.2.2⟩

/-- Pieces that are an object: the first one, 0, is a block of cells; they name one another by 1, 2, .. -/
def memB (m : Nat) (M : Mem) : Bool :=
  (M.all fun x => Nat.blt x.1 m && x.2.ok (fun i => Nat.blt 0 i && Nat.blt i m) && !x.2.isRo) && (match M.get 0 with | some ch => ch.isCells | none => false)

def packP (M : Mem) (inv : Prop) : AbsP where
  Φ w b _ O := inv ∧ (∀ c ch, M.get c = some ch → ch.isRo = false) ∧ ∃ β ow, WF ow w ∧ (β 0).blk = b ∧ (β 0).base = 0 ∧ (β 0).nil = false ∧ (∀ k c, ow k = some c → ∃ ch, M.get c = some ch) ∧ (∀ k, O k ↔ ow k ≠ none) ∧ (∀ c ch, M.get c = some ch → Holds β ow w c ch)
  loc := by
    rintro w w' b s O O' hk hO ⟨h0, hro, β, ow, h1, h2, h3, h4, h5, h6, h7⟩
    have same : ∀ k, ow k ≠ none → w'.heap[k]? = w.heap[k]? := fun k h => hk k ((h6 k).2 h)
    refine ⟨h0, hro, β, ow, ?_, h2, h3, h4, h5, fun k => (hO k).trans (h6 k), fun c ch hc => ?_⟩
    · intro k h
      have e := same k h
      rw [Array.getElem?_eq_getElem (h1 k h)] at e
      exact (Array.getElem?_eq_some_iff.1 e).1
    · have := Holds.trans (β := β) (β' := β) (ow := ow) (ow' := ow) (w := w) (w' := w') (c := c) (c' := c) (ρ := id) (ch := ch) (p := fun _ => true) ?_ (fun _ _ => rfl) rfl rfl rfl (.inl ⟨rfl, rfl⟩) (hro c ch hc) (fun _ => Iff.rfl) (fun k hk => same k (by simp [hk])) (h7 c ch hc)
      · have e : ch.ren id = ch := by
          cases ch with
          | cells e cs =>
            have : ∀ l : List SV, l.map (SV.ren id) = l := by
              intro l; induction l with
              | nil => rfl
              | cons s r ih => rw [List.map_cons, ih]; cases s <;> rfl
            simp only [Chunk.ren, this]
          | _ => rfl
        rwa [e] at this
      · cases ch with
        | cells e cs => simp only [Chunk.ok, List.all_eq_true]; intro s _; cases s <;> rfl
        | _ => rfl
  in_heap := by
    rintro w b s O ⟨_, _, β, ow, h1, _, _, _, _, h6, _⟩ k hk
    exact h1 k ((h6 k).1 hk)

theorem Mem.get_ren_some {ρ : Nat → Nat} (hρ : ∀ i j, ρ i = ρ j → i = j) : ∀ (M : Mem) (c : Nat) (ch : Chunk), (M.ren ρ).get c = some ch → ∃ j ch0, M.get j = some ch0 ∧ c = ρ j ∧ ch = ch0.ren ρ
  | [], c, ch, h => by simp [Mem.ren, Mem.get] at h
  | (k, x) :: r, c, ch, h => by
    simp only [Mem.ren, Mem.get, nbeq] at h
    by_cases hk : ρ k = c
    · simp only [hk, decide_true, cond_true, Option.some.injEq] at h
      exact ⟨k, x, by simp [Mem.get], hk.symm, h.symm⟩
    · simp only [hk, decide_false, cond_false] at h
      obtain ⟨j, ch0, h1, h2, h3⟩ := Mem.get_ren_some hρ r c ch h
      refine ⟨j, ch0, ?_, h2, h3⟩
      have : ¬ k = j := fun e => hk (by rw [e, h2])
      simp only [Mem.get, nbeq, this, decide_false, cond_false, h1]
theorem Mem.get_ren {ρ : Nat → Nat} (hρ : ∀ i j, ρ i = ρ j → i = j) : ∀ (M : Mem) (j : Nat) (ch : Chunk), M.get j = some ch → (M.ren ρ).get (ρ j) = some (ch.ren ρ)
  | [], c, ch, h => by simp [Mem.get] at h
  | (k, x) :: r, j, ch, h => by
    simp only [Mem.ren, Mem.get, nbeq] at h ⊢
    by_cases hk : k = j
    · simp only [hk, decide_true, cond_true, Option.some.injEq] at h ⊢; rw [h]
    · have : ¬ ρ k = ρ j := fun e => hk (hρ _ _ e)
      simp only [hk, this, decide_false, cond_false] at h ⊢
      exact Mem.get_ren hρ r j ch h

theorem SV.ok_ren {p : Nat → Bool} {ρ : Nat → Nat} (s : SV) : (s.ren ρ).ok p = s.ok (fun i => p (ρ i)) := by cases s <;> rfl
theorem Chunk.ok_ren {p : Nat → Bool} {ρ : Nat → Nat} (ch : Chunk) : (ch.ren ρ).ok p = ch.ok (fun i => p (ρ i)) := by
  cases ch with
  | cells e cs =>
    simp only [Chunk.ren, Chunk.ok, List.all_map]
    congr 1
    funext s
    exact SV.ok_ren s
  | _ => rfl

def opn (c nx j : Nat) : Nat := match j with | 0 => c | j + 1 => nx + (j + 1)
theorem opn_inj {c nx : Nat} (h : c < nx) : ∀ i j, opn c nx i = opn c nx j → i = j := by
  intro i j e
  cases i <;> cases j <;> simp only [opn] at e <;> omega

/-- The object c laid open. -/
def St.opened (S : St) (c : Nat) (M : Mem) (m : Nat) : St := ⟨S.slots, M.ren (opn c S.nx) ++ S.mem.del c, S.nx + m⟩

theorem memB_spec {m : Nat} {M : Mem} (h : memB m M = true) : (∀ c ch, M.get c = some ch → c < m ∧ ch.ok (fun i => Nat.blt 0 i && Nat.blt i m) = true ∧ ch.isRo = false) ∧ ∃ ch, M.get 0 = some ch ∧ ch.isCells = true := by
  simp only [memB, Bool.and_eq_true, List.all_eq_true, Bool.not_eq_true'] at h
  obtain ⟨h1, h2⟩ := h
  have mem : ∀ (l : Mem) c ch, l.get c = some ch → (c, ch) ∈ l := by
    intro l
    induction l with
    | nil => intro c ch h; simp [Mem.get] at h
    | cons z r ih =>
      obtain ⟨k, ck⟩ := z
      intro c ch h
      simp only [Mem.get, nbeq] at h
      by_cases hk : k = c
      · simp only [hk, decide_true, cond_true, Option.some.injEq] at h; subst hk; subst h; simp
      · simp only [hk, decide_false, cond_false] at h; exact List.mem_cons_of_mem _ (ih c ch h)
  refine ⟨fun c ch hc => ?_, ?_⟩
  · obtain ⟨⟨g1, g2⟩, g3⟩ := h1 _ (mem M c ch hc)
    exact ⟨by simpa using g1, by simpa using g2, g3⟩
  · split at h2
    · rename_i ch hch; exact ⟨ch, hch, h2⟩
    · cases h2

theorem open_sat {C : Ctx} {S : St} {c m : Nat} {M : Mem} {inv : Prop} (hc : S.mem.get c = some (.abs (packP M inv))) (hM : memB m M = true) {a : Act} {w : World} (hs : SatC C S a w) : inv ∧ SatC C (S.opened c M m) a w := by
  obtain ⟨β, ow, h1, h2, h3, h4, h5⟩ := hs
  obtain ⟨hk, ch0, hk0, hkc⟩ := memB_spec hM
  obtain ⟨g0, g1, hinv, hnro, βl, owl, g2, g3, g4, g5, g6, g7, g8⟩ := h1.mem c _ hc
  have hcn : c < S.nx := by have := (h2.mem c _ hc).1; simpa using this
  refine ⟨hinv, ?_⟩
  let ρ := opn c S.nx
  let β' : Nat → Loc := fun i => if S.nx < i ∧ i < S.nx + m then βl (i - S.nx) else β i
  let ow' : Nat → Option Nat := fun k => match owl k with | some j => some (ρ j) | none => ow k
  have hρ : ∀ i j, ρ i = ρ j → i = j := opn_inj hcn
  have hβold : ∀ i, i < S.nx → β' i = β i := fun i hi => by simp only [β']; rw [if_neg (by omega)]
  have hβnew : ∀ i, 0 < i → i < m → β' (ρ i) = βl i := by
    intro i h0 hi
    cases i with
    | zero => omega
    | succ i =>
      simp only [ρ, opn, β']
      rw [if_pos (by omega)]
      congr 1; omega
  have hOk : ∀ k, ow k = some c ↔ owl k ≠ none := fun k => g7 k
  have hown : ∀ k i, ow k = some i → i < S.nx := fun k i h => by simpa using h5 k i h
  have ho : ∀ j k, ow' k = some (ρ j) ↔ owl k = some j := by
    intro j k
    simp only [ow']
    cases hl : owl k with
    | some j' =>
      simp only [Option.some.injEq]
      exact ⟨fun e => hρ _ _ e, fun e => by rw [e]⟩
    | none =>
      simp only [reduceCtorEq, iff_false]
      intro e
      cases j with
      | zero => exact absurd hl ((hOk k).1 e)
      | succ j => have := hown k _ e; simp only [ρ, opn] at this; omega
  have hother : ∀ c' k, c' ≠ c → c' < S.nx → (ow' k = some c' ↔ ow k = some c') := by
    intro c' k h hlt
    simp only [ow']
    cases hl : owl k with
    | some j =>
      have hck := (hOk k).2 (by simp [hl])
      simp only [hck, Option.some.injEq]
      constructor
      · intro e
        cases j with
        | zero => exact e
        | succ j => simp only [ρ, opn] at e; omega
      · intro e; exact absurd e.symm h
    | none => exact Iff.rfl
  refine ⟨β', ow', ⟨h1.defers, h1.size, fun t X hX => ?_, fun c' ch hc' => ?_, fun k hk' => ?_⟩, ⟨fun t X hX => ?_, fun c' ch hc' => ?_⟩, ⟨h3.os, h3.tape, h3.output, h3.size, fun k hk1 hk2 => ?_, fun i hi => ?_⟩, by simp only [St.opened]; omega, fun k i hi => ?_⟩
  · exact XV.rel_congr (p := fun i => Nat.blt i S.nx) (fun i hi => hβold i (by simpa using hi)) (h2.slots t X hX) (h1.slots t X hX)
  · simp only [St.opened, Mem.get_append] at hc'
    cases hg : (M.ren (opn c S.nx)).get c' with
    | some y =>
      simp only [hg, Option.some_or, Option.some.injEq] at hc'
      subst hc'
      obtain ⟨j, cj, e1, rfl, rfl⟩ := Mem.get_ren_some hρ M c' y hg
      obtain ⟨k1, k2, k3⟩ := hk j cj e1
      have hloc : (β' (ρ j)).blk = (βl j).blk ∧ (β' (ρ j)).base = (βl j).base ∧ (β' (ρ j)).nil = (βl j).nil ∧ (((β' (ρ j)).cap = (βl j).cap ∧ (β' (ρ j)).sub = (βl j).sub) ∨ cj.isCells = true) := by
        cases j with
        | zero =>
          have e2 : β' (ρ 0) = β c := hβold c hcn
          rw [e1] at hk0
          cases hk0
          exact ⟨by rw [e2, g3], by rw [e2, g1, g4], by rw [e2, g0, g5], .inr hkc⟩
        | succ j => rw [hβnew (j + 1) (by omega) k1]; exact ⟨rfl, rfl, rfl, .inl ⟨rfl, rfl⟩⟩
      exact Holds.trans (p := fun i => Nat.blt 0 i && Nat.blt i m) k2 (fun i hi => by simp only [Bool.and_eq_true, Nat.blt_eq] at hi; exact hβnew i hi.1 hi.2) hloc.1 hloc.2.1 hloc.2.2.1 hloc.2.2.2 k3 (fun k => ho j k) (fun _ _ => rfl) (g8 j cj e1)
    | none =>
      simp only [hg, Option.none_or, Mem.get_del] at hc'
      split at hc'
      · cases hc'
      · rename_i hne
        obtain ⟨k1, k2⟩ := h2.mem c' ch hc'
        have hlt : c' < S.nx := by simpa using k1
        refine Holds.keep (p := fun i => Nat.blt i S.nx) k2 (fun i hi => hβold i (by simpa using hi)) (hβold c' hlt) (fun _ k => hother c' k hne hlt) (fun _ k hn => ?_) (h1.mem c' ch hc')
        simp only [ow']
        cases hl : owl k with
        | some j => have := (hOk k).2 (by simp [hl]); rw [hn] at this; cases this
        | none => exact hn
  · simp only [ow'] at hk'
    cases hl : owl k with
    | some j => exact g2 k (by simp [hl])
    | none => simp only [hl] at hk'; exact h1.wf k hk'
  · exact XV.ok_mono (fun i hi => by simp only [Nat.blt_eq, St.opened] at hi ⊢; omega) (h2.slots t X hX)
  · simp only [St.opened, Mem.get_append] at hc' ⊢
    cases hg : (M.ren (opn c S.nx)).get c' with
    | some y =>
      simp only [hg, Option.some_or, Option.some.injEq] at hc'
      subst hc'
      obtain ⟨j, cj, e1, rfl, rfl⟩ := Mem.get_ren_some hρ M c' y hg
      obtain ⟨k1, k2, k3⟩ := hk j cj e1
      have hm : 0 < m := by omega
      refine ⟨?_, ?_⟩
      · cases j <;> simp only [ρ, opn, Nat.blt_eq] <;> omega
      · rw [Chunk.ok_ren]
        refine Chunk.ok_mono (fun i hi => ?_) k2
        simp only [Bool.and_eq_true, Nat.blt_eq] at hi ⊢
        cases i <;> simp only [ρ, opn] <;> omega
    | none =>
      simp only [hg, Option.none_or, Mem.get_del] at hc'
      split at hc'
      · cases hc'
      · obtain ⟨k1, k2⟩ := h2.mem c' ch hc'
        exact ⟨by simp only [Nat.blt_eq] at k1 ⊢; omega, Chunk.ok_mono (fun i hi => by simp only [Nat.blt_eq] at hi ⊢; omega) k2⟩
  · obtain ⟨e1, e2⟩ := h3.keep k hk1 hk2
    refine ⟨e1, ?_⟩
    simp only [ow']
    cases hl : owl k with
    | some j => have := (hOk k).2 (by simp [hl]); rw [e2] at this; cases this
    | none => exact e2
  · rw [hβold i (by omega)]; exact h3.beta i hi
  · simp only [ow'] at hi
    cases hl : owl k with
    | some j =>
      simp only [hl, Option.some.injEq] at hi
      subst hi
      obtain ⟨cj, e1⟩ := g6 k j hl
      have := (hk j cj e1).1
      cases j <;> simp only [ρ, opn, Nat.blt_eq, St.opened] <;> omega
    | none =>
      simp only [hl] at hi
      have := hown k i hi
      simp only [Nat.blt_eq, St.opened]; omega

theorem Tri.opens {P : Program} {C : Ctx} {cd : Code} {S : St} {Q : Exit → St → Prop} {c m : Nat} {M : Mem} {inv : Prop} (hc : S.mem.get c = some (.abs (packP M inv))) (hM : memB m M = true) (h : inv → Tri P C cd (S.opened c M m) Q) : Tri P C cd S Q := by
  intro a w hs
  obtain ⟨h1, h2⟩ := open_sat hc hM hs
  exact h h1 a w h2

/-- The pieces 'ids' shut into the object ids[0]. -/
def St.shut (S : St) (c : Nat) (ids : List Nat) (M : Mem) (inv : Prop) : St := ⟨S.slots, (c, .abs (packP M inv)) :: S.mem.dels ids, S.nx⟩

theorem Ent.shut {C : Ctx} {S : St} {c : Nat} {ids : List Nat} {M : Mem} {inv : Prop} (hids : ids.Nodup) (hc : ids[0]? = some c) (hinv : inv) (hroot : ∃ ch, S.mem.get c = some ch ∧ ch.isCells = true) (hM : memB ids.length M = true)
    (hcov : ∀ j i, ids[j]? = some i → ∃ ch ch0, M.get j = some ch ∧ S.mem.get i = some ch0 ∧ ChLe ch0 (ch.ren fun j => (ids[j]?).getD 0)) : Ent C S (S.shut c ids M inv) := by
  rintro a w ⟨β, ow, h1, h2, h3, h4, h5⟩
  obtain ⟨hk, _⟩ := memB_spec hM
  let ι : Nat → Nat := fun j => (ids[j]?).getD 0
  let owl : Nat → Option Nat := fun k => (ow k).bind fun i => lidx i ids
  let ow' : Nat → Option Nat := fun k => match owl k with | some _ => some c | none => ow k
  have hcm : c ∈ ids := List.mem_of_getElem? hc
  have hcn : c < S.nx := by obtain ⟨ch, h, _⟩ := hroot; have := (h2.mem c ch h).1; simpa using this
  have hown : ∀ k j, owl k = some j ↔ ∃ i, ids[j]? = some i ∧ ow k = some i := by
    intro k j
    constructor
    · intro hk
      cases ho : ow k with
      | none => simp [owl, ho] at hk
      | some i => exact ⟨i, lidx_get (by simpa [owl, ho] using hk), rfl⟩
    · rintro ⟨i, e1, e2⟩
      simp only [owl, e2, Option.bind_some]
      exact lidx_nodup hids e1
  have hmemid : ∀ k i, ow k = some i → i ∈ ids → owl k ≠ none := by
    intro k i e hi
    obtain ⟨j, hj⟩ := List.getElem?_of_mem hi
    rw [(hown k j).2 ⟨i, hj, e⟩]; simp
  have hO : ∀ k, ow' k = some c ↔ owl k ≠ none := by
    intro k
    simp only [ow']
    cases hl : owl k with
    | some j => simp
    | none =>
      simp only [ne_eq, not_true_eq_false, iff_false]
      intro e
      exact hmemid k c e hcm hl
  have hlen : ∀ j i, ids[j]? = some i → j < ids.length := fun j i h => (List.getElem?_eq_some_iff.1 h).1
  have hinner : ∀ j ch, M.get j = some ch → Holds (fun i => β (ι i)) owl w j ch := by
    intro j ch hj
    obtain ⟨k1, _, k3⟩ := hk j ch hj
    have hi : ids[j]? = some ids[j] := List.getElem?_eq_getElem k1
    obtain ⟨ch1, ch0, e1, e2, e3⟩ := hcov j _ hi
    rw [hj] at e1; cases e1
    have hh := e3.holds (h1.mem _ ch0 e2)
    have hιj : ι j = ids[j] := by simp [ι, hi]
    rw [← hιj] at hh
    refine Holds.unren (ρ := ι) k3 (fun k => ?_) hh
    rw [hown, hιj]
    constructor
    · rintro ⟨i, f1, f2⟩; rw [hi] at f1; cases f1; exact f2
    · intro f; exact ⟨_, hi, f⟩
  have habs : Holds β ow' w c (.abs (packP M inv)) := by
    obtain ⟨chr, hr1, hr2⟩ := hroot
    have hr := h1.mem c chr hr1
    cases chr with
    | cells e cs =>
      obtain ⟨r0, r1, _⟩ := hr
      refine ⟨r0, r1, hinv, fun j ch hj => (hk j ch hj).2.2, fun i => β (ι i), owl, ?_, by simp [ι, hc], by simp [ι, hc, r1], by simp [ι, hc, r0], ?_, hO, hinner⟩
      · intro k hk'
        refine h1.wf k (fun e => hk' ?_)
        simp [owl, e]
      · intro k j hj
        obtain ⟨i, e1, _⟩ := (hown k j).1 hj
        obtain ⟨ch, ch0, f1, _⟩ := hcov j i e1
        exact ⟨ch, f1⟩
    | _ => cases hr2
  refine ⟨β, ow', ⟨h1.defers, h1.size, h1.slots, fun c' ch hc' => ?_, fun k hk' => ?_⟩, ⟨h2.slots, fun c' ch hc' => ?_⟩, ⟨h3.os, h3.tape, h3.output, h3.size, fun k hk1 hk2 => ?_, h3.beta⟩, h4, fun k i hi => ?_⟩
  · simp only [St.shut, Mem.get, nbeq, Mem.get_dels] at hc'
    by_cases hcc : c = c'
    · subst hcc
      simp only [decide_true, cond_true, Option.some.injEq] at hc'
      subst hc'
      exact habs
    · simp only [hcc, decide_false, cond_false] at hc'
      split at hc'
      · cases hc'
      · rename_i hni
        refine Holds.keep (p := fun _ => true) ?_ (fun _ _ => rfl) rfl (fun _ k => ?_) (fun _ k hn => ?_) (h1.mem c' ch hc')
        · exact Chunk.ok_mono (fun _ _ => rfl) (h2.mem c' ch hc').2
        · simp only [ow']
          cases hl : owl k with
          | some j =>
            obtain ⟨i, e1, e2⟩ := (hown k j).1 hl
            simp only [e2, Option.some.injEq]
            constructor
            · intro e; exact absurd e hcc
            · intro e; exact absurd (e ▸ List.mem_of_getElem? e1) hni
          | none => exact Iff.rfl
        · simp only [ow', owl, hn, Option.bind_none]
  · simp only [ow'] at hk'
    refine h1.wf k (fun e => hk' ?_)
    simp [owl, e]
  · simp only [St.shut, Mem.get, nbeq, Mem.get_dels] at hc'
    by_cases hcc : c = c'
    · subst hcc
      simp only [decide_true, cond_true, Option.some.injEq] at hc'
      subst hc'
      exact ⟨by simpa [St.shut] using hcn, rfl⟩
    · simp only [hcc, decide_false, cond_false] at hc'
      split at hc'
      · cases hc'
      · exact h2.mem c' ch hc'
  · obtain ⟨e1, e2⟩ := h3.keep k hk1 hk2
    exact ⟨e1, by simp only [ow', owl, e2, Option.bind_none]⟩
  · simp only [ow'] at hi
    cases hl : owl k with
    | some j => simp only [hl, Option.some.injEq] at hi; rw [← hi]; simpa [St.shut] using hcn
    | none => simp only [hl] at hi; exact h5 k i hi

/-- A nil slice among an object's cells is a row of no elements. -/
def St.nilc (S : St) (c : Nat) (e : TypeId) (cs : List SV) (j : Nat) (e' sz : Nat) : St := ⟨S.slots, (c, .cells e (cs.set j (.slc S.nx sz 0 0))) :: (S.nx, .vec e' sz 0 fun _ => []) :: S.mem.del c, S.nx + 1⟩

theorem Rels.set {β : Nat → Loc} : ∀ {ss : List SV} {vs : List Value} (j : Nat) (s : SV) (v : Value), Rels β ss vs → vs[j]? = some v → s.rel β v → Rels β (ss.set j s) vs
  | [], vs, j, s, v, h, hv, _ => by cases h; simp at hv
  | x :: r, vs, 0, s, v, h, hv, hs => by
    obtain ⟨y, r', rfl, h1, h2⟩ := h
    simp only [List.getElem?_cons_zero, Option.some.injEq] at hv
    subst hv
    exact ⟨y, r', rfl, hs, h2⟩
  | x :: r, vs, j + 1, s, v, h, hv, hs => by
    obtain ⟨y, r', rfl, h1, h2⟩ := h
    exact ⟨y, r', rfl, h1, Rels.set j s v h2 (by simpa using hv) hs⟩

theorem Ent.nilc {C : Ctx} {S : St} {c : Nat} {e : TypeId} {cs : List SV} {j : Nat} (hc : S.mem.get c = some (.cells e cs)) (hj : cs[j]? = some (.raw (.slice none 0 0))) (e' sz : Nat) : Ent C S (S.nilc c e cs j e' sz) := by
  rintro a w ⟨β, ow, h1, h2, h3, h4, h5⟩
  let β' := setβ β S.nx ⟨0, 0, 0, true, fun _ => 0⟩
  have hold : ∀ i, Nat.blt i S.nx = true → β' i = β i := fun i hi => by
    have : i ≠ S.nx := by have : i < S.nx := by simpa using hi
                          omega
    simp [β', setβ, this]
  have hcn := (h2.mem c _ hc).1
  refine ⟨β', ow, ⟨h1.defers, h1.size, fun t X hX => XV.rel_congr hold (h2.slots t X hX) (h1.slots t X hX), fun c' ch hc' => ?_, h1.wf⟩, ⟨fun t X hX => XV.ok_mono (fun i hi => by simp only [Nat.blt_eq, St.nilc] at hi ⊢; omega) (h2.slots t X hX), fun c' ch hc' => ?_⟩,
    ⟨h3.os, h3.tape, h3.output, h3.size, h3.keep, fun i hi => by rw [hold i (by simp only [Nat.blt_eq]; omega)]; exact h3.beta i hi⟩, by simp only [St.nilc]; omega, h5.mono (fun i hi => by simp only [Nat.blt_eq, St.nilc] at hi ⊢; omega)⟩
  · simp only [St.nilc, Mem.get, nbeq, Mem.get_del] at hc'
    by_cases hcc : c = c'
    · subst hcc
      simp only [decide_true, cond_true, Option.some.injEq] at hc'
      subst hc'
      obtain ⟨g0, g1, g2, arr, g3, g4⟩ := h1.mem c _ hc
      have e0 : β' c = β c := hold c hcn
      obtain ⟨v, f1, f2⟩ := g4.get j _ hj
      refine ⟨by rw [e0]; exact g0, by rw [e0]; exact g1, by rw [e0]; exact g2, arr, by rw [e0]; exact g3, ?_⟩
      refine Rels.set j _ v (Rels.congr hold (h2.mem c _ hc).2 g4) f1 ?_
      simp only [SV.rel] at f2
      subst f2
      simp [SV.rel, β', setβ]
    · simp only [hcc, decide_false, cond_false] at hc'
      by_cases hn : S.nx = c'
      · subst hn
        simp only [decide_true, cond_true, Option.some.injEq] at hc'
        subst hc'
        simp [Holds, β', setβ]
      · simp only [hn, decide_false, cond_false] at hc'
        split at hc'
        · cases hc'
        · obtain ⟨k1, k2⟩ := h2.mem c' ch hc'
          exact Holds.keep k2 hold (hold c' k1) (fun _ _ => Iff.rfl) (fun _ _ h => h) (h1.mem c' ch hc')
  · simp only [St.nilc, Mem.get, nbeq, Mem.get_del] at hc' ⊢
    by_cases hcc : c = c'
    · subst hcc
      simp only [decide_true, cond_true, Option.some.injEq] at hc'
      subst hc'
      refine ⟨by simp only [Nat.blt_eq] at hcn ⊢; omega, ?_⟩
      simp only [Chunk.ok, List.all_eq_true]
      intro s hs
      rcases List.mem_or_eq_of_mem_set hs with h | h
      · exact SV.ok_mono (fun i hi => by simp only [Nat.blt_eq] at hi ⊢; omega) (List.all_eq_true.1 (h2.mem c _ hc).2 s h)
      · subst h; simp [SV.ok]
    · simp only [hcc, decide_false, cond_false] at hc'
      by_cases hn : S.nx = c'
      · subst hn
        simp only [decide_true, cond_true, Option.some.injEq] at hc'
        subst hc'
        exact ⟨by simp, rfl⟩
      · simp only [hn, decide_false, cond_false] at hc'
        split at hc'
        · cases hc'
        · obtain ⟨k1, k2⟩ := h2.mem c' ch hc'
          exact ⟨by simp only [Nat.blt_eq] at k1 ⊢; omega, Chunk.ok_mono (fun i hi => by simp only [Nat.blt_eq] at hi ⊢; omega) k2⟩
end Go.Sx
