/- Symbolic states for walks, part N: the shapes of contracts that are used most. -/
import Derived.Test.YtfdmlpdhngmbiaaSxM
namespace Go.Sx
open Go.RowKit

theorem SV.ren_closed {ρ : Nat → Nat} {s : SV} (h : s.ok (fun _ => false) = true) : s.ren ρ = s := by cases s <;> first | rfl | cases h
theorem SVs.ren_closed {ρ : Nat → Nat} : ∀ {l : List SV}, l.all (SV.ok fun _ => false) = true → l.map (SV.ren ρ) = l
  | [], _ => rfl
  | s :: r, h => by
    simp only [List.all_cons, Bool.and_eq_true] at h
    rw [List.map_cons, SV.ren_closed h.1, SVs.ren_closed h.2]
theorem CV.ren_closed {ρ : Nat → Nat} {s : CV} (h : s.ok (fun _ => false) = true) : s.ren ρ = s := by
  cases s with
  | one s => simp only [CV.ren, SV.ren_closed h]
  | agg cs => simp only [CV.ren, SVs.ren_closed h]
theorem CVs.ren_closed {ρ : Nat → Nat} : ∀ {l : List CV}, l.all (CV.ok fun _ => false) = true → l.map (CV.ren ρ) = l
  | [], _ => rfl
  | s :: r, h => by
    simp only [List.all_cons, Bool.and_eq_true] at h
    rw [List.map_cons, CV.ren_closed h.1, CVs.ren_closed h.2]
theorem XV.ren_closed {ρ : Nat → Nat} {s : XV} (h : s.ok (fun _ => false) = true) : s.ren ρ = s := by
  cases s with
  | cv s => simp only [XV.ren, CV.ren_closed h]
  | tup l => simp only [XV.ren, CVs.ren_closed h]

/-- A function of plain values. -/
theorem spec_pure {P : Program} {T : TyTab} {f : FuncId} {fn : Func} {c : Code} (hm : P.follows .mixedOrders = true) (hT : TabOK P T) (hf : P.funcs[f]? = some fn) (hb : fn.body = some c) (Xl : List CV) (X : XV)
    (hXl : Xl.all (CV.ok fun _ => false) = true) (hX : X.ok (fun _ => false) = true)
    (h : ∀ C : Ctx, C.n0 = 0 → wpT P C (Ends C T fn.results.toList 0 0 ⟨X, [], none⟩) (evalC (stepOp T) c ⟨slots0 fn.ntmps (Xl.map .cv), [], 0⟩ Tree.done)) (M : Mem) (d : Nat) : CallSpec P f Xl M d { v := X } [] := by
  refine spec_of_text (ids := []) (rids := []) hT hf hb (by simp) rfl rfl (by simp) ?_ (fun i ch h => by simp [Mem.get] at h) (fun i ch h => by simp [Mem.get] at h) (fun i ch h => by cases h) ?_ (fun C hC => Tri.of hm hT (h C hC)) (CVs.ren_closed hXl).symm (XV.ren_closed hX).symm rfl (fun c ch h => by simp [Mem.get] at h)
  · simp only [List.all_eq_true] at hXl ⊢
    exact fun s hs => CV.ok_mono (fun _ h => by cases h) (hXl s hs)
  · exact XV.ok_mono (fun _ h => by cases h) hX

theorem Ends.plain {C : Ctx} {T : TyTab} {rs : List ResultVar} {n0 : Nat} {X v : XV} {S : St} {e : Exit} (he : e = .normal ∨ e = .ret) (hr : resX T S rs = some v) (hv : v = X) : Ends C T rs 0 n0 ⟨X, [], none⟩ e S :=
  ⟨he, S, Ent.refl S, by rw [hr, hv], fun i ch h => by simp [Mem.get] at h, fun i ch h => by cases h⟩

/-! ### objects: pieces that belong together -/
def Chunk.isCells : Chunk → Bool
  | .cells _ _ => true
  | _ => false
def Chunk.ren (ρ : Nat → Nat) : Chunk → Chunk
  | .cells e cs => .cells e (cs.map (SV.ren ρ))
  | ch => ch
def Mem.ren (ρ : Nat → Nat) : Mem → Mem
  | [] => []
  | (c, ch) :: r => (ρ c, ch.ren ρ) :: Mem.ren ρ r

/-- One piece says all that another one says. -/
def ChLe : Chunk → Chunk → Prop
  | .cells e cs, .cells e' cs' => e = e' ∧ cs = cs'
  | .vec e sz n f, .vec e' sz' n' f' => e = e' ∧ sz = sz' ∧ n' ≤ n ∧ ∀ i, i < n' → f i = f' i
  | .abs A, .abs A' => A = A'
  | _, _ => False
theorem ChLe.holds {a b : Chunk} (h : ChLe a b) {β : Nat → Loc} {ow : Nat → Option Nat} {w : World} {c : Nat} (H : Holds β ow w c a) : Holds β ow w c b := by
  cases a <;> cases b <;> simp only [ChLe] at h
  · obtain ⟨rfl, rfl⟩ := h; exact H
  · obtain ⟨rfl, rfl, hle, hf⟩ := h
    simp only [Holds] at H ⊢
    by_cases hn : (β c).nil = true
    · rw [if_pos hn] at H ⊢; omega
    · rw [if_neg hn] at H ⊢
      obtain ⟨h1, h2, h3, h4, arr, h5, h6, h7⟩ := H
      exact ⟨h1, h2, Nat.le_trans hle h3, h4, arr, h5, h6, fun i hi => by rw [← hf i hi]; exact h7 i (Nat.lt_of_lt_of_le hi hle)⟩
  · subst h; exact H
theorem ChLe.refl : ∀ (a : Chunk), a.isRo = false → ChLe a a
  | .cells _ _, _ => ⟨rfl, rfl⟩
  | .vec _ _ _ _, _ => ⟨rfl, rfl, Nat.le_refl _, fun _ _ => rfl⟩
  | .abs _, _ => rfl

/-- A piece under other numbers, in other hands. -/
theorem Holds.trans {β β' : Nat → Loc} {ow ow' : Nat → Option Nat} {w w' : World} {c c' : Nat} {ρ : Nat → Nat} {ch : Chunk} {p : Nat → Bool} (hp : ch.ok p = true) (hβ : ∀ i, p i = true → β' (ρ i) = β i) (hblk : (β' c').blk = (β c).blk) (hbase : (β' c').base = (β c).base) (hnil : (β' c').nil = (β c).nil)
    (hcap : ((β' c').cap = (β c).cap ∧ (β' c').sub = (β c).sub) ∨ ch.isCells = true) (hro : ch.isRo = false) (ho : ∀ k, ow' k = some c' ↔ ow k = some c) (hh : ∀ k, ow k = some c → w'.heap[k]? = w.heap[k]?) (h : Holds β ow w c ch) : Holds β' ow' w' c' (ch.ren ρ) := by
  cases ch with
  | cells e cs =>
    obtain ⟨h0, h1, h2, arr, h3, h4⟩ := h
    refine ⟨by rw [hnil]; exact h0, by rw [hbase]; exact h1, by rw [hblk]; exact (ho _).2 h2, arr, by rw [hblk, hh _ h2]; exact h3, ?_⟩
    rw [Rels.ren]
    exact Rels.congr (p := p) hβ hp h4
  | vec e sz n f =>
    have hcap : (β' c').cap = (β c).cap := by rcases hcap with h | h; exact h.1; cases h
    simp only [Chunk.ren, Holds] at h ⊢
    rw [hnil, hblk, hbase, hcap]
    by_cases hn' : (β c).nil = true
    · rw [if_pos hn'] at h ⊢; exact h
    · rw [if_neg hn'] at h ⊢
      obtain ⟨h1, h2, h3, h4, arr, h5, h6⟩ := h
      exact ⟨h1, (ho _).2 h2, h3, h4, arr, by rw [hh _ h2]; exact h5, h6⟩
  | ro sz n f => cases hro
  | abs A =>
    obtain ⟨h0, h1, h2⟩ := h
    have hsub : subs (β' c') = subs (β c) := by
      rcases hcap with h | h
      · funext j
        cases j
        · exact h.1
        · simp only [subs, h.2]
      · cases h
    refine ⟨by rw [hnil]; exact h0, by rw [hbase]; exact h1, ?_⟩
    rw [hblk, hsub]
    exact A.loc (fun k hk => hh k hk) (fun k => ho k) h2

end Go.Sx
