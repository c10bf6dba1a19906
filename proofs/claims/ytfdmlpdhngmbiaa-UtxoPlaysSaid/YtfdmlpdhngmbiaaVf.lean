/- The contract of (*utxo.Set).Points. -/
import Derived.Test.YtfdmlpdhngmbiaaVe
import Derived.Test.YtfdmlpdhngmbiaaSxZ
namespace Go.Proofs.Ytfdmlpdhngmbiaa
open Go.Sx

theorem flatPt_as (l : List Pt) (n : Nat) (hn : l.length = n) : FlatAs 9 n (fun i => (l.getD i default).cells) (flatPt l) := by
  intro i hi
  refine ⟨rfl, fun j v hj => ?_⟩
  have hjl : j < 9 := by have := (List.getElem?_eq_some_iff.1 hj).1; simpa [Pt.cells] using this
  rw [flatPt_get l i j hjl]
  have hil : i < l.length := by omega
  dsimp only at hj
  rw [List.getD_eq_getElem?_getD] at hj
  rw [List.getElem?_eq_getElem hil] at hj ⊢
  exact hj

/-- What lies in a set's first block, and the map that it leads to. -/
theorem USet.at {β : Nat → Sx.Loc} {ow : Nat → Option Nat} {w : World} {c : Nat} {S : USet} (h : Holds β ow w c (.abs (usetP S))) : (β c).base = 0 ∧ ∃ b es clock, w.cell? ⟨(β c).blk, 0, none⟩ = some (.map (some b)) ∧ w.heap[b]? = some (.map es clock) ∧ MapKept.Stamped es clock ∧
    es.toList.map (fun e => (e.key, e.val)) = S.coins.map fun x => (x.1.v, x.2.v) := by
  obtain ⟨_, hb, _, _, β', ow', hw, e1, e2, e3, _, _, hall⟩ := h
  have h0 := hall 0 _ rfl
  have h1 := hall 1 _ rfl
  obtain ⟨_, _, _, arr, ha, hrel⟩ := h0
  obtain ⟨_, _, _, es, clock, hm, hs, hl⟩ := h1
  refine ⟨hb, (β' 1).blk, es, clock, ?_, hm, hs, hl⟩
  obtain ⟨v, r, hv, hv1, _⟩ := hrel
  simp only [SV.rel] at hv1
  subst hv1
  rw [← e1]
  simp only [World.cell?, ha]
  have : arr.toList[0]? = some (.map (some (β' 1).blk)) := by rw [hv]; rfl
  simpa using this

def USet.points (S : USet) : List Pt := sortPts (S.coins.map (·.1))
theorem USet.points_len (S : USet) : S.points.length = S.coins.length := by rw [USet.points, (sortPts_perm _).length_eq]; simp

theorem points_spec (S : USet) (hN : S.coins.length * 16 ≤ 140737488355328) {M : Mem} {c0 d : Nat} (hM : M.get c0 = some (.abs (usetP S))) :
    CallSpec Try.prog 21 [.one (.ptr c0 0 0 0)] M d { v := XV.sv (.slc d 9 0 S.coins.length), upd := [(d, .vec 36 9 S.coins.length fun i => (S.points.getD i default).cells)] } [c0] := by
  refine row_spec fun β ow w vs hw hvs hr => ?_
  have h := hr c0 (by simp) _ hM
  obtain ⟨hb, b, es, clock, h1, h2, h3, h4⟩ := USet.at h
  obtain ⟨v, r, rfl, hv, rfl⟩ := hvs
  simp only [CV.rel, SV.rel, Sx.Loc.addr, hb] at hv
  subst hv
  refine (points_calls (β c0).blk b es clock h3 S.coins h4 hN w h1 h2).mono ?_
  rintro e w' ⟨v, rfl, hrow, _, hbe⟩
  exact ⟨v, _, rfl, hrow, flatPt_as S.points _ S.points_len, hbe⟩
end Go.Proofs.Ytfdmlpdhngmbiaa
