/- Parts SxZi SxZt SxZy SxZj SxZk SxZl SxZm SxZv SxZw. -/
import Derived.Test.YtdeodhahkjgfiaaDoorG07
import Derived.Sort.Grow
import Derived.Lib.SlBytesConst
set_option linter.unusedSimpArgs false
set_option linter.unusedVariables false
namespace Go.Sx
open Go.RowKit
def AC.at (w : World) (O : Nat → Prop) : AC → Option Addr × Nat → Value → Prop
  | .raw u, _, v => v = u
  | .row sz n f, p, v => v = .slice p.1 n p.2 ∧ ((p = (none, 0) ∧ n = 0) ∨ ∃ a b off, p.1 = some a ∧ n ≤ p.2 ∧ (0 < p.2 → a = ⟨b, off, none⟩) ∧ O b ∧ ∀ k, k < n → (f k).length = sz ∧ ∀ j u, (f k)[j]? = some u → w.cell? ⟨b, off + (k * sz + j), none⟩ = some u)
theorem AC.at_mono {w w' : World} {O O' : Nat → Prop} (hO : ∀ k, O k → O' k) (hk : ∀ k, O k → w'.heap[k]? = w.heap[k]?) {x : AC} {p : Option Addr × Nat} {v : Value} (h : x.at w O p v) : x.at w' O' p v := by
  cases x with
  | raw u => exact h
  | row sz n f =>
    obtain ⟨h1, h2⟩ := h
    refine ⟨h1, h2.imp id ?_⟩
    rintro ⟨a, b, off, e1, e2, e3, e4, e5⟩
    refine ⟨a, b, off, e1, e2, e3, hO _ e4, fun k hkn => ⟨(e5 k hkn).1, fun j u hj => ?_⟩⟩
    rw [World.cell?_of_block (w := w) (hk _ e4)]
    exact (e5 k hkn).2 j u hj
def fillA : Nat → List AC → (Nat → Option Addr × Nat) → List Value
  | _, [], _ => []
  | j, .raw u :: r, g => u :: fillA (j + 1) r g
  | j, .row _ n _ :: r, g => .slice (g j).1 n (g j).2 :: fillA (j + 1) r g
theorem fillA_length : ∀ (l : List AC) (j : Nat) (g : Nat → Option Addr × Nat), (fillA j l g).length = l.length
  | [], _, _ => rfl
  | .raw _ :: r, j, g => by simp [fillA, fillA_length r]
  | .row _ _ _ :: r, j, g => by simp [fillA, fillA_length r]
theorem fillA_at {w : World} {O : Nat → Prop} : ∀ (l : List AC) (j0 : Nat) (g : Nat → Option Addr × Nat) (j : Nat) (x : AC) (v : Value), l[j]? = some x → x.at w O (g (j0 + j)) v → (fillA j0 l g)[j]? = some v
  | [], _, _, _, _, _, h, _ => by simp at h
  | y :: r, j0, g, 0, x, v, h, hx => by
    simp only [List.getElem?_cons_zero, Option.some.injEq] at h
    subst h
    cases y with
    | raw u => simp only [AC.at] at hx; simp [fillA, hx]
    | row sz n f => obtain ⟨h1, _⟩ := hx; simp [fillA, h1]
  | y :: r, j0, g, j + 1, x, v, h, hx => by
    have h' : r[j]? = some x := by simpa using h
    have := fillA_at r (j0 + 1) g j x v h' (by rw [show j0 + 1 + j = j0 + (j + 1) by omega]; exact hx)
    cases y <;> simpa [fillA] using this
theorem fillA_get : ∀ (l : List AC) (j0 : Nat) (g : Nat → Option Addr × Nat) (j : Nat) (v : Value), (fillA j0 l g)[j]? = some v → ∃ x, l[j]? = some x ∧ (∀ u, x = .raw u → v = u) ∧ ∀ sz n f, x = .row sz n f → v = .slice (g (j0 + j)).1 n (g (j0 + j)).2
  | [], _, _, _, _, h => by simp [fillA] at h
  | y :: r, j0, g, 0, v, h => by
    refine ⟨y, rfl, fun u e => ?_, fun sz n f e => ?_⟩
    · subst e; simpa [fillA] using h.symm
    · subst e; simpa [fillA] using h.symm
  | y :: r, j0, g, j + 1, v, h => by
    have h' : (fillA (j0 + 1) r g)[j]? = some v := by cases y <;> simpa [fillA] using h
    obtain ⟨x, h1, h2, h3⟩ := fillA_get r (j0 + 1) g j v h'
    refine ⟨x, by simpa using h1, h2, fun sz n f e => ?_⟩
    have := h3 sz n f e
    rwa [show j0 + 1 + j = j0 + (j + 1) by omega] at this
def DeepP (e sz n : Nat) (F : Nat → List AC) : AbsP where
  Φ w b s O := O b ∧ n ≤ s 0 ∧ s 0 ≤ maxLen ∧ (∀ k, O k → k < w.heap.size) ∧ ∃ arr : Array Value, w.heap[b]? = some (.cells arr e (0, 0)) ∧ arr.size = s 0 * sz ∧
    ∀ i, i < n → (F i).length = sz ∧ ∀ j x, (F i)[j]? = some x → ∃ p v, arr[i * sz + j]? = some v ∧ x.at w (fun k => O k ∧ k ≠ b) p v
  loc := by
    rintro w w' b s O O' hk hO ⟨h1, h2, h3, h4, arr, h5, h6, h7⟩
    refine ⟨(hO b).2 h1, h2, h3, fun k hk' => ?_, arr, by rw [hk b h1]; exact h5, h6, fun i hi => ⟨(h7 i hi).1, fun j x hx => ?_⟩⟩
    · have hk1 := (hO k).1 hk'
      have e := hk k hk1
      rw [Array.getElem?_eq_getElem (h4 k hk1)] at e
      exact (Array.getElem?_eq_some_iff.1 e).1
    · obtain ⟨p, v, e1, e2⟩ := (h7 i hi).2 j x hx
      exact ⟨p, v, e1, AC.at_mono (x := x) (p := p) (v := v) (fun k hk' => ⟨(hO k).2 hk'.1, hk'.2⟩) (fun k hk' => hk k hk'.1) e2⟩
  in_heap := by
    rintro w b s O ⟨_, _, _, h4, _⟩
    exact h4
def PartsO (n : Nat) (F : Nat → List AC) (ad : Nat → Nat → Option Addr × Nat) : AbsP where
  Φ w _ _ O := (∀ k, O k → k < w.heap.size) ∧ ∀ i, i < n → ∀ j x, (F i)[j]? = some x → ∃ v, AC.at w O x (ad i j) v
  loc := by
    rintro w w' b s O O' hk hO ⟨h4, h5⟩
    refine ⟨fun k hk' => ?_, fun i hi j x hx => ?_⟩
    · have hk1 := (hO k).1 hk'
      have e := hk k hk1
      rw [Array.getElem?_eq_getElem (h4 k hk1)] at e
      exact (Array.getElem?_eq_some_iff.1 e).1
    · obtain ⟨v, e2⟩ := h5 i hi j x hx
      exact ⟨v, AC.at_mono (x := x) (p := ad i j) (v := v) (fun k hk' => (hO k).2 hk') hk e2⟩
  in_heap := by
    rintro w b s O ⟨h4, _⟩
    exact h4
theorem Tri.openDeep {P : Program} {C : Ctx} {cd : Code} {S : St} {Q : Exit → St → Prop} {c e sz n : Nat} {F : Nat → List AC} (hc : S.mem.get c = some (.abs (DeepP e sz n F)))
    (h : ∀ ad : Nat → Nat → Option Addr × Nat, Tri P C cd ⟨S.slots, (c, .vec e sz n fun i => fillA 0 (F i) (ad i)) :: (S.nx, .abs (PartsO n F ad)) :: S.mem.del c, S.nx + 1⟩ Q) : Tri P C cd S Q := by
  intro a w hs
  obtain ⟨β, ow, g1, g2, g3, g4, g5⟩ := hs
  obtain ⟨k0, k1, m1, m2, m3, m4, arr, m5, m6, m7⟩ := g1.mem c _ hc
  have hcn : c < S.nx := by simpa using (g2.mem c _ hc).1
  have hch : ∀ ij : Nat × Nat, ∃ p : Option Addr × Nat, ij.1 < n → ∀ x, (F ij.1)[ij.2]? = some x → ∃ v, arr[ij.1 * sz + ij.2]? = some v ∧ x.at w (fun k => ow k = some c ∧ k ≠ (β c).blk) p v := by
    rintro ⟨i, j⟩
    by_cases hi : i < n
    · cases hx : (F i)[j]? with
      | none => exact ⟨(none, 0), fun _ x hx' => by cases hx'⟩
      | some x =>
        obtain ⟨p, v, e1, e2⟩ := (m7 i hi).2 j x hx
        exact ⟨p, fun _ x' hx' => by cases hx'; exact ⟨v, e1, e2⟩⟩
    · exact ⟨(none, 0), fun h => absurd h hi⟩
  obtain ⟨ad0, had⟩ := Classical.axiomOfChoice hch
  let ad : Nat → Nat → Option Addr × Nat := fun i j => ad0 (i, j)
  have had' : ∀ i, i < n → ∀ j x, (F i)[j]? = some x → ∃ v, arr[i * sz + j]? = some v ∧ x.at w (fun k => ow k = some c ∧ k ≠ (β c).blk) (ad i j) v := fun i hi j x hx => had (i, j) hi x hx
  have hnone : ∀ k, ow k ≠ some S.nx := fun k e => by
    have := g5 k S.nx e
    simp only [Nat.blt_eq] at this
    omega
  let ow' : Nat → Option Nat := fun k => if ow k = some c ∧ k ≠ (β c).blk then some S.nx else ow k
  let β' : Nat → Loc := fun x => if x = S.nx then ⟨0, 0, 0, false, fun _ => 0⟩ else β x
  have hβ : ∀ x, Nat.blt x S.nx = true → β' x = β x := fun x hx => by
    simp only [Nat.blt_eq] at hx
    simp only [β']; rw [if_neg (by omega)]
  have howc : ∀ k, ow' k = some c ↔ k = (β c).blk := by
    intro k
    simp only [ow']
    split
    · rename_i h1
      simp only [Option.some.injEq]
      exact ⟨fun e => by omega, fun e => absurd e h1.2⟩
    · rename_i h1
      refine ⟨fun e => ?_, fun e => by rw [e]; exact m1⟩
      by_cases h2 : k = (β c).blk
      · exact h2
      · exact absurd ⟨e, h2⟩ h1
  have hown : ∀ k, ow' k = some S.nx ↔ (ow k = some c ∧ k ≠ (β c).blk) := by
    intro k
    simp only [ow']
    split
    · rename_i h1; exact ⟨fun _ => h1, fun _ => rfl⟩
    · rename_i h1; exact ⟨fun e => absurd e (hnone k), fun e => absurd e h1⟩
  have hother : ∀ x k, x ≠ c → x ≠ S.nx → (ow' k = some x ↔ ow k = some x) := by
    intro x k e1 e2
    simp only [ow']
    split
    · rename_i h1
      rw [h1.1]
      simp only [Option.some.injEq]
      exact ⟨fun e => absurd e.symm e2, fun e => absurd e.symm e1⟩
    · exact Iff.rfl
  have up : ∀ i, Nat.blt i S.nx = true → Nat.blt i (S.nx + 1) = true := fun i hi => by simp only [Nat.blt_eq] at hi ⊢; omega
  refine h ad a w ⟨β', ow', ⟨g1.defers, g1.size, fun t X hX => XV.rel_congr hβ (g2.slots t X hX) (g1.slots t X hX), fun c' ch hc' => ?_, fun k hk => ?_⟩, ⟨fun t X hX => XV.ok_mono up (g2.slots t X hX), fun c' ch hc' => ?_⟩, ⟨g3.os, g3.tape, g3.output, g3.size, fun k e1 e2 => ?_, fun x hx => ?_⟩, Nat.le_succ_of_le g4, fun k c' hk => ?_⟩
  · simp only [Mem.get, nbeq] at hc'
    by_cases hcc : c = c'
    · subst hcc
      simp only [decide_true, cond_true, Option.some.injEq] at hc'
      subst hc'
      have e0 : β' c = β c := hβ c (by simpa using hcn)
      simp only [Holds]
      rw [e0, if_neg (by rw [k0]; decide)]
      refine ⟨k1, (howc _).2 rfl, m2, m3, arr, m5, m6, fun i hi => ⟨by rw [fillA_length]; exact (m7 i hi).1, fun j v hj => ?_⟩⟩
      obtain ⟨x, hx, _, _⟩ := fillA_get (F i) 0 (ad i) j v hj
      obtain ⟨v', e1, e2⟩ := had' i hi j x hx
      have e3 := fillA_at (w := w) (F i) 0 (ad i) j x v' hx (by rw [Nat.zero_add]; exact e2)
      rw [hj] at e3
      cases e3
      exact e1
    · simp only [hcc, decide_false, cond_false] at hc'
      by_cases hcn' : S.nx = c'
      · simp only [hcn', decide_true, cond_true, Option.some.injEq] at hc'
        subst hc'
        have e0 : β' c' = ⟨0, 0, 0, false, fun _ => 0⟩ := by simp only [β']; rw [if_pos hcn'.symm]
        simp only [Holds]
        rw [e0]
        refine ⟨rfl, rfl, fun k hk => ?_, fun i hi j x hx => ?_⟩
        · rw [← hcn'] at hk
          exact m4 k ((hown k).1 hk).1
        · obtain ⟨v, _, e2⟩ := had' i hi j x hx
          exact ⟨v, AC.at_mono (x := x) (p := ad i j) (v := v) (fun k hk => by rw [← hcn']; exact (hown k).2 hk) (fun _ _ => rfl) e2⟩
      · simp only [hcn', decide_false, cond_false, Mem.get_del] at hc'
        have hne : ¬ c' = c := fun e => hcc e.symm
        rw [if_neg hne] at hc'
        exact Holds.keep (g2.mem c' ch hc').2 hβ (hβ c' (g2.mem c' ch hc').1) (fun _ k => hother c' k hne (fun e => hcn' e.symm)) (fun _ k hn => by simp [ow', hn]) (g1.mem c' ch hc')
  · simp only [ow'] at hk
    split at hk
    · rename_i h1; exact m4 k h1.1
    · exact g1.wf k hk
  · simp only [Mem.get, nbeq] at hc'
    by_cases hcc : c = c'
    · subst hcc
      simp only [decide_true, cond_true, Option.some.injEq] at hc'
      subst hc'
      exact ⟨by simp only [Nat.blt_eq]; omega, rfl⟩
    · simp only [hcc, decide_false, cond_false] at hc'
      by_cases hcn' : S.nx = c'
      · simp only [hcn', decide_true, cond_true, Option.some.injEq] at hc'
        subst hc'
        exact ⟨by simp only [Nat.blt_eq]; omega, rfl⟩
      · simp only [hcn', decide_false, cond_false, Mem.get_del] at hc'
        have hne : ¬ c' = c := fun e => hcc e.symm
        rw [if_neg hne] at hc'
        obtain ⟨n1, n2⟩ := g2.mem c' ch hc'
        exact ⟨up _ n1, Chunk.ok_mono up n2⟩
  · obtain ⟨e3, e4⟩ := g3.keep k e1 e2
    exact ⟨e3, by simp [ow', e4]⟩
  · rw [hβ x (by simp only [Nat.blt_eq]; omega)]
    exact g3.beta x hx
  · simp only [ow'] at hk
    split at hk
    · cases hk; simp only [Nat.blt_eq]; omega
    · exact up _ (g5 k c' hk)
open Go.RowKit Go.ChangeShapes Go.WideShapes
def PartsE (n : Nat) (F : Nat → List AC) (ad : Nat → Nat → Option Addr × Nat) : ExtP where
  Ψ w _ O := ∀ i, i < n → ∀ j x, (F i)[j]? = some x → ∃ v, AC.at w O x (ad i j) v
  loc := by
    intro w w' L O hk h i hi j x hx
    obtain ⟨v, e⟩ := h i hi j x hx
    exact ⟨v, AC.at_mono (fun _ h => h) hk e⟩
theorem two_low {i c : Nat} {a b ch : Chunk} (ha : a.isRo = true) (hb : b.isRo = true) (h : Mem.get [(i, a), (i + 1, b)] c = some ch) : i ≤ c ∧ c < i + 2 ∧ ch.isRo = true := by
  simp only [Mem.get, nbeq] at h
  by_cases h1 : i = c
  · subst h1
    simp only [decide_true, cond_true, Option.some.injEq] at h
    subst h
    exact ⟨Nat.le_refl _, by omega, ha⟩
  · by_cases h2 : i + 1 = c
    · subst h2
      simp only [h1, decide_false, decide_true, cond_true, cond_false, Option.some.injEq] at h
      subst h
      exact ⟨by omega, by omega, hb⟩
    · simp [h1, h2] at h
def AD.deep (sz n : Nat) (F : Nat → List AC) (ad : Nat → Nat → Option Addr × Nat) : AD :=
  ⟨2, fun i => .one (.slc i sz 0 n), fun i => [(i, .ro sz n fun k => fillA 0 (F k) (ad k)), (i + 1, .ext (PartsE n F ad))], fun h => two_low rfl rfl h⟩
theorem lend_partE {M : Mem} {rd : List Nat} {q n i j sz k : Nat} {F : Nat → List AC} {ad : Nat → Nat → Option Addr × Nat} {f : Nat → List Value} (hm : M.get q = some (.ext (PartsE n F ad))) (hrd : nmem q rd = true) (hi : i < n) (hx : (F i)[j]? = some (.row sz k f)) : Lends M rd (.one (.raw (.slice (ad i j).1 k (ad i j).2))) (.row sz k f) := by
  refine Lends.row ?_
  intro β ow w v hw hv hr
  simp only [CV.rel, SV.rel] at hv
  obtain ⟨O, h4, h5⟩ := hr q ((nmem_iff q rd).1 hrd) _ hm
  obtain ⟨v', _, h2⟩ := h5 i hi j _ hx
  rcases h2 with ⟨e1, e2⟩ | ⟨a, b, off, e1, e2, e3, e4, e5⟩
  · refine ⟨⟨0, 0, 0, true, fun _ => 0⟩, ?_, ?_⟩
    · simp only [SV.rel, if_true]
      rw [hv, e1, e2]
      simp
    · simp [RoAt, e2]
  · refine ⟨⟨b, off, (ad i j).2, false, fun _ => 0⟩, ?_, ?_⟩
    · simp only [SV.rel, Bool.false_eq_true, if_false]
      refine ⟨a, by rw [hv, e1, Nat.sub_zero], by omega, fun h0 => ?_⟩
      rw [e3 h0]
      simp [Loc.addr]
    · simp only [RoAt, Bool.false_eq_true, if_false]
      refine ⟨⟨(h4 b e4).2, .inl (h4 b e4).1⟩, fun k' hk' => ⟨(e5 k' hk').1, fun j' u hj' => ?_⟩⟩
      exact (e5 k' hk').2 j' u hj'
section
variable {P : Program} {T : TyTab} {H : Type} {enc : TypeId × Value → H} {W : World}
theorem add_at {a : Addr} {n i : Nat} : (a.add n).add i = a.add (n + i) := by
  unfold Addr.add
  split <;> split <;> simp_all [Nat.add_assoc]
theorem cell_lt' {a : Addr} {v : Value} (h : W.cell? a = some v) : a.block < W.heap.size := by
  by_cases hb : a.block < W.heap.size
  · exact hb
  · have e : W.heap[a.block]? = none := Array.getElem?_eq_none (by omega)
    simp [World.cell?, e] at h
theorem slice_seen (hT : TabOK P T) {t e : TypeId} {td te : TyD} (ht : T t = some td) (hd : td.desc = .slice e) (he : T e = some te) (hsz : 0 < te.size) {fuel : Nat} {cs : List Value} {x : DataW H × List MemPlace}
    (hf : DataW.trod enc P W 0 (fun _ => true) true fuel t cs = some x) :
    cs = [.slice none 0 0] ∨ ∃ (a : Addr) (len cap : Nat), cs = [.slice (some a) len cap] ∧ len ≤ cap ∧ cap ≤ maxLen ∧ (0 < cap → a = ⟨a.block, a.off, none⟩ ∧ a.block < W.heap.size) ∧
      ∀ i, i < len → ∃ cs' n y, DataW.trod enc P W 0 (fun _ => true) true n e cs' = some y ∧ cs'.length = te.size ∧ ∀ j u, cs'[j]? = some u → W.cell? ⟨a.block, a.off + (i * te.size + j), none⟩ = some u := by
  have hu := under_slice hT ht hd
  have hc : P.cellsOf e = te.size := cellsOf_T hT he
  rcases Go.Deep.open_slice hu hf with ⟨h1, _⟩ | ⟨a, len, cap, m, n, D, Pl, h1, _, hle, hm, hmm, _, hx⟩
  · exact .inl h1
  · simp only [if_true] at hmm
    subst hmm
    have spot : 0 < m → a = ⟨a.block, a.off, none⟩ ∧ a.block < W.heap.size := fun h0 => by
      obtain ⟨cs', h2, _⟩ := hx 0 h0
      rw [hc] at h2
      obtain ⟨_, g2, g3⟩ := World.cells?_some h2
      have h4 := g3 0 hsz
      rw [List.getElem?_eq_getElem (by omega), Nat.zero_mul] at h4
      have e0 : (a.add 0).add 0 = a := by simp [Addr.add]
      rw [e0] at h4
      have h5 := World.cell?_spot h4
      exact ⟨by cases a; simp_all, cell_lt' h4⟩
    refine .inr ⟨a, len, m, h1, hle, hm, spot, fun i hi => ?_⟩
    obtain ⟨cs', h2, h3⟩ := hx i (by omega)
    rw [hc] at h2
    obtain ⟨_, g2, g3⟩ := World.cells?_some h2
    refine ⟨cs', n, _, h3, g2, fun j u hj => ?_⟩
    have hjl : j < te.size := by rw [← g2]; exact (List.getElem?_eq_some_iff.1 hj).1
    have h4 := g3 j hjl
    rw [hj, add_at] at h4
    have hs := (spot (by omega)).1
    have hadd : a.add (i * te.size + j) = ⟨a.block, a.off + (i * te.size + j), none⟩ := by
      unfold Addr.add
      split
      · rename_i h; rw [h, Nat.add_zero]; exact hs
      · rfl
    rw [hadd] at h4
    exact h4
theorem row_in_cell (hT : TabOK P T) {t e : TypeId} {td te : TyD} (ht : T t = some td) (hd : td.desc = .slice e) (he : T e = some te) (hsz : 0 < te.size) {f : Nat} {ks : List Kd} (hk : kindsT T f e = some ks) {fuel : Nat} {cs : List Value} {x : DataW H × List MemPlace}
    (hf : DataW.trod enc P W 0 (fun _ => true) true fuel t cs = some x) {b0 : Nat} (hb0 : b0 < W.heap.size) {E : Type} (cells : E → List Value) (dec : ∀ cs, Fits ks cs → ∃ x, cs = cells x) (dflt : E) :
    ∃ (l : List E) (p : Option Addr × Nat), l.length ≤ maxLen ∧ cs = [.slice p.1 l.length p.2] ∧ ∃ v, AC.at W (fun k => k < W.heap.size) (.row te.size l.length fun i => cells (l.getD i dflt)) p v := by
  rcases slice_seen hT ht hd he hsz hf with h1 | ⟨a, len, cap, h1, hle, hm, spot, hx⟩
  · exact ⟨[], (none, 0), Nat.zero_le _, h1, _, rfl, .inl ⟨rfl, rfl⟩⟩
  · have pick : ∀ k, k ≤ len → ∃ l : List E, l.length = k ∧ ∀ i, i < k → (cells (l.getD i dflt)).length = te.size ∧ ∀ j u, (cells (l.getD i dflt))[j]? = some u → W.cell? ⟨a.block, a.off + (i * te.size + j), none⟩ = some u := by
      intro k
      induction k with
      | zero => intro _; exact ⟨[], rfl, fun i hi => by omega⟩
      | succ k ih =>
        intro hk'
        obtain ⟨l, h2, h3⟩ := ih (by omega)
        obtain ⟨cs', n, y, h4, h5, h6⟩ := hx k (by omega)
        obtain ⟨z, rfl⟩ := dec cs' (trod_fits hT f e ks hk n cs' _ h4)
        refine ⟨l ++ [z], by simp [h2], fun i hi => ?_⟩
        by_cases hik : i < k
        · have e1 : (l ++ [z]).getD i dflt = l.getD i dflt := by simp [List.getD_eq_getElem?_getD, List.getElem?_append_left (show i < l.length by omega)]
          rw [e1]; exact h3 i hik
        · obtain rfl : i = k := by omega
          have e1 : (l ++ [z]).getD i dflt = z := by simp [List.getD_eq_getElem?_getD, ← h2]
          rw [e1]; exact ⟨h5, h6⟩
    obtain ⟨l, hl, hcell⟩ := pick len (Nat.le_refl _)
    refine ⟨l, (some a, cap), by rw [hl]; exact Nat.le_trans hle hm, by rw [hl]; exact h1, _, rfl, ?_⟩
    by_cases h0 : 0 < cap
    · obtain ⟨s1, s2⟩ := spot h0
      exact .inr ⟨a, a.block, a.off, rfl, by rw [hl]; exact hle, fun _ => s1, s2, fun k hk => by rw [hl] at hk; exact hcell k hk⟩
    · exact .inr ⟨a, b0, 0, rfl, by rw [hl]; exact hle, fun h => absurd h h0, hb0, fun k hk => by rw [hl] at hk; omega⟩
theorem open_deep (hT : TabOK P T) {t e : TypeId} {td te : TyD} (ht : T t = some td) (hd : td.desc = .slice e) (he : T e = some te) (hsz : 0 < te.size) {v : Value} {fuel : Nat} {x : DataW H × List MemPlace}
    (hf : DataW.trod enc P W 0 (fun _ => true) true fuel t [v] = some x) (hv : Cell.okWide P W .any 0 t v) {E : Type} (ac : E → List AC) (Q : E → Prop)
    (dec : ∀ n cs y, DataW.trod enc P W 0 (fun _ => true) true n e cs = some y → cs.length = te.size → ∀ b0, b0 < W.heap.size → ∃ (z : E) (g : Nat → Option Addr × Nat), Q z ∧ cs = fillA 0 (ac z) g ∧ ∀ j y, (ac z)[j]? = some y → ∃ v, AC.at W (fun k => k < W.heap.size) y (g j) v) (dflt : E) :
    ∃ (l : List E) (ad : Nat → Nat → Option Addr × Nat), l.length ≤ maxLen ∧ (∀ i, i < l.length → Q (l.getD i dflt)) ∧ Came W v (.deep te.size l.length (fun i => ac (l.getD i dflt)) ad) := by
  rcases slice_seen hT ht hd he hsz hf with h1 | ⟨a, len, cap, h1, hle, hm, spot, hx⟩
  · simp only [List.cons.injEq, and_true] at h1
    subst h1
    refine ⟨[], fun _ _ => (none, 0), Nat.zero_le _, fun i hi => absurd hi (Nat.not_lt_zero _), [⟨0, 0, 0, true, fun _ => 0⟩, default], rfl, fun i β0 hβ => ?_⟩
    have hb0 : β0 i = ⟨0, 0, 0, true, fun _ => 0⟩ := by simpa using hβ 0 _ rfl
    refine ⟨by simp [AD.deep, CV.rel, SV.rel, hb0], fun c ch hc => ?_⟩
    simp only [AD.deep, Mem.get, nbeq] at hc
    by_cases h1 : i = c
    · subst h1
      simp only [decide_true, cond_true, Option.some.injEq] at hc
      subst hc
      rw [hb0]
      simp [HoldsAt, RoAt]
    · by_cases h2 : i + 1 = c
      · subst h2
        simp only [h1, decide_false, decide_true, cond_true, cond_false, Option.some.injEq] at hc
        subst hc
        exact ⟨fun _ => False, fun _ h => h.elim, fun i hi => absurd hi (Nat.not_lt_zero _)⟩
      · simp [h1, h2] at hc
  · simp only [List.cons.injEq, and_true] at h1
    subst h1
    have pick : ∀ k, k ≤ len → ∃ (l : List E) (ad : Nat → Nat → Option Addr × Nat), l.length = k ∧ ∀ i, i < k → Q (l.getD i dflt) ∧ (fillA 0 (ac (l.getD i dflt)) (ad i)).length = te.size ∧ (∀ j u, (fillA 0 (ac (l.getD i dflt)) (ad i))[j]? = some u → W.cell? ⟨a.block, a.off + (i * te.size + j), none⟩ = some u) ∧ ∀ j y, (ac (l.getD i dflt))[j]? = some y → ∃ v, AC.at W (fun k => k < W.heap.size) y (ad i j) v := by
      intro k
      induction k with
      | zero => intro _; exact ⟨[], fun _ _ => (none, 0), rfl, fun i hi => by omega⟩
      | succ k ih =>
        intro hk'
        obtain ⟨l, ad, h2, h3⟩ := ih (by omega)
        obtain ⟨cs', n, y, h4, h5, h6⟩ := hx k (by omega)
        obtain ⟨z, g, q1, q2, q3⟩ := dec n cs' y h4 h5 a.block (spot (by omega)).2
        subst q2
        refine ⟨l ++ [z], fun i => if i = k then g else ad i, by simp [h2], fun i hi => ?_⟩
        by_cases hik : i < k
        · have e1 : (l ++ [z]).getD i dflt = l.getD i dflt := by simp [List.getD_eq_getElem?_getD, List.getElem?_append_left (show i < l.length by omega)]
          dsimp only
          rw [e1, if_neg (by omega)]; exact h3 i hik
        · obtain rfl : i = k := by omega
          have e1 : (l ++ [z]).getD i dflt = z := by simp [List.getD_eq_getElem?_getD, ← h2]
          dsimp only
          rw [e1, if_pos rfl]; exact ⟨q1, h5, h6, q3⟩
    obtain ⟨l, ad, hl, hcell⟩ := pick len (Nat.le_refl _)
    refine ⟨l, ad, by rw [hl]; exact Nat.le_trans hle hm, fun i hi => (hcell i (by omega)).1, ?_⟩
    have hu := under_slice hT ht hd
    have hsp : a.spot = none ∧ a.block < W.heap.size := by
      simp only [hu, Cell.okWide, Cell.ok] at hv
      obtain ⟨_, _, _, hs, row, cells', hsh, _⟩ := hv
      refine ⟨hs, ?_⟩
      unfold World.shape? at hsh
      split at hsh
      · rename_i hb
        exact (Array.getElem?_eq_some_iff.1 hb).1
      · cases hsh
    have s1 : a = ⟨a.block, a.off, none⟩ := by cases a; simp_all
    have s2 := hsp.2
    refine ⟨[⟨a.block, a.off, cap, false, fun _ => 0⟩, default], rfl, fun i β0 hβ => ?_⟩
    have hb0 : β0 i = ⟨a.block, a.off, cap, false, fun _ => 0⟩ := by simpa using hβ 0 _ rfl
    refine ⟨?_, fun c ch hc => ?_⟩
    · simp only [AD.deep, CV.rel, SV.rel, hb0, Bool.false_eq_true, if_false]
      exact ⟨a, by rw [hl, Nat.sub_zero], by omega, fun _ => by simp only [Loc.addr, Nat.zero_mul, Nat.add_zero]; exact s1⟩
    · simp only [AD.deep, Mem.get, nbeq] at hc
      by_cases h1 : i = c
      · subst h1
        simp only [decide_true, cond_true, Option.some.injEq] at hc
        subst hc
        rw [hb0]
        simp only [HoldsAt, RoAt, Bool.false_eq_true, if_false]
        exact ⟨⟨s2, trivial⟩, fun k hk => by rw [hl] at hk; exact ⟨(hcell k hk).2.1, (hcell k hk).2.2.1⟩⟩
      · by_cases h2 : i + 1 = c
        · subst h2
          simp only [h1, decide_false, decide_true, cond_true, cond_false, Option.some.injEq] at hc
          subst hc
          exact ⟨fun k => k < W.heap.size, fun k hk => ⟨hk, trivial⟩, fun k hk => by rw [hl] at hk; exact (hcell k hk).2.2.2⟩
        · simp [h1, h2] at hc
end
open Go.RowKit
theorem lend_deep {M : Mem} {rd : List Nat} {c q sz n lo k : Nat} {F G : Nat → List AC} {ad bd : Nat → Nat → Option Addr × Nat} (hm : M.get c = some (.ro sz n fun k => fillA 0 (F k) (ad k))) (hq : M.get q = some (.ext (PartsE n F ad))) (hrd : nmem c rd = true) (hrq : nmem q rd = true) (hk : lo + k ≤ n)
    (hG : ∀ i, i < k → G i = F (lo + i)) (hb : ∀ i, i < k → bd i = ad (lo + i)) : Lends M rd (.one (.slc c sz lo k)) (.deep sz k G bd) := by
  intro β ow w v hw hv hr
  obtain ⟨L, h1, h2⟩ := (lend_ro (k := k) (g := fun i => fillA 0 (G i) (bd i)) hm hrd hk (fun i hi => by rw [hG i hi, hb i hi])).at_row hw hv hr
  obtain ⟨O, h4, h5⟩ := hr q ((nmem_iff q rd).1 hrq) _ hq
  refine ⟨[L, default], rfl, fun i β0 hβ => ?_⟩
  have hb0 : β0 i = L := by simpa using hβ 0 L rfl
  refine ⟨by simp only [AD.deep, CV.rel, SV.rel] at h1 ⊢; rw [hb0]; exact h1, fun c' ch hc => ?_⟩
  simp only [AD.deep, Mem.get, nbeq] at hc
  by_cases e1 : i = c'
  · subst e1
    simp only [decide_true, cond_true, Option.some.injEq] at hc
    subst hc
    rw [hb0]
    exact h2
  · by_cases e2 : i + 1 = c'
    · subst e2
      simp only [e1, decide_false, decide_true, cond_true, cond_false, Option.some.injEq] at hc
      subst hc
      refine ⟨O, fun k hk => ⟨(h4 k hk).2, .inl (h4 k hk).1⟩, fun j hj m x hx => ?_⟩
      obtain ⟨v, e⟩ := h5 (lo + j) (by omega) m x (by rw [← hG j hj]; exact hx)
      exact ⟨v, by rw [hb j hj]; exact e⟩
    · simp [e1, e2] at hc
open Go.RowKit
def Backed (M : Mem) (qs : List Nat) (x : AC) (p : Option Addr × Nat) : Prop :=
  (∃ u, x = .raw u) ∨ (∃ sz f, x = .row sz 0 f ∧ p = (none, 0)) ∨ ∃ q n F ad i j, q ∈ qs ∧ M.get q = some (.abs (PartsO n F ad)) ∧ i < n ∧ (F i)[j]? = some x ∧ ad i j = p
theorem Backed.old {M : Mem} {qs : List Nat} {q n i j : Nat} {F : Nat → List AC} {ad : Nat → Nat → Option Addr × Nat} {x : AC} (hq : q ∈ qs) (hm : M.get q = some (.abs (PartsO n F ad))) (hi : i < n) (hx : (F i)[j]? = some x) : Backed M qs x (ad i j) := .inr (.inr ⟨q, n, F, ad, i, j, hq, hm, hi, hx, rfl⟩)
open Go.RowKit
def Boxed (p : Nat) (l : List Chunk) : List SV → List AC → Prop
  | [], [] => True
  | s :: r, .raw u :: g => s = .raw u ∧ Boxed p l r g
  | s :: r, .row sz k f :: g => ((s = .raw (.slice none 0 0) ∧ k = 0) ∨ ∃ j e n, s = .ins p l.length j k ∧ l[j]? = some (.vec e sz n f) ∧ k ≤ n ∧ n = k) ∧ Boxed p l r g
  | _, _ => False
theorem ins_at {β : Nat → Loc} {ow : Nat → Option Nat} {w : World} {p j k e sz n : Nat} {l : List Chunk} {f : Nat → List Value} (hp : Holds β ow w p (.abs (PackP l))) (hj : l[j]? = some (.vec e sz n f)) (hk : k ≤ n) {v : Value} (hv : (SV.ins p l.length j k).rel β v) :
    ∃ pr, AC.at w (fun b => ow b = some p) (.row sz k f) pr v := by
  obtain ⟨h0, h1, β0, ow0, k1, k2, k3, k4, k5, k6⟩ := hp
  have hjl : j < l.length := (List.getElem?_eq_some_iff.1 hj).1
  have hh := k6 j _ hj
  have hb := k3 j hjl
  have e0 : (Loc.mk (β p).blk 0 (subs (β p) 0) false fun j => subs (β p) (j + 1)).inner l.length j = (β p).inner l.length j := rfl
  rw [e0] at hb
  simp only [SV.rel] at hv
  simp only [Holds] at hh
  rw [hb] at hh
  by_cases hn : ((β p).inner l.length j).nil = true
  · rw [if_pos hn] at hv
    refine ⟨(none, 0), ?_, .inl ⟨rfl, hv.2⟩⟩
    rw [hv.1, hv.2]
  · rw [if_neg hn] at hv hh
    obtain ⟨a, v1, v2, v3⟩ := hv
    obtain ⟨m1, m2, m3, m4, arr, m5, m6, m7⟩ := hh
    refine ⟨(some a, ((β p).inner l.length j).cap), v1, .inr ⟨a, ((β p).inner l.length j).blk, 0, rfl, v2, fun h => by rw [v3 h]; simp [Loc.addr, m1], (k2 _).2 (by rw [m2]; simp), fun i hi => ?_⟩⟩
    obtain ⟨q1, q2⟩ := m7 i (by omega)
    refine ⟨q1, fun q u hu => ?_⟩
    rw [Nat.zero_add, cell_of_row w _ _ arr e _ m5]
    exact q2 q u hu
theorem boxed_at {β : Nat → Loc} {ow : Nat → Option Nat} {w : World} {p : Nat} {l : List Chunk} (hp : Holds β ow w p (.abs (PackP l))) : ∀ {cs : List SV} {G : List AC} {vs : List Value}, Boxed p l cs G → Rels β cs vs → G.length = vs.length ∧ ∀ (j : Nat) (x : AC), G[j]? = some x → ∃ pr v, vs[j]? = some v ∧ AC.at w (fun b => ow b = some p) x pr v
  | [], [], vs, _, hv => by
    simp only [Rels] at hv
    subst hv
    exact ⟨rfl, fun j x h => by simp at h⟩
  | s :: r, .raw u :: g, vs, hb, hv => by
    obtain ⟨v, t, rfl, h1, h2⟩ := hv
    obtain ⟨rfl, hb⟩ := hb
    obtain ⟨e1, e2⟩ := boxed_at hp hb h2
    refine ⟨by simp [e1], fun j x hx => ?_⟩
    cases j with
    | zero =>
      simp only [List.getElem?_cons_zero, Option.some.injEq] at hx
      subst hx
      exact ⟨(none, 0), v, rfl, h1⟩
    | succ j => simpa using e2 j x (by simpa using hx)
  | s :: r, .row sz k f :: g, vs, hb, hv => by
    obtain ⟨v, t, rfl, h1, h2⟩ := hv
    obtain ⟨hb0, hb⟩ := hb
    obtain ⟨e1, e2⟩ := boxed_at hp hb h2
    refine ⟨by simp [e1], fun j x hx => ?_⟩
    cases j with
    | zero =>
      simp only [List.getElem?_cons_zero, Option.some.injEq] at hx
      subst hx
      rcases hb0 with ⟨rfl, rfl⟩ | ⟨j0, e, n, rfl, hj, hk, _⟩
      · exact ⟨(none, 0), v, rfl, h1, .inl ⟨rfl, rfl⟩⟩
      · obtain ⟨pr, hat⟩ := ins_at hp hj hk h1
        exact ⟨pr, v, rfl, hat⟩
    | succ j => simpa using e2 j x (by simpa using hx)
  | [], _ :: _, _, hb, _ => hb.elim
  | _ :: _, [], _, hb, _ => hb.elim
section
variable {P : Program} {T : TyTab} {S : St} {d : Nat} {o : Oper}
end
open Go.RowKit
section
variable {P : Program} {T : TyTab} {S : St} {d : Nat} {o : Oper}
theorem boxSlice_op (hT : TabOK P T) {t : TypeId} {n : Nat} {parts : Array (Nat × Operand)} (ho : o.op = .buildSlice t n parts) {e : TypeId} {sz : Nat} {cs : List SV} (hcs : buildSliceX T S t n parts.toList = some (e, sz, cs)) (hd : cs.all (SV.ok fun i => !Nat.beq i d) = true) :
    OpSound P S d o { v := XV.sv (.slc d sz 0 n), upd := [(d, .cells e cs)] } [] := by
  refine alloc_op (L := fun w => ⟨w.heap.size, 0, n, false, fun _ => 0⟩) (fun w => ⟨rfl, rfl, rfl⟩) hd fun β w a hx => ?_
  obtain ⟨arr, g1, g2, g3⟩ := buildSlice_ok (P := P) hT hcs (β := β) (w := w) (a := a) (fun y hy X hX => hx y.2 (by rw [ho]; simp only [Op.operands]; simp; exact ⟨y.1, by simpa using hy⟩) X hX)
  refine ⟨.slice (some ⟨w.heap.size, 0, none⟩) n n, arr, by simp [execOp, ho, g1], g2, ?_⟩
  simp [XV.rel, CV.rel, SV.rel, setβ, Loc.addr]
theorem appendBox_op (hT : TabOK P T) {s x : Operand} {t e : TypeId} {tds tde : TyD} (ho : o.op = .call { callee := .builtin .append, args := #[s, x], argTypes := #[t, t] }) (htd : T t = some tds) (hds : tds.desc = .slice e) (hte : T e = some tde) (hzl : Nat.beq tde.zero.length tde.size = true)
    {q p : Nat} {cs : List SV} {l : List Chunk} {G : List AC} (hs : S.ev s = some (XV.val (.slice none 0 0))) (hx : S.ev x = some (XV.sv (.slc q tde.size 0 1))) (hq : S.mem.get q = some (.cells e cs)) (hp : S.mem.get p = some (.abs (PackP l))) (hcs : cs.length = tde.size) (hone : cs.all SV.one = true)
    (hbytes : tde.bytes ≤ 140737488355328) (hG : Boxed p l cs G) : OpSound P S d o { v := XV.sv (.slc d tde.size 0 1), upd := [(d, .abs (DeepP e tde.size 1 fun _ => G))], wr := [p] } [q, p] := by
  intro β ow w ac K' Q hw hfr hops hr hK
  have h1 := hops s (by rw [ho]; simp [Op.operands, Call.operands]) _ hs
  have h2 := hops x (by rw [ho]; simp [Op.operands, Call.operands]) _ hx
  simp only [XV.rel, CV.rel, SV.rel] at h1 h2
  obtain ⟨n0, n1, n2, arr, n3, n4⟩ := hr q (by simp) _ hq
  have hP := hr p (by simp) _ hp
  rw [if_neg (by rw [n0]; decide)] at h2
  obtain ⟨a0, v1, v2, v3⟩ := h2
  have ha0 : a0 = (β q).addr 0 := by rw [v3 (by omega)]; simp
  have hlen : arr.toList.length = tde.size := by rw [← n4.length, hcs]
  obtain ⟨b1, b2⟩ := boxed_at hP hG n4
  obtain ⟨v', w', β', ow', r1, r2, r3, r4⟩ := append_core (P := P) (c := none) (m := 0) (k := 1) (f := fun _ => []) (g := fun _ => arr.toList) hT htd hds hte (Nat.eq_of_beq_eq_true hzl) (β := β) (d := d) o.type hw (by simp) (v0 := ac.eval s) (xv := ac.eval x) (.inl ⟨h1, rfl, rfl⟩) (fun i hi => by omega) (fun _ _ => hlen)
    ⟨some a0, _, v1, fun _ => ⟨a0, rfl, fun j v hj => by
      have hj' : arr.toList[j]? = some v := by simpa [flat] using hj
      rw [ha0, loc_add]
      simp only [Loc.addr, n1, Nat.zero_add]
      rw [cell_of_row w _ _ arr e _ n3]
      simpa using hj'⟩⟩ (fun u hu => Rels.one n4 hone u (by simpa [flat] using hu)) (by decide) (by omega)
  let ow2 : Nat → Option Nat := fun k => if ow k = some p then some d else ow' k
  have hkeep : ∀ k, ow k = some p → w'.heap[k]? = w.heap[k]? ∧ ow' k = some p := fun k hk => by
    obtain ⟨e1, e2⟩ := r2.keep k (hw k (by simp [hk])) (fun c hc => by simp at hc)
    exact ⟨e1, by rw [e2, hk]⟩
  have hown : ∀ k, ow2 k = some d ↔ (ow k = some p ∨ ow' k = some d) := by
    intro k
    simp only [ow2]
    split
    · rename_i h; simp [h]
    · rename_i h; simp [h]
  have hE : Eff β ow w β' ow2 w' [p] d := by
    refine ⟨r2.beta, r2.os, r2.tape, r2.output, r2.size, fun k hk hn => ?_, fun k hk c hc => ?_, fun k hk => ?_⟩
    · obtain ⟨e1, e2⟩ := r2.keep k hk (fun c hc => by simp at hc)
      exact ⟨e1, by simp only [ow2]; rw [if_neg (hn p (by simp))]; exact e2⟩
    · simp only [ow2] at hc
      split at hc
      · exact .inr (Option.some.inj hc).symm
      · rename_i h
        rcases hk with hk | ⟨c0, h0, h1⟩
        · rcases r2.mine k (.inl hk) c hc with h2 | h2
          · simp at h2
          · exact .inr h2
        · simp only [List.mem_singleton] at h0
          rw [h0] at h1
          exact absurd h1 h
    · simp only [ow2] at hk
      split at hk
      · rename_i h
        have := hw k (by simp [h])
        have := r2.size
        omega
      · exact r2.wf k hk
  refine upon_value (x := v') ?_ (hK β' ow2 w' v' hE r3 (fun c' ch hc => ?_))
  · simp only [execOp, ho, resolve, invoke, builtin, Sem.run_bind, Sem.run_pure, Result.andThen_ok, List.map_toArray, List.map_cons, List.map_nil, r1]
  · simp only [Mem.get, nbeq] at hc
    by_cases hcc : d = c'
    · subst hcc
      simp only [decide_true, cond_true, Option.some.injEq] at hc
      subst hc
      simp only [Holds] at r4
      by_cases hnil : (β' d).nil = true
      · rw [if_pos hnil] at r4; omega
      rw [if_neg hnil] at r4
      obtain ⟨m1, m2, m3, m4, arr2, m5, m6, m7⟩ := r4
      have hpd : ∀ k, ow k = some p → k ≠ (β' d).blk := fun k hk e => by
        have := (hkeep k hk).2
        rw [e, m2] at this
        have hpd : p = d := (Option.some.inj this).symm
        rw [hpd] at hk
        exact hfr k hk
      refine ⟨by simpa using hnil, m1, (hown _).2 (.inr m2), m3, m4, fun k hk => ?_, arr2, m5, m6, fun i hi => ?_⟩
      · exact hE.wf k (by rw [hk]; simp)
      · obtain rfl : i = 0 := by omega
        refine ⟨by rw [b1, hlen], fun j x hx' => ?_⟩
        obtain ⟨pr, v, e1, e2⟩ := b2 j x hx'
        obtain ⟨_, q2⟩ := m7 0 (by omega)
        refine ⟨pr, v, q2 j v e1, AC.at_mono (x := x) (p := pr) (v := v) (fun k hk => ⟨(hown k).2 (.inl hk), hpd k hk⟩) (fun k hk => (hkeep k hk).1) e2⟩
    · simp [hcc] at hc
end
open Go.RowKit
section
variable {P : Program} {T : TyTab} {S : St} {d : Nat} {o : Oper}
theorem appendBoxes_op (hT : TabOK P T) {s x : Operand} {t e : TypeId} {tds tde : TyD} (ho : o.op = .call { callee := .builtin .append, args := #[s, x], argTypes := #[t, t] }) (htd : T t = some tds) (hds : tds.desc = .slice e) (hte : T e = some tde) (hzl : Nat.beq tde.zero.length tde.size = true)
    {c q p m : Nat} {F : Nat → List AC} {cs : List SV} {l : List Chunk} {G : List AC} (hs : S.ev s = some (XV.sv (.slc c tde.size 0 m))) (hc : S.mem.get c = some (.abs (DeepP e tde.size m F))) (hx : S.ev x = some (XV.sv (.slc q tde.size 0 1))) (hq : S.mem.get q = some (.cells e cs)) (hp : S.mem.get p = some (.abs (PackP l)))
    (hcp : c ≠ p) (hcd : c ≠ d) (hcs : cs.length = tde.size) (hone : cs.all SV.one = true) (h63 : m + 1 ≤ maxLen) (hbytes : (m + 1) * tde.bytes ≤ 140737488355328) (hG : Boxed p l cs G) :
    OpSound P S d o { v := XV.sv (.slc d tde.size 0 (m + 1)), upd := [(d, .abs (DeepP e tde.size (m + 1) fun i => if i < m then F i else G))], wr := [c, p] } [c, q, p] := by
  intro β ow w ac K' Q hw hfr hops hr hK
  have h1 := hops s (by rw [ho]; simp [Op.operands, Call.operands]) _ hs
  have h2 := hops x (by rw [ho]; simp [Op.operands, Call.operands]) _ hx
  simp only [XV.rel, CV.rel, SV.rel] at h1 h2
  obtain ⟨k0, k1, c1, c2, c3, c4, arr0, c5, c6, c7⟩ := hr c (by simp) _ hc
  obtain ⟨n0, n1, n2, arr, n3, n4⟩ := hr q (by simp) _ hq
  have hP := hr p (by simp) _ hp
  have hcap : subs (β c) 0 = (β c).cap := rfl
  rw [hcap] at c2 c3 c6
  rw [if_neg (by rw [k0]; decide)] at h1
  rw [if_neg (by rw [n0]; decide)] at h2
  obtain ⟨a1, u1, u2, u3⟩ := h1
  obtain ⟨a0, v1, v2, v3⟩ := h2
  have ha0 : a0 = (β q).addr 0 := by rw [v3 (by omega)]; simp
  have hlen : arr.toList.length = tde.size := by rw [← n4.length, hcs]
  obtain ⟨b1, b2⟩ := boxed_at hP hG n4
  let ow1 : Nat → Option Nat := fun k => if ow k = some c ∧ k ≠ (β c).blk then none else ow k
  let f : Nat → List Value := fun i => (arr0.toList.drop (i * tde.size)).take tde.size
  have hw1 : WF ow1 w := fun k hk => by
    simp only [ow1] at hk
    split at hk
    · exact absurd rfl hk
    · exact hw k hk
  have hrow : ∀ i, i < m → i * tde.size + tde.size ≤ arr0.size := by
    intro i hi
    rw [c6]
    have h3 : i + 1 ≤ (β c).cap := by omega
    have h4 := Nat.mul_le_mul_right tde.size h3
    rw [Nat.add_mul, Nat.one_mul] at h4
    exact h4
  have hfl : ∀ i, i < m → (f i).length = tde.size := fun i hi => by
    have := hrow i hi
    simp only [f, List.length_take, List.length_drop, Array.length_toList]
    omega
  have hfget : ∀ i j v, (f i)[j]? = some v → arr0[i * tde.size + j]? = some v := fun i j v hj => by
    simp only [f, List.getElem?_take] at hj
    split at hj
    · rw [List.getElem?_drop] at hj
      simpa using hj
    · cases hj
  have hfput : ∀ i j v, j < tde.size → arr0[i * tde.size + j]? = some v → (f i)[j]? = some v := fun i j v hj hv => by
    simp only [f, List.getElem?_take]
    rw [if_pos hj, List.getElem?_drop]
    simpa using hv
  have ha1 : 0 < (β c).cap → a1 = ⟨(β c).blk, 0, none⟩ := fun h => by rw [u3 h]; simp [Loc.addr, k1]
  have how1 : ow1 (β c).blk = some c := by simp only [ow1]; rw [if_neg (by simp)]; exact c1
  obtain ⟨v', w', β', ow', r1, r2, r3, r4⟩ := append_core (P := P) (c := some c) (m := m) (k := 1) (f := f) (g := fun _ => arr.toList) hT htd hds hte (Nat.eq_of_beq_eq_true hzl) (β := β) (d := d) o.type hw1 (by simpa using hcd) (v0 := ac.eval s) (xv := ac.eval x)
    (.inr ⟨c, rfl, .inr ⟨k0, a1, by rw [u1, Nat.sub_zero], ha1, k1, how1, by omega, c3, arr0, c5, c6, fun i hi => ⟨hfl i hi, fun j v hj => hfget i j v hj⟩⟩⟩) hfl (fun _ _ => hlen)
    ⟨some a0, _, v1, fun _ => ⟨a0, rfl, fun j v hj => by
      have hj' : arr.toList[j]? = some v := by simpa [flat] using hj
      rw [ha0, loc_add]
      simp only [Loc.addr, n1, Nat.zero_add]
      rw [cell_of_row w _ _ arr e _ n3]
      simpa using hj'⟩⟩ (fun u hu => Rels.one n4 hone u (by simpa [flat] using hu)) h63 hbytes
  have hr2 : Eff β ow1 w β' ow' w' [c] d := r2
  let ow2 : Nat → Option Nat := fun k => if (ow k = some c ∧ k ≠ (β c).blk) ∨ ow k = some p then some d else ow' k
  have hkeep : ∀ k, ((ow k = some c ∧ k ≠ (β c).blk) ∨ ow k = some p) → w'.heap[k]? = w.heap[k]? ∧ ow' k ≠ some d := fun k hk => by
    rcases hk with hk | hk
    · have e0 : ow1 k = none := by simp only [ow1]; rw [if_pos hk]
      obtain ⟨e1, e2⟩ := hr2.keep k (hw k (by simp [hk.1])) (fun c' _ => by rw [e0]; simp)
      exact ⟨e1, by rw [e2, e0]; simp⟩
    · have e0 : ow1 k = some p := by simp only [ow1]; rw [if_neg (by rw [hk]; intro h; exact hcp (Option.some.inj h.1).symm)]; exact hk
      obtain ⟨e1, e2⟩ := hr2.keep k (hw k (by simp [hk])) (fun c' hc' => by simp only [List.mem_singleton] at hc'; rw [e0, hc']; intro h; exact hcp (Option.some.inj h).symm)
      refine ⟨e1, by rw [e2, e0]; intro h; rw [Option.some.inj h] at hk; exact hfr k hk⟩
  have hown : ∀ k, ow2 k = some d ↔ (((ow k = some c ∧ k ≠ (β c).blk) ∨ ow k = some p) ∨ ow' k = some d) := by
    intro k
    simp only [ow2]
    split
    · rename_i h; exact ⟨fun _ => .inl h, fun _ => rfl⟩
    · rename_i h; exact ⟨fun e => .inr e, fun e => e.resolve_left h⟩
  have hE : Eff β ow w β' ow2 w' [c, p] d := by
    refine ⟨hr2.beta, hr2.os, hr2.tape, hr2.output, hr2.size, fun k hk hn => ?_, fun k hk c' hc' => ?_, fun k hk => ?_⟩
    · have h5 : ow k ≠ some c := hn c (by simp)
      have h6 : ow k ≠ some p := hn p (by simp)
      have e0 : ow1 k = ow k := by simp only [ow1]; rw [if_neg (fun h => h5 h.1)]
      obtain ⟨e1, e2⟩ := hr2.keep k hk (fun c' hc' => by simp only [List.mem_singleton] at hc'; rw [e0, hc']; exact h5)
      refine ⟨e1, ?_⟩
      simp only [ow2]
      rw [if_neg (fun h => h.elim (fun h => h5 h.1) h6), e2, e0]
    · simp only [ow2] at hc'
      split at hc'
      · exact .inr (Option.some.inj hc').symm
      · rename_i h
        have h5 : w.heap.size ≤ k ∨ ∃ c0 ∈ [c], ow1 k = some c0 := by
          rcases hk with hk | ⟨c0, h0, h1⟩
          · exact .inl hk
          · simp only [List.mem_cons, List.not_mem_nil, or_false] at h0
            rcases h0 with h0 | h0
            · subst h0
              exact .inr ⟨c0, by simp, by simp only [ow1]; rw [if_neg (fun h' => h (.inl h'))]; exact h1⟩
            · subst h0; exact absurd (.inr h1) h
        rcases hr2.mine k h5 c' hc' with h6 | h6
        · simp only [List.mem_singleton] at h6
          exact .inl (by rw [h6]; simp)
        · exact .inr h6
    · simp only [ow2] at hk
      split at hk
      · rename_i h
        have h5 : ow k ≠ none := by rcases h with h | h <;> simp [h]
        have := hw k h5
        have := hr2.size
        omega
      · exact hr2.wf k hk
  refine upon_value (x := v') ?_ (hK β' ow2 w' v' hE r3 (fun c' ch hc' => ?_))
  · simp only [execOp, ho, resolve, invoke, builtin, Sem.run_bind, Sem.run_pure, Result.andThen_ok, List.map_toArray, List.map_cons, List.map_nil, r1]
  · simp only [Mem.get, nbeq] at hc'
    by_cases hcc : d = c'
    · subst hcc
      simp only [decide_true, cond_true, Option.some.injEq] at hc'
      subst hc'
      simp only [Holds] at r4
      by_cases hnil : (β' d).nil = true
      · rw [if_pos hnil] at r4; omega
      rw [if_neg hnil] at r4
      obtain ⟨m1, m2, m3, m4, arr2, m5, m6, m7⟩ := r4
      have hblk : ∀ k, ((ow k = some c ∧ k ≠ (β c).blk) ∨ ow k = some p) → k ≠ (β' d).blk := fun k hk e => (hkeep k hk).2 (by rw [e]; exact m2)
      refine ⟨by simpa using hnil, m1, (hown _).2 (.inr m2), m3, m4, fun k hk => hE.wf k (by rw [hk]; simp), arr2, m5, m6, fun i hi => ?_⟩
      obtain ⟨_, q2⟩ := m7 i hi
      by_cases him : i < m
      · rw [show ((fun i => if i < m then F i else G) i) = F i from if_pos him]
        have ej : joinF f m (fun _ => arr.toList) i = f i := by simp only [joinF, nblt]; rw [decide_eq_true him]; rfl
        rw [ej] at q2
        obtain ⟨w1, w2⟩ := c7 i him
        refine ⟨w1, fun j y hy => ?_⟩
        obtain ⟨pr, v, e1, e2⟩ := w2 j y hy
        have hj : j < tde.size := by rw [← w1]; exact (List.getElem?_eq_some_iff.1 hy).1
        exact ⟨pr, v, q2 j v (hfput i j v hj e1), AC.at_mono (x := y) (p := pr) (v := v) (fun k hk => ⟨(hown k).2 (.inl (.inl hk)), hblk k (.inl hk)⟩) (fun k hk => (hkeep k (.inl hk)).1) e2⟩
      · rw [show ((fun i => if i < m then F i else G) i) = G from if_neg him]
        have ej : joinF f m (fun _ => arr.toList) i = arr.toList := by simp only [joinF, nblt]; rw [decide_eq_false him]; rfl
        rw [ej] at q2
        refine ⟨by rw [b1, hlen], fun j y hy => ?_⟩
        obtain ⟨pr, v, e1, e2⟩ := b2 j y hy
        exact ⟨pr, v, q2 j v e1, AC.at_mono (x := y) (p := pr) (v := v) (fun k hk => ⟨(hown k).2 (.inl (.inr hk)), hblk k (.inr hk)⟩) (fun k hk => (hkeep k (.inr hk)).1) e2⟩
    · simp [hcc] at hc'
end
open Go.RowKit
def VarP (b : Nat) (cs : Array Value) : ExtP where
  Ψ w _ O := O b ∧ ∃ e f, w.heap[b]? = some (.cells cs e f)
  loc := by
    rintro w w' L O hk ⟨h1, e, f, h2⟩
    exact ⟨h1, e, f, by rw [hk b h1]; exact h2⟩
theorem VarP.var {P : Program} {name : String} {b : Nat} {cs : Array Value} {w : World} {L : Loc} {O : Nat → Prop} (hn : P.globalNamed name = some b) (h : (VarP b cs).Ψ w L O) : w.var? P name = some cs := by
  obtain ⟨_, e, f, h2⟩ := h
  simp [World.var?, hn, h2]
theorem Eff.below {β : Nat → Loc} {ow : Nat → Option Nat} {w w' : World} (hw : WF ow w) (hb : Below w.heap.size w w') (d : Nat) : Eff β ow w β ow w' [] d := by
  refine ⟨fun _ _ => rfl, hb.os, hb.tape, hb.output, hb.size, fun k hk _ => ⟨hb.block k hk, rfl⟩, fun k hk c hc => ?_, fun k hk => Nat.lt_of_lt_of_le (hw k hk) hb.size⟩
  rcases hk with hk | ⟨_, h0, _⟩
  · have := hw k (by simp [hc]); omega
  · cases h0
def Worlds (es : List ExtP) (w : World) : Prop := ∀ A ∈ es, ∃ L O, A.Ψ w L O
theorem canE_at : ∀ (es : List ExtP) (i k : Nat) (A : ExtP), es[k]? = some A → (canE i es).get (i + k) = some (.ext A)
  | [], _, _, _, h => by simp at h
  | A0 :: r, i, 0, A, h => by
    simp only [List.getElem?_cons_zero, Option.some.injEq] at h
    subst h
    simp [canE, Mem.get, nbeq]
  | A0 :: r, i, k + 1, A, h => by
    have h' : r[k]? = some A := by simpa using h
    have := canE_at r (i + 1) k A h'
    have hne : ¬ i = i + (k + 1) := by omega
    simp only [canE, Mem.get, nbeq, hne, decide_false, cond_false]
    rw [show i + (k + 1) = i + 1 + k by omega]; exact this
def rawsD (us : List Value) : List AD := us.map fun u => AD.plain (.one (.raw u))
theorem rawsD_mem : ∀ (us : List Value) (i : Nat), canL i (rawsD us) = []
  | [], _ => rfl
  | _ :: r, i => by
    have := rawsD_mem r (i + 1)
    simp only [rawsD, List.map_cons, canL] at this ⊢
    simpa [AD.plain] using this
theorem rawsD_vals {β : Nat → Loc} : ∀ (us : List Value) (i : Nat) (vs : List Value), CVs β (canX i (rawsD us)) vs → vs = us
  | [], _, vs, h => h
  | u :: r, i, vs, h => by
    simp only [rawsD, List.map_cons, canX, CVs] at h
    obtain ⟨v, vs', rfl, h1, h2⟩ := h
    have := rawsD_vals r _ vs' h2
    simp only [AD.plain, CV.rel, SV.rel] at h1
    rw [h1, this]
theorem rawsD_worlds {us : List Value} {es : List ExtP} {β : Nat → Loc} {ow : Nat → Option Nat} {w : World} (hr : ∀ c ∈ List.range (wids (rawsD us) + es.length), ∀ ch, (canM es 0 (rawsD us)).get c = some ch → Holds β ow w c ch) : Worlds es w := by
  intro A hA
  obtain ⟨k, hk⟩ := List.getElem?_of_mem hA
  have hl : k < es.length := (List.getElem?_eq_some_iff.1 hk).1
  have hg := canE_at es (0 + wids (rawsD us)) k A hk
  obtain ⟨O, _, h2⟩ := hr (0 + wids (rawsD us) + k) (List.mem_range.2 (by omega)) (.ext A) (by rw [canM, rawsD_mem, List.nil_append]; exact hg)
  exact ⟨_, _, h2⟩
theorem Reads.raws {P : Program} {f : FuncId} (us : List Value) (es : List ExtP) (X : XV) (hX : X.ok (fun _ => false) = true)
    (h : ∀ w, Worlds es w → Calls P f us.toArray w fun e w' => ∃ v, e = .returned v ∧ X.rel (fun _ => default) v ∧ Below w.heap.size w w') : Reads P f (rawsD us) es X := by
  refine ⟨0, fun β ow w vs hw hd hvs hr => ?_, hX⟩
  obtain rfl := rawsD_vals us 0 vs hvs
  refine (h w (rawsD_worlds hr)).mono ?_
  rintro e w' ⟨v, rfl, h1, h2⟩
  exact ⟨v, β, ow, rfl, Eff.below hw h2 0, XV.rel_congr (p := fun _ => false) (fun _ h => by cases h) hX h1, fun c ch hc => by simp [Mem.get] at hc⟩
theorem Makes.raws {P : Program} {f : FuncId} (us : List Value) (es : List ExtP) (e sz n : Nat) (fl : Nat → List Value)
    (h : ∀ w, Worlds es w → Calls P f us.toArray w fun e' w' => ∃ v xs, e' = .returned v ∧ w'.ownsRow w.heap.size e sz v n xs ∧ FlatAs sz n fl xs ∧ Below w.heap.size w w') : Makes P f (rawsD us) es (XV.sv (.slc 0 sz 0 n)) (.vec e sz n fl) := by
  refine ⟨0, row_spec (d := 0) (sz := sz) (n := n) (fun β ow w vs hw hvs hr => ?_), rfl, rfl, rfl⟩
  obtain rfl := rawsD_vals us 0 vs hvs
  exact h w (rawsD_worlds hr)
theorem Reads.rowRaw {P : Program} {f : FuncId} {sz n : Nat} {fl : Nat → List Value} (us : List Value) (X : XV) (hX : X.ok (fun _ => false) = true) (h0 : 0 < n)
    (h : ∀ (w : World) (b o cap : Nat), b < w.heap.size → n ≤ cap → (∀ i, i < n → (fl i).length = sz ∧ ∀ j v, (fl i)[j]? = some v → w.cell? ⟨b, o + (i * sz + j), none⟩ = some v) → Calls P f (.slice (some ⟨b, o, none⟩) n cap :: us).toArray w fun e w' => ∃ v, e = .returned v ∧ X.rel (fun _ => default) v ∧ Below w.heap.size w w') : Reads P f (.row sz n fl :: rawsD us) [] X := by
  refine ⟨0, fun β ow w vs hw hd hvs hr => ?_, hX⟩
  obtain ⟨v, vs', rfl, h1, h2⟩ := hvs
  obtain rfl := rawsD_vals us _ vs' h2
  have hh := hr 0 (List.mem_range.2 (by simp only [wids, AD.row]; omega)) (.ro sz n fl) (by simp [canM, canL, AD.row, Mem.get, nbeq])
  simp only [AD.row, CV.rel, SV.rel] at h1
  simp only [Holds] at hh
  by_cases hn : (β 0).nil = true
  · rw [if_pos hn] at hh; omega
  · rw [if_neg hn] at h1 hh
    obtain ⟨a, rfl, e1, e2⟩ := h1
    have e3 := e2 (by omega)
    simp only [Loc.addr, Nat.zero_mul, Nat.add_zero] at e3
    subst e3
    refine (h w (β 0).blk (β 0).base ((β 0).cap - 0) hh.2.1 (by omega) (fun i hi => ?_)).mono ?_
    · obtain ⟨k1, k2⟩ := hh.2.2 i hi
      exact ⟨k1, fun j u hu => by have := k2 j u hu; rwa [Loc.addr] at this⟩
    · rintro e w' ⟨v, rfl, g1, g2⟩
      exact ⟨v, β, ow, rfl, Eff.below hw g2 0, XV.rel_congr (p := fun _ => false) (fun _ h => by cases h) hX g1, fun c ch hc => by simp [Mem.get] at hc⟩
theorem lends_raws {M : Mem} {rd : List Nat} : ∀ us : List Value, LendsL M rd (us.map fun u => .one (.raw u)) (rawsD us)
  | [] => trivial
  | _ :: r => ⟨lend_plain rfl, lends_raws r⟩
theorem below_grown_drewN (w : World) (k : Nat) (os : Array Obj) : Below w.heap.size w (Sort.grow (w.drewN k) os) := by
  refine ⟨rfl, rfl, rfl, by simp [Sort.grow], fun j hj => ?_⟩
  simp only [Sort.grow, World.drewN]
  rw [Array.getElem?_append_left hj]
def strV (l : List UInt8) : Value := .string (bs l)
def strsF (l : List (List UInt8)) : Nat → List Value := fun i => [strV (l.getD i [])]
theorem bs_data (s : ByteArray) : bs s.data.toList = s := by
  cases s; simp [bs]
theorem bs_cat (a b : List UInt8) : (bs a ++ bs b : ByteArray) = bs (a ++ b) := by
  apply ByteArray.ext
  simp [bs, ByteArray.data_append]
theorem bs_inj {a b : List UInt8} : bs a = bs b ↔ a = b := by
  constructor
  · intro h
    have := congrArg (fun x : ByteArray => x.data.toList) h
    simpa [bs] using this
  · intro h; rw [h]
theorem bs_size (l : List UInt8) : (bs l).size = l.length := by
  show l.toArray.size = l.length
  simp
theorem bAt_bs (l : List UInt8) (i : Nat) : bAt (bs l) i = (l.getD i 0).toNat := rfl
theorem bs_ext (l : List UInt8) (a b : Nat) : (bs l).extract a b = bs ((l.drop a).take (b - a)) := by
  rw [← bs_data ((bs l).extract a b), Lib.extract_data]
open Go.RowKit
theorem freeze_at {w : World} {b n k : Nat} {arr : Array Value} {e : TypeId} {lo hi : Nat} (h : w.heap[b]? = some (.cells arr e (lo, hi))) (hk : k ≠ 0) : (w.freeze ⟨b, n, none⟩ k).heap[b]? = some (.cells arr e (if lo == hi then (n, n + k) else (min lo n, max hi (n + k)))) := by
  unfold World.freeze
  rw [if_neg hk]
  simp only [Array.getElem?_modify, if_true, h, Option.map_some]
theorem freeze_other (w : World) (b n k q : Nat) (hq : q ≠ b) : (w.freeze ⟨b, n, none⟩ k).heap[q]? = w.heap[q]? := by
  unfold World.freeze
  split
  · rfl
  · simp only [Array.getElem?_modify, if_neg (Ne.symm hq)]
theorem freeze_size (w : World) (a : Addr) (k : Nat) : (w.freeze a k).heap.size = w.heap.size := by
  unfold World.freeze; split <;> simp
theorem freeze_os (w : World) (a : Addr) (k : Nat) : (w.freeze a k).os = w.os ∧ (w.freeze a k).tape = w.tape ∧ (w.freeze a k).output = w.output := by
  unfold World.freeze; split <;> exact ⟨rfl, rfl, rfl⟩
section
variable {P : Program} {T : TyTab} {S : St} {d : Nat} {o : Oper}
theorem markBytes_op (hT : TabOK P T) {t e : TypeId} {x : Operand} {td te : TyD} {c e' k : Nat} {g : Nat → List Value} (ho : o.op = .convert t t x) (ht : T t = some td) (hd : td.desc = .slice e) (he : T e = some te) (hde : te.desc = .int .u8)
    (hx : S.ev x = some (XV.sv (.slc c 1 0 k))) (hm : S.mem.get c = some (.vec e' 1 k g)) (hk : 0 < k) :
    OpSound P S d o { v := XV.sv (.slc d 1 0 k), upd := [(d, .ro 1 k g)], wr := [c] } [c] := by
  intro β ow w a K Q hw _ hops hr hK
  have h1 := eval_sv hops (by rw [ho]; simp [Op.operands]) hx
  have hh := hr c (by simp) _ hm
  simp only [SV.rel] at h1
  simp only [Holds] at hh
  by_cases hn : (β c).nil = true
  · rw [if_pos hn] at hh; omega
  rw [if_neg hn] at h1 hh
  obtain ⟨g2, g3, g6, _, arr, g4, g7, g5⟩ := hh
  obtain ⟨ad, h1, h2, h3⟩ := h1
  have h4 := h3 (by omega)
  simp only [Loc.addr, g2, Nat.zero_mul, Nat.zero_add] at h4
  subst h4
  have hu := under_slice hT ht hd
  have hue : P.underlying e = some (.int .u8) := under_int hT he hde
  have hsh : w.shape? (β c).blk = some (e', arr.size) := by unfold World.shape?; rw [g4]
  have hrun : (execOp a.eval o).run P w = .ok (.value (.slice (some ⟨(β c).blk, 0, none⟩) k ((β c).cap - 0))) (w.freeze ⟨(β c).blk, arr.size, none⟩ 1) := by
    simp [execOp, ho, h1, convert, run_underlying hu, run_underlying hue, markStringish, hsh]
  obtain ⟨f1, f2, f3⟩ := freeze_os w ⟨(β c).blk, arr.size, none⟩ 1
  have hat := freeze_at (n := arr.size) (k := 1) g4 (by decide)
  refine upon_value hrun (hK (setβ β d ⟨(β c).blk, 0, (β c).cap, false, fun _ => 0⟩) (fun q => if q = (β c).blk then none else ow q) _ _ ⟨fun i hi => by simp [setβ, hi], f1, f2, f3, by rw [freeze_size]; exact Nat.le_refl _, fun q hq hn => ?_, fun q hq i hi => ?_, fun q hq => ?_⟩ ?_ fun i ch hi => ?_)
  · have hne : q ≠ (β c).blk := fun e => hn c (by simp) (by rw [e]; exact g3)
    exact ⟨freeze_other w _ _ _ q hne, by rw [if_neg hne]⟩
  · split at hi
    · cases hi
    · rcases hq with hq | ⟨c0, h0, h9⟩
      · have := hw q (by simp [hi]); omega
      · rw [h9] at hi; cases hi; exact .inl h0
  · split at hq
    · exact absurd rfl hq
    · rw [freeze_size]; exact hw q hq
  · simp only [XV.rel, CV.rel, SV.rel, setβ, if_true, Bool.false_eq_true, if_false]
    exact ⟨_, rfl, by omega, fun _ => by simp [Loc.addr]⟩
  · simp only [Mem.get, nbeq] at hi
    by_cases hid : d = i
    · subst hid
      simp only [decide_true, cond_true, Option.some.injEq] at hi
      subst hi
      simp only [Holds, setβ, if_true, Bool.false_eq_true, if_false]
      refine ⟨trivial, by rw [freeze_size]; exact (Array.getElem?_eq_some_iff.1 g4).1, fun i hi => ⟨(g5 i hi).1, fun j u hu => ?_⟩⟩
      have := (g5 i hi).2 j u hu
      simp only [Loc.addr]
      rw [cell_of_row _ _ _ arr e' _ hat, Nat.zero_add]
      exact this
    · simp [hid] at hi
end
end Go.Sx
