/- Parts SxZh Tab Money Ua Ub Ug Uh. -/
import Derived.Test.YtnpkdoggfnlapaaGreatDoorG09
import Derived.Test.YtnpkdoggfnlapaaGreatDoorG06
import Derived.Test.YtnpkdoggfnlapaaGreatDoorG03
import Derived.Test.YtnpkdoggfnlapaaGreatDoorG04
import Derived.Test.YtnpkdoggfnlapaaGreatDoorG05
import Derived.Test.YtnpkdoggfnlapaaGreatDoorG07
import Derived.Lib.SmallJoins
import Derived.Lib.LaidTab
import Derived.Test.YtnpkdoggfnlapaaGreatDoorRows
set_option linter.unusedSimpArgs false
set_option linter.unusedVariables false
namespace Go.Sx
open Go.RowKit Go.ChangeShapes Go.WideShapes Go.Deep
def Came (W : World) (v : Value) (a : AD) : Prop :=
  ∃ Ls : List Loc, Ls.length = a.wid ∧ ∀ (i : Nat) (β0 : Nat → Loc), (∀ k L, Ls[k]? = some L → β0 (i + k) = L) → (a.cv i).rel β0 v ∧ ∀ c ch, (a.mem i).get c = some ch → HoldsAt W (fun _ => True) (β0 c) ch
def CameL (W : World) : List Value → List AD → Prop
  | [], [] => True
  | v :: r, a :: l => Came W v a ∧ CameL W r l
  | _, _ => False
def CameX (W : World) : List ExtP → Prop
  | [] => True
  | A :: r => (∃ L, ExtAt W (fun _ => True) L A) ∧ CameX W r
theorem CameL.args {W : World} : ∀ {l : List AD} {vs : List Value}, CameL W vs l →
    ∃ Ls : List Loc, Ls.length = wids l ∧ ∀ (i : Nat) (β0 : Nat → Loc), (∀ k L, Ls[k]? = some L → β0 (i + k) = L) → CVs β0 (canX i l) vs ∧ ∀ c ch, (canL i l).get c = some ch → HoldsAt W (fun _ => True) (β0 c) ch
  | [], [], _ => ⟨[], rfl, fun i β0 _ => ⟨rfl, fun c ch h => by simp [canL, Mem.get] at h⟩⟩
  | a :: l, v :: t, hl => by
    obtain ⟨La, a1, a2⟩ := hl.1
    obtain ⟨Ls, e1, e2⟩ := CameL.args hl.2
    refine ⟨La ++ Ls, by simp [e1, a1, wids], fun i β0 hβ => ?_⟩
    obtain ⟨f1, f2⟩ := a2 i β0 (fun k L hk => hβ k L (by rw [List.getElem?_append_left (List.getElem?_eq_some_iff.1 hk).1]; exact hk))
    obtain ⟨g1, g2⟩ := e2 (i + a.wid) β0 (fun k L' hk => by
      have := hβ (a.wid + k) L' (by rw [List.getElem?_append_right (by omega), a1, Nat.add_sub_cancel_left]; exact hk)
      rwa [← Nat.add_assoc] at this)
    refine ⟨⟨v, t, rfl, f1, g1⟩, fun c ch hc => ?_⟩
    rw [canL, Mem.get_append] at hc
    cases hm : (a.mem i).get c with
    | some ch0 =>
      rw [hm] at hc
      simp only [Option.some_or, Option.some.injEq] at hc
      subst hc
      exact f2 c _ hm
    | none =>
      rw [hm] at hc
      exact g2 c ch (by simpa using hc)
  | [], _ :: _, hl => hl.elim
  | _ :: _, [], hl => hl.elim
theorem CameX.exts {W : World} : ∀ {es : List ExtP}, CameX W es →
    ∃ Ls : List Loc, Ls.length = es.length ∧ ∀ (k : Nat) (A : ExtP), es[k]? = some A → ∃ L, Ls[k]? = some L ∧ ExtAt W (fun _ => True) L A
  | [], _ => ⟨[], rfl, fun k A h => by simp at h⟩
  | A :: r, h => by
    obtain ⟨L, hL⟩ := h.1
    obtain ⟨Ls, e1, e2⟩ := CameX.exts h.2
    refine ⟨L :: Ls, by simp [e1], fun k B hk => ?_⟩
    cases k with
    | zero =>
      simp only [List.getElem?_cons_zero, Option.some.injEq] at hk
      subst hk
      exact ⟨L, by simp, hL⟩
    | succ k => simpa using e2 k B (by simpa using hk)
theorem Reads.calls {P : Program} {f : FuncId} {l : List AD} {es : List ExtP} {X : XV} (h : Reads P f l es X) {W : World} {vs : List Value} (ha : CameL W vs l) (he : CameX W es) :
    Calls P f vs.toArray W fun e W' => ∃ v β', e = .returned v ∧ X.rel β' v ∧ Below W.heap.size W W' := by
  obtain ⟨d, h1, _⟩ := h
  obtain ⟨Ls, e1, e2⟩ := ha.args
  obtain ⟨Es, f1, f2⟩ := he.exts
  let β0 : Nat → Loc := fun i => ((Ls ++ Es)[i]?).getD default
  obtain ⟨g1, g2⟩ := e2 0 β0 (fun k L hk => by
    have : k < Ls.length := (List.getElem?_eq_some_iff.1 hk).1
    simp only [β0]
    rw [Nat.zero_add, List.getElem?_append_left this, hk]
    rfl)
  refine (h1 β0 (fun _ => none) W vs (fun k h => absurd rfl h) (fun k h => by cases h) g1 (fun c _ ch hc => ?_)).mono ?_
  · obtain ⟨_, _, _, h4⟩ := canM_get hc
    rcases h4 with h4 | ⟨A, rfl, h5, h6⟩
    · exact (g2 c ch h4).holds fun _ _ => rfl
    · obtain ⟨L, k1, k2⟩ := f2 _ A h6
      have hb : β0 c = L := by
        simp only [β0]
        rw [List.getElem?_append_right (by omega), e1, show c - wids l = c - (0 + wids l) by omega, k1]
        rfl
      exact HoldsAt.holds (ch := .ext A) (by rw [hb]; exact k2) fun _ _ => rfl
  · rintro e W' ⟨v, β', ow', rfl, E, hv, _⟩
    exact ⟨v, β', rfl, hv, E.os, E.tape, E.output, E.size, fun k hk => (E.keep k hk (fun c hc => by cases hc)).1⟩
theorem RowIn.at {W : World} {v : Value} {sz n : Nat} {f : Nat → List Value} (h : RowIn W v sz n f) : ∃ L : Loc, (∀ (β : Nat → Loc) c, β c = L → (SV.slc c sz 0 n).rel β v) ∧ RoAt W (fun _ => True) L sz n f := by
  obtain ⟨L, h1, h2⟩ := h
  refine ⟨L, h1, ?_⟩
  unfold RoAt
  by_cases hn : L.nil = true
  · rw [if_pos hn] at h2 ⊢; exact h2
  · rw [if_neg hn] at h2 ⊢; exact ⟨⟨h2.1, trivial⟩, h2.2⟩
theorem came_row {W : World} {v : Value} {sz n : Nat} {f : Nat → List Value} (h : RowIn W v sz n f) : Came W v (.row sz n f) := by
  obtain ⟨L, h1, h2⟩ := h.at
  refine ⟨[L], rfl, fun i β0 hβ => ?_⟩
  have hb : β0 i = L := by simpa using hβ 0 L rfl
  exact ⟨h1 β0 i hb, one_holds hb h2⟩
theorem came_ext {W : World} {b sz n : Nat} {f : Nat → List Value} (hb : b < W.heap.size) (h : ∀ i, i < n → (f i).length = sz ∧ ∀ j v, (f i)[j]? = some v → W.cell? ⟨b, i * sz + j, none⟩ = some v) : ∃ L, ExtAt W (fun _ => True) L (GlobP b sz n f) :=
  ⟨default, fun k => k = b, fun k hk => ⟨by rw [hk]; exact hb, trivial⟩, rfl, h⟩
def CameC (W : World) : List Value → List AC → Prop
  | [], [] => True
  | v :: r, .raw u :: l => v = u ∧ CameC W r l
  | v :: r, .row sz n f :: l => RowIn W v sz n f ∧ CameC W r l
  | _, _ => False
theorem CameC.cells {W : World} : ∀ {l : List AC} {vs : List Value}, CameC W vs l →
    ∃ Ls : List Loc, Ls.length = boxW l ∧ ∀ (i : Nat) (β0 : Nat → Loc), (∀ k L, Ls[k]? = some L → β0 (i + k) = L) → Rels β0 (boxC i l) vs ∧ ∀ c ch, (boxM i l).get c = some ch → HoldsAt W (fun _ => True) (β0 c) ch
  | [], [], _ => ⟨[], rfl, fun i β0 _ => ⟨rfl, fun c ch h => by simp [boxM, Mem.get] at h⟩⟩
  | .raw x :: l, v :: t, hl => by
    obtain ⟨rfl, hl⟩ := hl
    obtain ⟨Ls, e1, e2⟩ := CameC.cells hl
    exact ⟨Ls, e1, fun i β0 hβ => ⟨⟨v, t, rfl, rfl, (e2 i β0 hβ).1⟩, (e2 i β0 hβ).2⟩⟩
  | .row sz n f :: l, v :: t, hl => by
    obtain ⟨L, a1, a2⟩ := hl.1.at
    obtain ⟨Ls, e1, e2⟩ := CameC.cells hl.2
    refine ⟨L :: Ls, by simp [e1, boxW], fun i β0 hβ => ?_⟩
    have hb : β0 i = L := by simpa using hβ 0 L rfl
    obtain ⟨g1, g2⟩ := e2 (i + 1) β0 (fun k L' hk => by
      have := hβ (k + 1) L' (by simpa using hk)
      rwa [Nat.add_right_comm, Nat.add_assoc])
    refine ⟨⟨v, t, rfl, a1 β0 i hb, g1⟩, fun c ch hc => ?_⟩
    simp only [boxM, Mem.get, nbeq] at hc
    by_cases hi : i = c
    · subst hi
      simp only [decide_true, cond_true, Option.some.injEq] at hc
      rw [hb, ← hc]; exact a2
    · simp only [hi, decide_false, cond_false] at hc
      exact g2 c ch hc
  | [], _ :: _, hl => hl.elim
  | .raw _ :: _, [], hl => hl.elim
  | .row _ _ _ :: _, [], hl => hl.elim
theorem came_box {W : World} {arr : Array Value} {l : List AC} (h : CameC W arr.toList l) : Came W (.agg arr) (.box l) := by
  obtain ⟨Ls, h1, h2⟩ := h.cells
  exact ⟨Ls, h1, fun i β0 hβ => ⟨⟨arr, rfl, (h2 i β0 hβ).1⟩, (h2 i β0 hβ).2⟩⟩
section
variable {P : Program} {T : TyTab} {H : Type} {enc : TypeId × Value → H} {W : World}
theorem open_rowC (hT : TabOK P T) {t e : TypeId} {td te : TyD} (ht : T t = some td) (hd : td.desc = .slice e) (he : T e = some te) {f : Nat} {ks : List Kd} (hk : kindsT T f e = some ks) {v : Value} {fuel : Nat} {x : DataW H × List MemPlace}
    (hf : DataW.trod enc P W 0 (fun _ => true) true fuel t [v] = some x) (hv : Cell.okWide P W .any 0 t v) {E : Type} (cells : E → List Value) (dec : ∀ cs, Fits ks cs → ∃ x, cs = cells x) (dflt : E) :
    ∃ l : List E, l.length ≤ maxLen ∧ RowIn W v te.size l.length (fun i => cells (l.getD i dflt)) := by
  have hu := under_slice hT ht hd
  have hc : P.cellsOf e = te.size := cellsOf_T hT he
  rcases open_slice hu hf with ⟨h1, _⟩ | ⟨a, len, cap, m, n, D, Pl, h1, _, hle, hm, hmm, _, hx⟩
  · simp only [List.cons.injEq, and_true] at h1
    subst h1
    refine ⟨[], Nat.zero_le _, ⟨0, 0, 0, true, fun _ => 0⟩, fun β c hβ => ?_, by simp⟩
    simp [SV.rel, hβ]
  · simp only [List.cons.injEq, and_true] at h1
    subst h1
    simp only [if_true] at hmm
    subst hmm
    have each : ∀ i, i < len → ∃ x : E, (cells x).length = te.size ∧ ∀ j u, (cells x)[j]? = some u → W.cell? (a.add (i * te.size + j)) = some u := by
      intro i hi
      obtain ⟨cs', h2, h3⟩ := hx i (by omega)
      have hfit := trod_fits hT f e ks hk n cs' _ h3
      obtain ⟨x, rfl⟩ := dec cs' hfit
      rw [hc] at h2
      obtain ⟨_, g2, g3⟩ := World.cells?_some h2
      refine ⟨x, g2, fun j u hj => ?_⟩
      have hjl : j < te.size := by rw [← g2]; exact (List.getElem?_eq_some_iff.1 hj).1
      have := g3 j hjl
      rw [hj] at this
      have ea : (a.add (i * te.size)).add j = a.add (i * te.size + j) := by
        unfold Addr.add
        split <;> split <;> simp_all [Nat.add_assoc]
      rw [ea] at this
      exact this
    have spot : a.spot = none ∧ a.block < W.heap.size := by
      simp only [hu, Cell.okWide, Cell.ok] at hv
      obtain ⟨_, _, _, hs, row, cells', hsh, _⟩ := hv
      refine ⟨hs, ?_⟩
      unfold World.shape? at hsh
      split at hsh
      · rename_i hb
        exact (Array.getElem?_eq_some_iff.1 hb).1
      · cases hsh
    have pick : ∀ k, k ≤ len → ∃ l : List E, l.length = k ∧ ∀ i, i < k → (cells (l.getD i dflt)).length = te.size ∧ ∀ j u, (cells (l.getD i dflt))[j]? = some u → W.cell? (a.add (i * te.size + j)) = some u := by
      intro k
      induction k with
      | zero => intro _; exact ⟨[], rfl, fun i hi => by omega⟩
      | succ k ih =>
        intro hk'
        obtain ⟨l, h2, h3⟩ := ih (by omega)
        obtain ⟨x, h4, h5⟩ := each k (by omega)
        refine ⟨l ++ [x], by simp [h2], fun i hi => ?_⟩
        by_cases hik : i < k
        · have e1 : (l ++ [x]).getD i dflt = l.getD i dflt := by simp [List.getD_eq_getElem?_getD, List.getElem?_append_left (show i < l.length by omega)]
          rw [e1]; exact h3 i hik
        · have e0 : i = k := by omega
          subst e0
          have e1 : (l ++ [x]).getD i dflt = x := by simp [List.getD_eq_getElem?_getD, h2]
          rw [e1]; exact ⟨h4, h5⟩
    obtain ⟨l, hl, hcell⟩ := pick len (Nat.le_refl _)
    refine ⟨l, by rw [hl]; exact Nat.le_trans hle hm, ?_⟩
    rw [hl]
    obtain ⟨hs, hb⟩ := spot
    have ha : a = ⟨a.block, a.off, none⟩ := by cases a; simp_all
    have hadd : ∀ q, a.add q = ⟨a.block, a.off + q, none⟩ := by
      intro q
      unfold Addr.add
      split
      · rename_i h; subst h; rw [Nat.add_zero]; exact ha
      · rfl
    refine ⟨⟨a.block, a.off, m, false, fun _ => 0⟩, fun β c hβ => ?_, ?_⟩
    · simp only [SV.rel, hβ, Bool.false_eq_true, if_false]
      exact ⟨a, by rw [Nat.sub_zero], by omega, fun _ => by simp only [Loc.addr, Nat.zero_mul, Nat.add_zero]; exact ha⟩
    · simp only [Bool.false_eq_true, if_false]
      refine ⟨hb, fun i hi => ⟨(hcell i hi).1, fun j u hj => ?_⟩⟩
      have := (hcell i hi).2 j u hj
      rw [hadd] at this
      exact this
end
theorem ok_cell {P : Program} {W : World} {t : TypeId} {fs : Array Field} {cs : Array Value} {ts : List TypeId} (hs : P.underlying t = some (.struct fs)) (hts : P.cellTypes P.depth t = some ts) (hv : Value.okWide P W .any 0 t (.agg cs)) {i : Nat} {v : Value} {u : TypeId} (hi : cs[i]? = some v) (hu : ts[i]? = some u) : Cell.okWide P W .any 0 u v := by
  simp only [Value.okWide, hs] at hv
  obtain ⟨cs', e, _, ts', h1, _, h2⟩ := hv
  cases e
  obtain rfl := Option.some.inj (hts.symm.trans h1)
  obtain ⟨u', h3, h4⟩ := h2 i v hi
  have hl : i < ts.length := (List.getElem?_eq_some_iff.1 hu).1
  rw [Nat.mod_eq_of_lt hl, hu] at h3
  cases h3
  exact h4
end Go.Sx
namespace Go.Proofs.YtnpkdoggfnlapaaGreatDoor
open Go.Sx
def Tryz.tab : List (Nat × TyD) := [
  (2, { size := 1, bytes := 8, agg := false, zero := [.int .i64 0], desc := .int .i64 }),
  (3, { size := 1, bytes := 8, agg := false, zero := [.int .i64 0], desc := .int .i64 }),
  (4, { size := 1, bytes := 1, agg := false, zero := [.bool false], desc := .bool }),
  (5, { size := 1, bytes := 1, agg := false, zero := [.int .u8 0], desc := .int .u8 }),
  (9, { size := 1, bytes := 16, agg := false, zero := [.string ByteArray.empty], desc := .str }),
  (12, { size := 1, bytes := 8, agg := false, zero := [.int .u64 0], desc := .int .u64 }),
  (21, { size := 1, bytes := 4, agg := false, zero := [.int .i32 0], desc := .int .i32 }),
  (25, { size := 1, bytes := 2, agg := false, zero := [.int .u16 0], desc := .int .u16 }),
  (84, { size := 1, bytes := 8, agg := false, zero := [.int .u64 0], desc := .int .u64 }),
  (225, { size := 1, bytes := 4, agg := false, zero := [.int .u32 0], desc := .int .u32 }),
  (229, { size := 1, bytes := 8, agg := false, zero := [.int .u64 0], desc := .int .u64 }),
  (22, { size := 1, bytes := 24, agg := false, zero := [.slice none 0 0], desc := .slice 25 }),
  (23, { size := 2, bytes := 48, agg := true, zero := [.slice none 0 0, .slice none 0 0], desc := .struct [(22, 0), (22, 1)] }),
  (24, { size := 2, bytes := 48, agg := true, zero := [.slice none 0 0, .slice none 0 0], desc := .struct [(22, 0), (22, 1)] }),
  (27, { size := 1, bytes := 8, agg := false, zero := [.map none], desc := .map 29 4 }),
  (28, { size := 8, bytes := 8, agg := true, zero := List.replicate 8 (.int .u8 0), desc := .array 8 5 }),
  (29, { size := 8, bytes := 8, agg := true, zero := List.replicate 8 (.int .u8 0), desc := .array 8 5 }),
  (30, { size := 10, bytes := 24, agg := true, zero := List.replicate 8 (.int .u8 0) ++ [.int .i64 0, .int .i64 0], desc := .struct [(29, 0), (3, 8), (3, 9)] }),
  (31, { size := 10, bytes := 24, agg := true, zero := List.replicate 8 (.int .u8 0) ++ [.int .i64 0, .int .i64 0], desc := .struct [(29, 0), (3, 8), (3, 9)] }),
  (35, { size := 1, bytes := 24, agg := false, zero := [.slice none 0 0], desc := .slice 223 }),
  (36, { size := 1, bytes := 24, agg := false, zero := [.slice none 0 0], desc := .slice 59 }),
  (37, { size := 1, bytes := 24, agg := false, zero := [.slice none 0 0], desc := .slice 150 }),
  (38, { size := 1, bytes := 24, agg := false, zero := [.slice none 0 0], desc := .slice 29 }),
  (39, { size := 4, bytes := 48, agg := true, zero := [.int .i64 0, .int .i64 0, .int .i64 0] ++ [.slice none 0 0], desc := .struct [(3, 0), (3, 1), (3, 2), (38, 3)] }),
  (40, { size := 4, bytes := 48, agg := true, zero := [.int .i64 0, .int .i64 0, .int .i64 0] ++ [.slice none 0 0], desc := .struct [(3, 0), (3, 1), (3, 2), (38, 3)] }),
  (41, { size := 1, bytes := 24, agg := false, zero := [.slice none 0 0], desc := .slice 192 }),
  (42, { size := 21, bytes := 88, agg := true, zero := [.int .i64 0, .int .i64 0, .int .i64 0] ++ List.replicate 16 (.int .u8 0) ++ [.slice none 0 0, .slice none 0 0], desc := .struct [(3, 0), (3, 1), (3, 2), (29, 3), (29, 11), (36, 19), (41, 20)] }),
  (43, { size := 21, bytes := 88, agg := true, zero := [.int .i64 0, .int .i64 0, .int .i64 0] ++ List.replicate 16 (.int .u8 0) ++ [.slice none 0 0, .slice none 0 0], desc := .struct [(3, 0), (3, 1), (3, 2), (29, 3), (29, 11), (36, 19), (41, 20)] }),
  (44, { size := 128, bytes := 128, agg := true, zero := List.replicate 128 (.int .u8 0), desc := .array 16 29 }),
  (45, { size := 140, bytes := 168, agg := true, zero := [.int .i64 0, .int .i64 0] ++ List.replicate 8 (.int .u8 0) ++ [.int .i64 0, .int .i64 0] ++ List.replicate 128 (.int .u8 0), desc := .struct [(3, 0), (3, 1), (31, 2), (44, 12)] }),
  (46, { size := 140, bytes := 168, agg := true, zero := [.int .i64 0, .int .i64 0] ++ List.replicate 8 (.int .u8 0) ++ [.int .i64 0, .int .i64 0] ++ List.replicate 128 (.int .u8 0), desc := .struct [(3, 0), (3, 1), (31, 2), (44, 12)] }),
  (47, { size := 170, bytes := 392, agg := true, zero := [.int .i64 0, .int .i64 0] ++ [.slice none 0 0, .slice none 0 0, .slice none 0 0] ++ [.int .i64 0, .int .i64 0, .int .i64 0] ++ [.slice none 0 0] ++ [.int .i64 0, .int .i64 0, .int .i64 0] ++ List.replicate 16 (.int .u8 0) ++ [.slice none 0 0, .slice none 0 0] ++ [.int .i64 0, .int .i64 0] ++ List.replicate 8 (.int .u8 0) ++ [.int .i64 0, .int .i64 0] ++ List.replicate 128 (.int .u8 0), desc := .struct [(3, 0), (3, 1), (35, 2), (36, 3), (37, 4), (40, 5), (43, 9), (46, 30)] }),
  (48, { size := 170, bytes := 392, agg := true, zero := [.int .i64 0, .int .i64 0] ++ [.slice none 0 0, .slice none 0 0, .slice none 0 0] ++ [.int .i64 0, .int .i64 0, .int .i64 0] ++ [.slice none 0 0] ++ [.int .i64 0, .int .i64 0, .int .i64 0] ++ List.replicate 16 (.int .u8 0) ++ [.slice none 0 0, .slice none 0 0] ++ [.int .i64 0, .int .i64 0] ++ List.replicate 8 (.int .u8 0) ++ [.int .i64 0, .int .i64 0] ++ List.replicate 128 (.int .u8 0), desc := .struct [(3, 0), (3, 1), (35, 2), (36, 3), (37, 4), (40, 5), (43, 9), (46, 30)] }),
  (50, { size := 1, bytes := 8, agg := false, zero := [.pointer none], desc := .ptr }),
  (51, { size := 1, bytes := 8, agg := false, zero := [.pointer none], desc := .ptr }),
  (54, { size := 1, bytes := 8, agg := false, zero := [.pointer none], desc := .ptr }),
  (56, { size := 1, bytes := 8, agg := false, zero := [.int .i64 0], desc := .int .i64 }),
  (58, { size := 9, bytes := 16, agg := true, zero := List.replicate 8 (.int .u8 0) ++ [.int .i64 0], desc := .struct [(29, 0), (3, 8)] }),
  (59, { size := 9, bytes := 16, agg := true, zero := List.replicate 8 (.int .u8 0) ++ [.int .i64 0], desc := .struct [(29, 0), (3, 8)] }),
  (60, { size := 11, bytes := 32, agg := true, zero := List.replicate 8 (.int .u8 0) ++ [.int .i64 0, .int .i64 0] ++ [.bool false], desc := .struct [(59, 0), (3, 9), (4, 10)] }),
  (61, { size := 11, bytes := 32, agg := true, zero := List.replicate 8 (.int .u8 0) ++ [.int .i64 0, .int .i64 0] ++ [.bool false], desc := .struct [(59, 0), (3, 9), (4, 10)] }),
  (64, { size := 9, bytes := 16, agg := true, zero := List.replicate 8 (.int .u8 0) ++ [.int .i64 0], desc := .struct [(29, 0), (3, 8)] }),
  (65, { size := 9, bytes := 16, agg := true, zero := List.replicate 8 (.int .u8 0) ++ [.int .i64 0], desc := .struct [(29, 0), (3, 8)] }),
  (66, { size := 1, bytes := 24, agg := false, zero := [.slice none 0 0], desc := .slice 3 }),
  (67, { size := 42, bytes := 232, agg := true, zero := [.int .i64 0, .int .i64 0, .int .i64 0] ++ [.slice none 0 0] ++ List.replicate 5 (.int .i64 0) ++ [.bool false] ++ [.int .i64 0] ++ List.replicate 8 (.int .u8 0) ++ [.bool false] ++ [.int .i64 0, .int .i64 0, .int .i64 0] ++ List.replicate 16 (.int .u8 0) ++ [.slice none 0 0, .slice none 0 0, .slice none 0 0], desc := .struct [(40, 0), (3, 4), (3, 5), (3, 6), (3, 7), (3, 8), (4, 9), (3, 10), (29, 11), (4, 19), (43, 20), (66, 41)] }),
  (68, { size := 42, bytes := 232, agg := true, zero := [.int .i64 0, .int .i64 0, .int .i64 0] ++ [.slice none 0 0] ++ List.replicate 5 (.int .i64 0) ++ [.bool false] ++ [.int .i64 0] ++ List.replicate 8 (.int .u8 0) ++ [.bool false] ++ [.int .i64 0, .int .i64 0, .int .i64 0] ++ List.replicate 16 (.int .u8 0) ++ [.slice none 0 0, .slice none 0 0, .slice none 0 0], desc := .struct [(40, 0), (3, 4), (3, 5), (3, 6), (3, 7), (3, 8), (4, 9), (3, 10), (29, 11), (4, 19), (43, 20), (66, 41)] }),
  (73, { size := 1, bytes := 24, agg := false, zero := [.slice none 0 0], desc := .slice 5 }),
  (74, { size := 1, bytes := 8, agg := false, zero := [.pointer none], desc := .ptr }),
  (75, { size := 1, bytes := 24, agg := false, zero := [.slice none 0 0], desc := .slice 65 }),
  (76, { size := 1, bytes := 24, agg := false, zero := [.slice none 0 0], desc := .slice 162 }),
  (77, { size := 2, bytes := 48, agg := true, zero := [.slice none 0 0, .slice none 0 0], desc := .struct [(75, 0), (76, 1)] }),
  (78, { size := 2, bytes := 48, agg := true, zero := [.slice none 0 0, .slice none 0 0], desc := .struct [(75, 0), (76, 1)] }),
  (79, { size := 1, bytes := 24, agg := false, zero := [.slice none 0 0], desc := .slice 4 }),
  (82, { size := 2, bytes := 4, agg := true, zero := [.int .u16 0, .int .u16 0], desc := .array 2 25 }),
  (86, { size := 4, bytes := 32, agg := true, zero := List.replicate 4 (.int .i64 0), desc := .array 4 3 }),
  (91, { size := 1, bytes := 24, agg := false, zero := [.slice none 0 0], desc := .slice 95 }),
  (94, { size := 6, bytes := 80, agg := true, zero := [.int .i64 0, .int .i64 0, .int .i64 0] ++ [.slice none 0 0, .slice none 0 0] ++ [.int .u8 0], desc := .struct [(3, 0), (3, 1), (3, 2), (66, 3), (73, 4), (5, 5)] }),
  (95, { size := 6, bytes := 80, agg := true, zero := [.int .i64 0, .int .i64 0, .int .i64 0] ++ [.slice none 0 0, .slice none 0 0] ++ [.int .u8 0], desc := .struct [(3, 0), (3, 1), (3, 2), (66, 3), (73, 4), (5, 5)] }),
  (104, { size := 2, bytes := 2, agg := true, zero := [.int .u8 0, .int .u8 0], desc := .array 2 5 }),
  (106, { size := 1, bytes := 24, agg := false, zero := [.slice none 0 0], desc := .slice 109 }),
  (107, { size := 1, bytes := 24, agg := true, zero := [.slice none 0 0], desc := .struct [(106, 0)] }),
  (108, { size := 1, bytes := 24, agg := true, zero := [.slice none 0 0], desc := .struct [(106, 0)] }),
  (109, { size := 42, bytes := 232, agg := true, zero := [.int .i64 0, .int .i64 0, .int .i64 0] ++ [.slice none 0 0] ++ List.replicate 5 (.int .i64 0) ++ [.bool false] ++ [.int .i64 0] ++ List.replicate 8 (.int .u8 0) ++ [.bool false] ++ [.int .i64 0, .int .i64 0, .int .i64 0] ++ List.replicate 16 (.int .u8 0) ++ [.slice none 0 0, .slice none 0 0, .slice none 0 0], desc := .struct [(40, 0), (3, 4), (3, 5), (3, 6), (3, 7), (3, 8), (4, 9), (3, 10), (29, 11), (4, 19), (43, 20), (66, 41)] }),
  (115, { size := 3, bytes := 6, agg := true, zero := [.int .u16 0, .int .u16 0, .int .u16 0], desc := .array 3 25 }),
  (123, { size := 1, bytes := 8, agg := false, zero := [.pointer none], desc := .ptr }),
  (128, { size := 1, bytes := 8, agg := false, zero := [.map none], desc := .map 65 61 }),
  (129, { size := 1, bytes := 24, agg := false, zero := [.slice none 0 0], desc := .slice 236 }),
  (130, { size := 3, bytes := 40, agg := true, zero := [.map none] ++ [.slice none 0 0] ++ [.int .i64 0], desc := .struct [(128, 0), (129, 1), (3, 2)] }),
  (131, { size := 3, bytes := 40, agg := true, zero := [.map none] ++ [.slice none 0 0] ++ [.int .i64 0], desc := .struct [(128, 0), (129, 1), (3, 2)] }),
  (137, { size := 1, bytes := 24, agg := false, zero := [.slice none 0 0], desc := .slice 68 }),
  (138, { size := 1, bytes := 24, agg := true, zero := [.slice none 0 0], desc := .struct [(137, 0)] }),
  (139, { size := 1, bytes := 24, agg := true, zero := [.slice none 0 0], desc := .struct [(137, 0)] }),
  (149, { size := 11, bytes := 32, agg := true, zero := [.int .i64 0, .int .i64 0] ++ List.replicate 8 (.int .u8 0) ++ [.int .i64 0], desc := .struct [(3, 0), (3, 1), (29, 2), (3, 10)] }),
  (150, { size := 11, bytes := 32, agg := true, zero := [.int .i64 0, .int .i64 0] ++ List.replicate 8 (.int .u8 0) ++ [.int .i64 0], desc := .struct [(3, 0), (3, 1), (29, 2), (3, 10)] }),
  (162, { size := 11, bytes := 32, agg := true, zero := List.replicate 8 (.int .u8 0) ++ [.int .i64 0, .int .i64 0] ++ [.bool false], desc := .struct [(59, 0), (3, 9), (4, 10)] }),
  (173, { size := 1, bytes := 24, agg := false, zero := [.slice none 0 0], desc := .slice 73 }),
  (174, { size := 32, bytes := 32, agg := true, zero := List.replicate 32 (.int .u8 0), desc := .array 32 5 }),
  (176, { size := 2, bytes := 48, agg := true, zero := [.slice none 0 0, .slice none 0 0], desc := .struct [(66, 0), (38, 1)] }),
  (177, { size := 2, bytes := 48, agg := true, zero := [.slice none 0 0, .slice none 0 0], desc := .struct [(66, 0), (38, 1)] }),
  (188, { size := 24, bytes := 24, agg := true, zero := List.replicate 24 (.int .u8 0), desc := .array 3 29 }),
  (189, { size := 281, bytes := 288, agg := true, zero := [.int .i64 0] ++ List.replicate 280 (.int .u8 0), desc := .struct [(3, 0), (44, 1), (44, 129), (188, 257)] }),
  (190, { size := 281, bytes := 288, agg := true, zero := [.int .i64 0] ++ List.replicate 280 (.int .u8 0), desc := .struct [(3, 0), (44, 1), (44, 129), (188, 257)] }),
  (191, { size := 282, bytes := 296, agg := true, zero := [.int .i64 0, .int .i64 0] ++ List.replicate 280 (.int .u8 0), desc := .struct [(3, 0), (190, 1)] }),
  (192, { size := 282, bytes := 296, agg := true, zero := [.int .i64 0, .int .i64 0] ++ List.replicate 280 (.int .u8 0), desc := .struct [(3, 0), (190, 1)] }),
  (202, { size := 1, bytes := 8, agg := false, zero := [.pointer none], desc := .ptr }),
  (222, { size := 298, bytes := 312, agg := true, zero := List.replicate 8 (.int .u8 0) ++ [.int .i64 0] ++ List.replicate 8 (.int .u8 0) ++ [.int .i64 0] ++ List.replicate 280 (.int .u8 0), desc := .struct [(65, 0), (29, 9), (190, 17)] }),
  (223, { size := 298, bytes := 312, agg := true, zero := List.replicate 8 (.int .u8 0) ++ [.int .i64 0] ++ List.replicate 8 (.int .u8 0) ++ [.int .i64 0] ++ List.replicate 280 (.int .u8 0), desc := .struct [(65, 0), (29, 9), (190, 17)] }),
  (226, { size := 8, bytes := 32, agg := true, zero := List.replicate 8 (.int .u32 0), desc := .array 8 225 }),
  (227, { size := 64, bytes := 256, agg := true, zero := List.replicate 64 (.int .u32 0), desc := .array 64 225 }),
  (235, { size := 21, bytes := 56, agg := true, zero := List.replicate 8 (.int .u8 0) ++ [.int .i64 0] ++ List.replicate 8 (.int .u8 0) ++ [.int .i64 0, .int .i64 0] ++ [.bool false, .bool false], desc := .struct [(65, 0), (61, 9), (4, 20)] }),
  (236, { size := 21, bytes := 56, agg := true, zero := List.replicate 8 (.int .u8 0) ++ [.int .i64 0] ++ List.replicate 8 (.int .u8 0) ++ [.int .i64 0, .int .i64 0] ++ [.bool false, .bool false], desc := .struct [(65, 0), (61, 9), (4, 20)] }),
  (256, { size := 1, bytes := 8, agg := false, zero := [.pointer none], desc := .ptr }),
  (257, { size := 2, bytes := 32, agg := true, zero := [.slice none 0 0] ++ [.int .i64 0], desc := .struct [(73, 0), (56, 1)] }),
  (258, { size := 2, bytes := 32, agg := true, zero := [.slice none 0 0] ++ [.int .i64 0], desc := .struct [(73, 0), (56, 1)] }),
  (259, { size := 2, bytes := 32, agg := true, zero := [.slice none 0 0] ++ [.int .i64 0], desc := .struct [(258, 0)] }),
  (260, { size := 2, bytes := 32, agg := true, zero := [.slice none 0 0] ++ [.int .i64 0], desc := .struct [(258, 0)] }),
  (283, { size := 8, bytes := 32, agg := true, zero := List.replicate 8 (.int .u32 0), desc := .array 8 225 }),
  (286, { size := 1, bytes := 8, agg := false, zero := [.pointer none], desc := .ptr }),
  (293, { size := 1, bytes := 8, agg := false, zero := [.int .i64 0], desc := .int .i64 }),
  (301, { size := 1, bytes := 8, agg := false, zero := [.pointer none], desc := .ptr }),
  (304, { size := 1, bytes := 24, agg := false, zero := [.slice none 0 0], desc := .slice 225 }),
  (306, { size := 16, bytes := 16, agg := true, zero := List.replicate 16 (.int .u8 0), desc := .array 2 29 }),
  (307, { size := 256, bytes := 256, agg := true, zero := List.replicate 256 (.int .u8 0), desc := .array 16 306 }),
  (310, { size := 1, bytes := 8, agg := false, zero := [.int .u64 0], desc := .int .u64 }),
  (314, { size := 1, bytes := 8, agg := false, zero := [.pointer none], desc := .ptr }),
  (316, { size := 1, bytes := 8, agg := false, zero := [.pointer none], desc := .ptr }),
  (327, { size := 1, bytes := 8, agg := false, zero := [.pointer none], desc := .ptr })]
abbrev Tryz.T : TyTab := tlook Tryz.tab
theorem Tryz.T_ok : TabOK Tryz.prog Tryz.T := tab_ok (by kernel_rfl)
theorem Tryz.mixed : Tryz.prog.follows .mixedOrders = true := by kernel_rfl
end Go.Proofs.YtnpkdoggfnlapaaGreatDoor
namespace Go.Proofs.YtnpkdoggfnlapaaGreatDoor
set_option maxRecDepth 100000
open Go.Sx
def mayB (n : Int) : Bool := decide (0 ≤ n) && decide (n ≤ 1125899906842624)
theorem may_spec (n : Int) (M : Mem) (d : Nat) : CallSpec Tryz.prog 119 [.one (.raw (.int .i64 n))] M d { v := XV.bool (mayB n) } [] := by
  refine spec_pure Tryz.mixed Tryz.T_ok Tryz.func119 rfl _ _ rfl rfl (fun C _ => ?_) M d
  (refine xB ?_)
  refine wC (fun h1 => ?_) (fun h1 => ?_)
  all_goals
    (refine xG ?_)
    refine Ends.plain (.inr rfl) rfl ?_
    simp [mayB, h1]
def bothB (a b n : Int) : Bool := mayB a && mayB b && mayB n
def bothV (a b n : Int) : List CV := [.one (.raw (.int .i64 (if bothB a b n = true then n else 0))), .one (.raw (.bool (bothB a b n)))]
theorem both_spec (a b n : Int) (M : Mem) (d : Nat) : CallSpec Tryz.prog 191 [.one (.raw (.int .i64 a)), .one (.raw (.int .i64 b)), .one (.raw (.int .i64 n))] M d { v := .tup (bothV a b n) } [] := by
  refine spec_pure Tryz.mixed Tryz.T_ok Tryz.func191 rfl _ _ rfl rfl (fun C _ => ?_) M d
  (refine xB ?_)
  (apply wP; exact (call_op rfl (entersB_of Tryz.func119 (by kernel_rfl)) rfl (may_spec _ _ _)); refine xZ ?_)
  refine wC (fun h1 => ?_) (fun h1 => ?_)
  · (refine xG ?_)
    refine Ends.plain (.inr rfl) rfl ?_
    simp only [Bool.not_eq_true'] at h1
    simp [bothV, bothB, h1]
  · (refine xG ?_)
    (apply wP; exact (call_op rfl (entersB_of Tryz.func119 (by kernel_rfl)) rfl (may_spec _ _ _)); refine xZ ?_)
    simp only [Bool.not_eq_false'] at h1
    refine wC (fun h2 => ?_) (fun h2 => ?_)
    · (refine xG ?_)
      refine Ends.plain (.inr rfl) rfl ?_
      simp only [Bool.not_eq_true'] at h2
      simp [bothV, bothB, h2]
    · simp only [Bool.not_eq_false'] at h2
      (refine xG ?_)
      (apply wP; exact (call_op rfl (entersB_of Tryz.func119 (by kernel_rfl)) rfl (may_spec _ _ _)); refine xZ ?_)
      refine wC (fun h3 => ?_) (fun h3 => ?_)
      · (refine xG ?_)
        refine Ends.plain (.inr rfl) rfl ?_
        simp only [Bool.not_eq_true'] at h3
        simp [bothV, bothB, h3]
      · simp only [Bool.not_eq_false'] at h3
        (refine xG ?_)
        refine Ends.plain (.inr rfl) rfl ?_
        simp [bothV, bothB, h1, h2, h3]
theorem add_spec (a b : Int) (M : Mem) (d : Nat) : CallSpec Tryz.prog 154 [.one (.raw (.int .i64 a)), .one (.raw (.int .i64 b))] M d { v := .tup (bothV a b (IntKind.i64.wrap (a + b))) } [] := by
  refine spec_pure Tryz.mixed Tryz.T_ok Tryz.func154 rfl _ _ rfl rfl (fun C _ => ?_) M d
  (refine xB ?_)
  (apply wP; exact (call_op rfl (entersB_of Tryz.func191 (by kernel_rfl)) rfl (both_spec _ _ _ _ _)); refine xZ ?_)
  exact Ends.plain (.inr rfl) rfl rfl
end Go.Proofs.YtnpkdoggfnlapaaGreatDoor
namespace Go.Proofs.YtnpkdoggfnlapaaGreatDoor
set_option maxRecDepth 100000
open Go.Sx
def u8 (x : UInt8) : Value := .int .u8 (x.toNat : Int)
def i64 (x : Int64) : Value := .int .i64 x.toInt
theorem u8_wf (x : UInt8) : (Lit.int .u8 (x.toNat : Int)).wf = true := by
  have := x.toNat_lt
  have e1 : IntKind.u8.min = 0 := rfl
  have e2 : IntKind.u8.max = 255 := rfl
  simp [Lit.wf, e1, e2]
  omega
theorem i64_wf (x : Int64) : (Lit.int .i64 x.toInt).wf = true := by
  have h1 := x.le_toInt
  have h2 := x.toInt_lt
  have e1 : IntKind.i64.min = -9223372036854775808 := rfl
  have e2 : IntKind.i64.max = 9223372036854775807 := rfl
  simp [Lit.wf, e1, e2]
  omega
structure H8 where
  (b0 b1 b2 b3 b4 b5 b6 b7 : UInt8)
  deriving DecidableEq, Inhabited
def H8.cells (h : H8) : List Value := [u8 h.b0, u8 h.b1, u8 h.b2, u8 h.b3, u8 h.b4, u8 h.b5, u8 h.b6, u8 h.b7]
structure Pt where
  tx : H8
  no : Int64
  deriving DecidableEq, Inhabited
def Pt.cells (p : Pt) : List Value := [u8 p.tx.b0, u8 p.tx.b1, u8 p.tx.b2, u8 p.tx.b3, u8 p.tx.b4, u8 p.tx.b5, u8 p.tx.b6, u8 p.tx.b7, i64 p.no]
def Pt.v (p : Pt) : Value := .agg p.cells.toArray
structure Coin where
  to : H8
  amt : Int64
  height : Int64
  base : Bool
  deriving DecidableEq, Inhabited
def Coin.cells (c : Coin) : List Value := [u8 c.to.b0, u8 c.to.b1, u8 c.to.b2, u8 c.to.b3, u8 c.to.b4, u8 c.to.b5, u8 c.to.b6, u8 c.to.b7, i64 c.amt, i64 c.height, .bool c.base]
def Coin.v (c : Coin) : Value := .agg c.cells.toArray
def coin0 : Coin := ⟨⟨0, 0, 0, 0, 0, 0, 0, 0⟩, 0, 0, false⟩
structure Stp where
  p : Pt
  c : Coin
  added : Bool
  deriving DecidableEq, Inhabited
def Stp.cells (s : Stp) : List Value := [u8 s.p.tx.b0, u8 s.p.tx.b1, u8 s.p.tx.b2, u8 s.p.tx.b3, u8 s.p.tx.b4, u8 s.p.tx.b5, u8 s.p.tx.b6, u8 s.p.tx.b7, i64 s.p.no,
  u8 s.c.to.b0, u8 s.c.to.b1, u8 s.c.to.b2, u8 s.c.to.b3, u8 s.c.to.b4, u8 s.c.to.b5, u8 s.c.to.b6, u8 s.c.to.b7, i64 s.c.amt, i64 s.c.height, .bool s.c.base, .bool s.added]
theorem u8_inj {a b : UInt8} (h : u8 a = u8 b) : a = b := by
  simp only [u8, Value.int.injEq, true_and] at h
  exact UInt8.toNat_inj.1 (by omega)
theorem i64_inj {a b : Int64} (h : i64 a = i64 b) : a = b := by
  simp only [i64, Value.int.injEq, true_and] at h
  exact Int64.toInt_inj.1 h
theorem Pt.inj (a b : Pt) (h : a.v = b.v) : a = b := by
  have h : a.cells = b.cells := by
    have := congrArg (fun v => v.cells.toList) h
    simpa [Pt.v, Value.cells] using this
  obtain ⟨⟨_, _, _, _, _, _, _, _⟩, _⟩ := a
  obtain ⟨⟨_, _, _, _, _, _, _, _⟩, _⟩ := b
  simp only [Pt.cells, List.cons.injEq] at h
  obtain ⟨h0, h1, h2, h3, h4, h5, h6, h7, h8, _⟩ := h
  rw [u8_inj h0, u8_inj h1, u8_inj h2, u8_inj h3, u8_inj h4, u8_inj h5, u8_inj h6, u8_inj h7, i64_inj h8]
theorem pt_row : (65 : TypeId) < Tryz.prog.types.size := of_decide_eq_true (by kernel_rfl)
theorem pt_deep : Tryz.prog.keyTypeAt 3 65 = true := by kernel_rfl
theorem laid : laidOutB Tryz.prog = true := by kernel_rfl
theorem pt_law : WideMaps.KeyLaw Tryz.prog 65 := deep_law_laid laid (m := 3) (by omega) pt_row pt_deep (by rw [Tryz.underlying65])
theorem pt_key (p : Pt) : ∃ l, keyOf Tryz.prog 65 p.v = some l := by
  have hf : p.v.formed Tryz.prog 65 = true := by kernel_rfl
  have hk : Tryz.prog.keyType 65 = true := by kernel_rfl
  have hl : ∀ m, ∃ ls, Tryz.prog.keyLits (m + 3) 65 p.cells = some ls := by
    intro m
    have c0 : Tryz.prog.cellsOf 65 = 9 := by kernel_rfl
    have c1 : Tryz.prog.cellsOf 29 = 8 := by kernel_rfl
    have c2 : Tryz.prog.cellsOf 5 = 1 := by kernel_rfl
    have c3 : Tryz.prog.cellsOf 3 = 1 := by kernel_rfl
    have w0 := u8_wf p.tx.b0
    have w1 := u8_wf p.tx.b1
    have w2 := u8_wf p.tx.b2
    have w3 := u8_wf p.tx.b3
    have w4 := u8_wf p.tx.b4
    have w5 := u8_wf p.tx.b5
    have w6 := u8_wf p.tx.b6
    have w7 := u8_wf p.tx.b7
    have w8 := i64_wf p.no
    simp [Program.keyLits, Tryz.underlying65, Tryz.underlying29, Tryz.underlying5, Tryz.underlying3, c0, c1, c2, c3, Pt.cells, u8, i64, List.range, List.range.loop, w0, w1, w2, w3, w4, w5, w6, w7, w8]
  have hs : Tryz.prog.types.size + 1 = (Tryz.prog.types.size - 2) + 3 := by kernel_rfl
  obtain ⟨ls, h⟩ := hl (Tryz.prog.types.size - 2)
  refine ⟨.string (keyBytes ls), ?_⟩
  unfold keyOf
  rw [Tryz.underlying65]
  simp only [hf, hk, Bool.and_self, if_true]
  rw [hs]
  have e : p.v.cells.toList = p.cells := by simp [Pt.v, Value.cells]
  rw [e, h]
  rfl
theorem ptK : KeyL Tryz.prog 65 Pt.v := KeyL.of (Maps.Keyed.of_law pt_law) Pt.inj pt_key
end Go.Proofs.YtnpkdoggfnlapaaGreatDoor
namespace Go.Proofs.YtnpkdoggfnlapaaGreatDoor
set_option maxRecDepth 100000
open Go.Sx
structure USet where
  coins : List (Pt × Coin)
  steps : List Stp
  total : Int
def USet.mem (S : USet) : Mem := [(0, .cells 131 [.map 1, .slc 2 21 0 S.steps.length, .raw (.int .i64 S.total)]), (1, .abs (MapP Pt.v Coin.v S.coins)), (2, .vec 236 21 S.steps.length fun i => (S.steps.getD i default).cells)]
def usetP (S : USet) : AbsP := packP S.mem True
theorem USet.opens {P : Program} {C : Ctx} {cd : Code} {slots : List (Option XV)} {mem : Mem} {nx : Nat} {Q : Exit → St → Prop} (S : USet) (c : Nat) (hc : mem.get c = some (.abs (usetP S)))
    (h : Tri P C cd ⟨slots, (c, .cells 131 [.map (nx + 1), .slc (nx + 2) 21 0 S.steps.length, .raw (.int .i64 S.total)]) :: (nx + 1, .abs (MapP Pt.v Coin.v S.coins)) :: (nx + 2, .vec 236 21 S.steps.length fun i => (S.steps.getD i default).cells) :: mem.del c, nx + 3⟩ Q) :
    Tri P C cd ⟨slots, mem, nx⟩ Q :=
  Tri.opens (M := S.mem) (m := 3) (inv := True) (c := c) hc rfl fun _ => h
theorem USet.shuts {C : Ctx} {slots : List (Option XV)} {mem : Mem} {nx : Nat} (S : USet) (c : Nat) {i1 i2 : Nat} {m n : Nat} {total : Int} {f : Nat → List Value}
    (k0 : mem.get c = some (.cells 131 [.map i1, .slc i2 21 0 m, .raw (.int .i64 total)])) (k1 : mem.get i1 = some (.abs (MapP Pt.v Coin.v S.coins))) (k2 : mem.get i2 = some (.vec 236 21 n f))
    (hids : (Nat.beq c i1 || Nat.beq c i2 || Nat.beq i1 i2) = false) (hm : m = S.steps.length) (ht : total = S.total) (hle : S.steps.length ≤ n) (hf : ∀ i, i < S.steps.length → f i = (S.steps.getD i default).cells) :
    Ent C ⟨slots, mem, nx⟩ ⟨slots, (c, .abs (usetP S)) :: mem.dels [c, i1, i2], nx⟩ := by
  subst hm ht
  exact Ent.shut3 (S := ⟨slots, mem, nx⟩) (M := S.mem) (inv := True) hids trivial rfl rfl rfl rfl k0 k1 k2 rfl ⟨rfl, rfl⟩ rfl ⟨rfl, rfl, hle, hf⟩
theorem USet.ends {C : Ctx} {T : TyTab} {rs : List ResultVar} {X X' : XV} {e : Exit} {slots : List (Option XV)} {mem : Mem} {nx : Nat} {S0 : USet} (S : USet) {i1 i2 : Nat} {m n : Nat} {total : Int} {f : Nat → List Value} (he : e = .normal ∨ e = .ret)
    (k0 : mem.get 0 = some (.cells 131 [.map i1, .slc i2 21 0 m, .raw (.int .i64 total)])) (k1 : mem.get i1 = some (.abs (MapP Pt.v Coin.v S.coins))) (k2 : mem.get i2 = some (.vec 236 21 n f))
    (hids : (Nat.beq 0 i1 || Nat.beq 0 i2 || Nat.beq i1 i2) = false)
    (hr : resX T ⟨slots, (0, .abs (usetP S)) :: mem.dels [0, i1, i2], nx⟩ rs = some X') (hX : X' = X) (hS : S = S0) (hm : m = S.steps.length) (ht : total = S.total) (hle : S.steps.length ≤ n) (hf : ∀ i, i < S.steps.length → f i = (S.steps.getD i default).cells) :
    Sx.Ends C T rs 1 1 ⟨X, [(0, .abs (usetP S0))], none⟩ e ⟨slots, mem, nx⟩ := by
  subst hX hS
  refine ⟨he, _, USet.shuts S 0 k0 k1 k2 hids hm ht hle hf, hr, fun i ch h => ?_, fun i ch h => by cases h⟩
  simp only [Mem.get, nbeq] at h
  by_cases hk : 0 = i
  · subst hk
    simp only [decide_true, cond_true, Option.some.injEq] at h
    exact ⟨by omega, by rw [← h]; rfl⟩
  · simp [hk] at h
abbrev Pt.cv (p : Pt) : CV := .agg (p.cells.map .raw)
abbrev Coin.cv (p : Coin) : CV := .agg (p.cells.map .raw)
def USet.put (S : USet) (p : Pt) (c : Coin) : USet := { S with coins := mput S.coins p c, total := IntKind.i64.wrap (S.total + c.amt.toInt) }
theorem coin_map : Tryz.prog.underlying 128 = some (.map 65 61) := Tryz.underlying128
set_option maxRecDepth 100000 in
theorem put_spec (S : USet) (p : Pt) (c : Coin) {M : Mem} {c0 d : Nat} (hM : M.get c0 = some (.abs (usetP S))) (hd : Nat.beq d c0 = false) : CallSpec Tryz.prog 155 [.one (.ptr c0 0 0 0), p.cv, c.cv] M d { v := .tup [], upd := [(c0, .abs (usetP (S.put p c)))], wr := [c0] } [c0] := by
  refine spec_obj Tryz.T_ok Tryz.func155 rfl [p.cv, c.cv] (.tup []) rfl rfl hM hd (fun C _ => ?_)
  refine USet.opens S 0 rfl ?_
  refine Tri.of Tryz.mixed Tryz.T_ok ?_
  (refine xB ?_)
  (refine wP _ _ (update_op ptK coin_map rfl rfl p c rfl rfl rfl) ?_; refine xZ ?_)
  exact USet.ends (S.put p c) (.inl rfl) rfl rfl rfl rfl rfl rfl rfl rfl rfl (Nat.le_refl _) (fun _ _ => rfl)
def USet.take (S : USet) (p : Pt) (c : Coin) : USet := { S with coins := mdel S.coins p, total := IntKind.i64.wrap (S.total - c.amt.toInt) }
theorem coin_zero : ∀ w : World, (zeroValue 61).run Tryz.prog w = .ok (Coin.v coin0) w := fun w => by kernel_rfl
def USet.get (S : USet) (p : Pt) : Coin := (mget S.coins p).getD coin0
def USet.has (S : USet) (p : Pt) : Bool := (mget S.coins p).isSome
set_option maxRecDepth 100000 in
theorem get_spec (S : USet) (p : Pt) {M : Mem} {c0 d : Nat} (hM : M.get c0 = some (.abs (usetP S))) (hd : Nat.beq d c0 = false) : CallSpec Tryz.prog 21 [.one (.ptr c0 0 0 0), p.cv] M d { v := .tup [(S.get p).cv, .one (.raw (.bool (S.has p)))], upd := [(c0, .abs (usetP S))], wr := [c0] } [c0] := by
  refine spec_obj Tryz.T_ok Tryz.func21 rfl [p.cv] (.tup [(S.get p).cv, .one (.raw (.bool (S.has p)))]) rfl rfl hM hd (fun C _ => ?_)
  refine USet.opens S 0 rfl ?_
  refine Tri.of Tryz.mixed Tryz.T_ok ?_
  (refine xB ?_)
  (refine wP _ _ (lookup_op (ok := true) ptK coin_map (z0 := coin0) coin_zero rfl rfl p rfl rfl) ?_; refine xZ ?_)
  exact USet.ends S (.inr rfl) rfl rfl rfl rfl rfl rfl rfl rfl rfl (Nat.le_refl _) (fun _ _ => rfl)
set_option maxRecDepth 100000 in
theorem len_spec (S : USet) {M : Mem} {c0 d : Nat} (hM : M.get c0 = some (.abs (usetP S))) (hd : Nat.beq d c0 = false) : CallSpec Tryz.prog 25 [.one (.ptr c0 0 0 0)] M d { v := XV.int .i64 S.coins.length, upd := [(c0, .abs (usetP S))], wr := [c0] } [c0] := by
  refine spec_obj Tryz.T_ok Tryz.func25 rfl [] (XV.int .i64 S.coins.length) rfl rfl hM hd (fun C _ => ?_)
  refine USet.opens S 0 rfl ?_
  refine Tri.of Tryz.mixed Tryz.T_ok ?_
  (refine xB ?_)
  (refine wP _ _ (mapLen_op coin_map rfl rfl rfl) ?_; refine xZ ?_)
  exact USet.ends S (.inr rfl) rfl rfl rfl rfl rfl rfl rfl rfl rfl (Nat.le_refl _) (fun _ _ => rfl)
set_option maxRecDepth 100000 in
theorem total_spec (S : USet) {M : Mem} {c0 d : Nat} (hM : M.get c0 = some (.abs (usetP S))) (hd : Nat.beq d c0 = false) : CallSpec Tryz.prog 23 [.one (.ptr c0 0 0 0)] M d { v := XV.int .i64 S.total, upd := [(c0, .abs (usetP S))], wr := [c0] } [c0] := by
  refine spec_obj Tryz.T_ok Tryz.func23 rfl [] (XV.int .i64 S.total) rfl rfl hM hd (fun C _ => ?_)
  refine USet.opens S 0 rfl ?_
  refine Tri.of Tryz.mixed Tryz.T_ok ?_
  (refine xB ?_)
  exact USet.ends S (.inr rfl) rfl rfl rfl rfl rfl rfl rfl rfl rfl (Nat.le_refl _) (fun _ _ => rfl)
def USet.empty : USet := ⟨[], [], 0⟩
theorem USet.ends_new {C : Ctx} {T : TyTab} {rs : List ResultVar} {X : XV} {e : Exit} {slots : List (Option XV)} {mem : Mem} {nx n0 : Nat} (l : List (Pt × Coin)) (total : Int) (i0 i1 : Nat) (he : e = .normal ∨ e = .ret) (hids : (Nat.beq i0 i1 || Nat.beq i0 nx || Nat.beq i1 nx) = false) (hn : n0 ≤ i0)
    (k0 : mem.get i0 = some (.cells 131 [.map i1, .raw (.slice none 0 0), .raw (.int .i64 total)])) (k1 : mem.get i1 = some (.abs (MapP Pt.v Coin.v l)))
    (hr : resX T ((St.nilc ⟨slots, mem, nx⟩ i0 131 [.map i1, .raw (.slice none 0 0), .raw (.int .i64 total)] 1 236 21).shut i0 [i0, i1, nx] (USet.mem ⟨l, [], total⟩) True) rs = some X) :
    Sx.Ends C T rs 0 n0 ⟨X, [], some (i0, .abs (usetP ⟨l, [], total⟩))⟩ e ⟨slots, mem, nx⟩ := by
  have hids' := hids
  simp only [Bool.or_eq_false_iff] at hids'
  obtain ⟨⟨h1, h2⟩, h3⟩ := hids'
  have h0 : ∀ a : Nat, Nat.beq a a = true := fun a => by rw [nbeq]; simp
  refine ⟨he, _, (Ent.nilc (S := ⟨slots, mem, nx⟩) k0 rfl 236 21).trans (Ent.shut3 (M := USet.mem ⟨l, [], total⟩) (b0 := .cells 131 [.map i1, .slc nx 21 0 0, .raw (.int .i64 total)]) (b1 := .abs (MapP Pt.v Coin.v l)) (b2 := .vec 236 21 0 fun _ => []) hids trivial rfl rfl rfl rfl ?_ ?_ ?_ rfl ⟨rfl, rfl⟩ rfl ⟨rfl, rfl, Nat.le_refl _, fun i hi => by simp at hi⟩), hr, fun i ch h => by simp [Mem.get] at h, fun i ch h => ?_⟩
  · simp [St.nilc, Mem.get]
  · have h3' : nx ≠ i1 := fun e => by rw [e, h0] at h3; cases h3
    have h1' : i1 ≠ i0 := fun e => by rw [e, h0] at h1; cases h1
    have : Nat.beq nx i1 = false := by rw [nbeq]; simpa using h3'
    simp only [St.nilc, Mem.get, h1, this, cond_false, Mem.get_del, if_neg h1', k1]
  · simp only [St.nilc, Mem.get, h2, h0, cond_false, cond_true]
  · cases h
    exact ⟨hn, by simp only [St.shut, Mem.get, h0, cond_true]; rfl⟩
theorem new_spec {M : Mem} {d : Nat} : CallSpec Tryz.prog 19 [] M d { v := XV.sv (.ptr d 0 0 0), upd := [(d, .abs (usetP USet.empty))] } [] := by
  refine spec_new Tryz.T_ok Tryz.func19 rfl [] rfl 3 (fun C _ => ?_)
  refine Tri.of Tryz.mixed Tryz.T_ok ?_
  (refine xB ?_)
  (refine wP _ _ (makeMap_op Pt.v Coin.v rfl) ?_; refine xZ ?_)
  exact USet.ends_new [] 0 3 1 (.inr rfl) rfl (by decide) rfl rfl rfl
theorem snoc_steps (l : List Stp) (s : Stp) (i : Nat) (hi : i < l.length + 1) : snocF (fun i => (l.getD i default).cells) l.length s.cells i = ((l ++ [s]).getD i default).cells := by
  have e : Nat.blt i l.length = decide (i < l.length) := by
    by_cases h : i < l.length
    · rw [decide_eq_true h]; simpa using h
    · rw [decide_eq_false h]
      cases hb : Nat.blt i l.length with
      | false => rfl
      | true => exact absurd (by simpa using hb) h
  simp only [snocF, e]
  by_cases h : i < l.length
  · simp [h, List.getD_eq_getElem?_getD, List.getElem?_append_left h]
  · have h' : i = l.length := by omega
    simp [h', List.getD_eq_getElem?_getD]
def USet.okB (S : USet) (p : Pt) (c : Coin) : Bool := !(decide (p.no.toInt < 0)) && !(decide (p.no.toInt > 255)) && !(decide (c.amt.toInt < 1)) && !(S.has p) && bothB S.total c.amt.toInt (IntKind.i64.wrap (S.total + c.amt.toInt))
def USet.add1 (S : USet) (p : Pt) (c : Coin) : USet := { S.put p c with steps := S.steps ++ [⟨p, c, true⟩] }
def USet.add (S : USet) (p : Pt) (c : Coin) : USet := if S.okB p c = true then S.add1 p c else S
set_option maxRecDepth 100000 in
theorem uadd_spec (S : USet) (p : Pt) (c : Coin) (hlen : S.steps.length < 1000000) {M : Mem} {c0 d : Nat} (hM : M.get c0 = some (.abs (usetP S))) (hd : Nat.beq d c0 = false) : CallSpec Tryz.prog 99 [.one (.ptr c0 0 0 0), p.cv, c.cv] M d { v := XV.bool (S.okB p c), upd := [(c0, .abs (usetP (S.add p c)))], wr := [c0] } [c0] := by
  refine spec_obj Tryz.T_ok Tryz.func99 rfl [p.cv, c.cv] (XV.bool (S.okB p c)) rfl rfl hM hd (fun C _ => ?_)
  refine USet.opens S 0 rfl ?_
  (refine Tri.cut 5 Tryz.mixed Tryz.T_ok ?_; refine xZ ?_)
  refine wC (fun h1 => ?_) (fun h1 => ?_)
  · (refine xG ?_)
    refine wD <| cutR (USet.ends S (.inr rfl) rfl rfl rfl rfl rfl ?_ ?_ rfl rfl (Nat.le_refl _) (fun _ _ => rfl))
    · simp [USet.okB, h1]
    · simp [USet.add, USet.okB, h1]
  (refine xG ?_)
  refine wC (fun h2 => ?_) (fun h2 => ?_)
  · (refine xG ?_)
    refine wD <| cutR (USet.ends S (.inr rfl) rfl rfl rfl rfl rfl ?_ ?_ rfl rfl (Nat.le_refl _) (fun _ _ => rfl))
    · simp [USet.okB, h2]
    · simp [USet.add, USet.okB, h2]
  (refine xG ?_)
  refine wC (fun h3 => ?_) (fun h3 => ?_)
  · (refine xG ?_)
    refine wD <| cutR (USet.ends S (.inr rfl) rfl rfl rfl rfl rfl ?_ ?_ rfl rfl (Nat.le_refl _) (fun _ _ => rfl))
    · simp [USet.okB, h3]
    · simp [USet.add, USet.okB, h3]
  (refine xG ?_)
  (refine wP _ _ (lookup_op (ok := true) ptK coin_map (z0 := coin0) coin_zero rfl rfl p rfl rfl) ?_; refine xZ ?_)
  (apply wP; exact (call_op rfl (entersB_of Tryz.func154 (by kernel_rfl)) rfl (add_spec _ _ _ _)); refine xZ ?_)
  refine wC (fun h4 => ?_) (fun h4 => ?_)
  · (refine xG ?_)
    refine wD <| cutR (USet.ends S (.inr rfl) rfl rfl rfl rfl rfl ?_ ?_ rfl rfl (Nat.le_refl _) (fun _ _ => rfl))
    · simp [USet.okB, USet.has, h4]
    · simp [USet.add, USet.okB, USet.has, h4]
  (refine xG ?_)
  refine wC (fun h5 => ?_) (fun h5 => ?_)
  · (refine xG ?_)
    simp only [Bool.not_eq_true'] at h5
    refine wD <| cutR (USet.ends S (.inr rfl) rfl rfl rfl rfl rfl ?_ ?_ rfl rfl (Nat.le_refl _) (fun _ _ => rfl))
    · simp [USet.okB, h5]
    · simp [USet.add, USet.okB, h5]
  (refine xG ?_)
  simp only [Bool.not_eq_false'] at h5
  have hok : S.okB p c = true := by simp [USet.okB, USet.has, h1, h2, h3, h4, h5]
  refine wD <| cutG (Tri.ent (USet.shuts S 0 rfl rfl rfl rfl rfl rfl (Nat.le_refl _) (fun _ _ => rfl)) ?_)
  (refine Tri.cut 1 Tryz.mixed Tryz.T_ok ?_; refine xZ ?_)
  (apply wP; exact (call_op rfl (entersB_of Tryz.func155 (by kernel_rfl)) rfl (put_spec S p c rfl rfl)); refine xZ ?_)
  have hA : (S.put p c).steps.length + 1 ≤ maxLen := by
    show S.steps.length + 1 ≤ maxLen
    simp only [maxLen]; omega
  have hB : ((S.put p c).steps.length + 1) * 56 ≤ 140737488355328 := by
    show (S.steps.length + 1) * 56 ≤ 140737488355328
    omega
  refine wD <| cutG (USet.opens (S.put p c) 0 rfl ?_)
  refine Tri.of Tryz.mixed Tryz.T_ok ?_
  (refine xB ?_)
  (refine wP _ _ (append1_op Tryz.T_ok rfl rfl rfl rfl (Stp.cells ⟨p, c, true⟩) rfl rfl rfl (Nat.le_refl _) rfl rfl rfl rfl rfl hA hB) ?_; refine xZ ?_)
  refine USet.ends (S.add1 p c) (.inr rfl) rfl rfl rfl rfl rfl ?_ ?_ ?_ rfl ?_ ?_
  · rw [hok]
  · rw [USet.add, if_pos hok]
  · simp [USet.add1, USet.put]
  · simp [USet.add1, USet.put]
  · intro i hi
    exact snoc_steps S.steps ⟨p, c, true⟩ i (by simpa [USet.add1] using hi)
end Go.Proofs.YtnpkdoggfnlapaaGreatDoor
namespace Go.Proofs.YtnpkdoggfnlapaaGreatDoor
set_option maxRecDepth 100000
open Go.Sx
abbrev H8.cv (h : H8) : CV := .agg (h.cells.map .raw)
def H8.l (h : H8) : List UInt8 := [h.b0, h.b1, h.b2, h.b3, h.b4, h.b5, h.b6, h.b7]
def ltL : List UInt8 → List UInt8 → Bool
  | x :: xs, y :: ys => if x = y then ltL xs ys else decide (x < y)
  | _, _ => false
def lessSt (a b : H8) (i : Nat) : St := ⟨[none, none, some (XV.sv (.ptr 0 0 0 0)), some (XV.sv (.ptr 1 0 0 0)), some (XV.bool false), some (XV.int .i64 i)] ++ List.replicate 18 none, [(0, .cells 29 (a.cells.map .raw)), (1, .cells 29 (b.cells.map .raw))], 2⟩
theorem u8_ne {x y : UInt8} : ((x.toNat : Int) != (y.toNat : Int)) = !decide (x = y) := by
  by_cases h : x = y
  · subst h; simp
  · have : (x.toNat : Int) ≠ (y.toNat : Int) := fun e => h (UInt8.toNat_inj.1 (by omega))
    simp [h, this]
set_option maxHeartbeats 2000000 in
set_option maxRecDepth 100000 in
theorem refLess_spec (a b : H8) (M : Mem) (d : Nat) : CallSpec Tryz.prog 216 [a.cv, b.cv] M d { v := XV.bool (ltL a.l b.l) } [] := by
  refine spec_pureT Tryz.T_ok Tryz.func216 rfl [a.cv, b.cv] _ rfl rfl (fun C hC => ?_) M d
  have hC0 : ∀ i, i < C.n0 → ([0, 1] : List Nat)[i]? = some i := fun i hi => by rw [hC] at hi; omega
  have hC1 : C.n0 ≤ 2 := by rw [hC]; decide
  (refine Tri.cut 1 Tryz.mixed Tryz.T_ok ?_; refine xZ ?_)
  refine wD <| cutG <| Tri.seq ?_
  (refine Tri.cut 1 Tryz.mixed Tryz.T_ok ?_; refine xZ ?_)
  refine wD <| cutG <| Tri.block ?_
  refine Tri.loop (α := { i : Nat // i ≤ 8 ∧ ltL a.l b.l = ltL (a.l.drop i) (b.l.drop i) }) (fun i => lessSt a b i.1) (fun i => 8 - i.1) ⟨0, by decide, rfl⟩ ?_ ?_
  · exact Ent.ren [0, 1] (by decide) rfl hC0 hC1 rfl ⟨rfl, rfl, rfl, rfl, trivial⟩ ⟨⟨_, rfl, rfl, rfl⟩, ⟨_, rfl, rfl, rfl⟩, trivial⟩
  rintro ⟨i, hi, hlt⟩
  dsimp only
  have hcases : i = 8 ∨ i = 0 ∨ i = 1 ∨ i = 2 ∨ i = 3 ∨ i = 4 ∨ i = 5 ∨ i = 6 ∨ i = 7 := by omega
  rcases hcases with rfl | h
  · (refine Tri.cut 1 Tryz.mixed Tryz.T_ok ?_; refine xZ ?_)
    refine wD <| cutE <| loopX <| blockX <| cutG <| Tri.of Tryz.mixed Tryz.T_ok ?_
    (refine xB ?_)
    refine Ends.plain (.inr rfl) rfl ?_
    rw [hlt]
    rfl
  rcases h with rfl | rfl | rfl | rfl | rfl | rfl | rfl | rfl
  all_goals
    (refine Tri.cut 1 Tryz.mixed Tryz.T_ok ?_; refine xZ ?_)
    refine wD <| cutG <| Tri.seq <| Tri.block <| Tri.of Tryz.mixed Tryz.T_ok ?_
    (refine xB ?_)
    refine wC (fun h1 => ?_) (fun h1 => ?_)
    · (refine xG ?_)
      refine wD <| blockR <| cutR <| loopR <| blockR <| cutR <| Ends.plain (.inr rfl) rfl ?_
      rw [hlt]
      simp only [u8_ne, Bool.not_eq_true', decide_eq_false_iff_not] at h1
      simp [H8.l, ltL, h1, UInt8.lt_iff_toNat_lt]
    · (refine xG ?_)
      refine wD <| blockN <| cutG <| Tri.of Tryz.mixed Tryz.T_ok ?_
      (refine xB ?_)
      simp only [u8_ne, Bool.not_eq_false', decide_eq_true_eq] at h1
      refine wD <| loopN ?_
      first |
        exact ⟨⟨1, by decide, by rw [hlt]; simp [H8.l, ltL, h1]⟩, by simp, Ent.ren [0, 1] (by decide) rfl hC0 hC1 rfl ⟨rfl, rfl, rfl, rfl, trivial⟩ ⟨⟨_, rfl, rfl, rfl⟩, ⟨_, rfl, rfl, rfl⟩, trivial⟩⟩ |
        exact ⟨⟨2, by decide, by rw [hlt]; simp [H8.l, ltL, h1]⟩, by simp, Ent.ren [0, 1] (by decide) rfl hC0 hC1 rfl ⟨rfl, rfl, rfl, rfl, trivial⟩ ⟨⟨_, rfl, rfl, rfl⟩, ⟨_, rfl, rfl, rfl⟩, trivial⟩⟩ |
        exact ⟨⟨3, by decide, by rw [hlt]; simp [H8.l, ltL, h1]⟩, by simp, Ent.ren [0, 1] (by decide) rfl hC0 hC1 rfl ⟨rfl, rfl, rfl, rfl, trivial⟩ ⟨⟨_, rfl, rfl, rfl⟩, ⟨_, rfl, rfl, rfl⟩, trivial⟩⟩ |
        exact ⟨⟨4, by decide, by rw [hlt]; simp [H8.l, ltL, h1]⟩, by simp, Ent.ren [0, 1] (by decide) rfl hC0 hC1 rfl ⟨rfl, rfl, rfl, rfl, trivial⟩ ⟨⟨_, rfl, rfl, rfl⟩, ⟨_, rfl, rfl, rfl⟩, trivial⟩⟩ |
        exact ⟨⟨5, by decide, by rw [hlt]; simp [H8.l, ltL, h1]⟩, by simp, Ent.ren [0, 1] (by decide) rfl hC0 hC1 rfl ⟨rfl, rfl, rfl, rfl, trivial⟩ ⟨⟨_, rfl, rfl, rfl⟩, ⟨_, rfl, rfl, rfl⟩, trivial⟩⟩ |
        exact ⟨⟨6, by decide, by rw [hlt]; simp [H8.l, ltL, h1]⟩, by simp, Ent.ren [0, 1] (by decide) rfl hC0 hC1 rfl ⟨rfl, rfl, rfl, rfl, trivial⟩ ⟨⟨_, rfl, rfl, rfl⟩, ⟨_, rfl, rfl, rfl⟩, trivial⟩⟩ |
        exact ⟨⟨7, by decide, by rw [hlt]; simp [H8.l, ltL, h1]⟩, by simp, Ent.ren [0, 1] (by decide) rfl hC0 hC1 rfl ⟨rfl, rfl, rfl, rfl, trivial⟩ ⟨⟨_, rfl, rfl, rfl⟩, ⟨_, rfl, rfl, rfl⟩, trivial⟩⟩ |
        exact ⟨⟨8, by decide, by rw [hlt]; simp [H8.l, ltL, h1]⟩, by simp, Ent.ren [0, 1] (by decide) rfl hC0 hC1 rfl ⟨rfl, rfl, rfl, rfl, trivial⟩ ⟨⟨_, rfl, rfl, rfl⟩, ⟨_, rfl, rfl, rfl⟩, trivial⟩⟩
end Go.Proofs.YtnpkdoggfnlapaaGreatDoor
namespace Go.Proofs.YtnpkdoggfnlapaaGreatDoor
set_option maxRecDepth 100000
open Go.Sx
theorem fitU (x : UInt8) : (Kd.int .u8).fits (u8 x) := ⟨_, rfl, u8_wf x⟩
theorem fitI (x : Int64) : (Kd.int .i64).fits (i64 x) := ⟨_, rfl, i64_wf x⟩
theorem fitB (b : Bool) : Kd.bool.fits (.bool b) := ⟨b, rfl⟩
def H8.v (h : H8) : Value := .agg h.cells.toArray
theorem H8.inj (a b : H8) (h : a.v = b.v) : a = b := by
  have h : a.cells = b.cells := by
    have := congrArg (fun v => v.cells.toList) h
    simpa [H8.v, Value.cells] using this
  obtain ⟨_, _, _, _, _, _, _, _⟩ := a
  obtain ⟨_, _, _, _, _, _, _, _⟩ := b
  simp only [H8.cells, List.cons.injEq] at h
  obtain ⟨h0, h1, h2, h3, h4, h5, h6, h7, _⟩ := h
  rw [u8_inj h0, u8_inj h1, u8_inj h2, u8_inj h3, u8_inj h4, u8_inj h5, u8_inj h6, u8_inj h7]
theorem bool_inj {a b : Bool} (h : Value.bool a = Value.bool b) : a = b := by cases h; rfl
theorem Coin.inj (a b : Coin) (h : a.v = b.v) : a = b := by
  have h : a.cells = b.cells := by
    have := congrArg (fun v => v.cells.toList) h
    simpa [Coin.v, Value.cells] using this
  obtain ⟨⟨_, _, _, _, _, _, _, _⟩, _, _, _⟩ := a
  obtain ⟨⟨_, _, _, _, _, _, _, _⟩, _, _, _⟩ := b
  simp only [Coin.cells, List.cons.injEq] at h
  obtain ⟨h0, h1, h2, h3, h4, h5, h6, h7, h8, h9, h10, _⟩ := h
  rw [u8_inj h0, u8_inj h1, u8_inj h2, u8_inj h3, u8_inj h4, u8_inj h5, u8_inj h6, u8_inj h7, i64_inj h8, i64_inj h9, bool_inj h10]
def hashKinds : List Kd := [.int .u8, .int .u8, .int .u8, .int .u8, .int .u8, .int .u8, .int .u8, .int .u8]
def coinKinds : List Kd := hashKinds ++ [.int .i64, .int .i64, .bool]
theorem hash_fits (h : H8) : Fits hashKinds h.cells :=
  ⟨_, _, rfl, fitU _, _, _, rfl, fitU _, _, _, rfl, fitU _, _, _, rfl, fitU _, _, _, rfl, fitU _, _, _, rfl, fitU _, _, _, rfl, fitU _, _, _, rfl, fitU _, rfl⟩
theorem coin_fits (h : Coin) : Fits coinKinds h.cells :=
  ⟨_, _, rfl, fitU _, _, _, rfl, fitU _, _, _, rfl, fitU _, _, _, rfl, fitU _, _, _, rfl, fitU _, _, _, rfl, fitU _, _, _, rfl, fitU _, _, _, rfl, fitU _, _, _, rfl, fitI _, _, _, rfl, fitI _, _, _, rfl, fitB _, rfl⟩
theorem hash_row : (29 : TypeId) < Tryz.prog.types.size := of_decide_eq_true (by kernel_rfl)
theorem hash_deep : Tryz.prog.keyTypeAt 3 29 = true := by kernel_rfl
theorem hash_deep8 : Tryz.prog.keyTypeAt 8 29 = true := by kernel_rfl
theorem hash_keyT : Tryz.prog.keyType 29 = true := by kernel_rfl
theorem hash_law : WideMaps.KeyLaw Tryz.prog 29 := deep_law_laid laid (m := 3) (by omega) hash_row hash_deep (by rw [Tryz.underlying29])
theorem types_many : 8 ≤ Tryz.prog.types.size + 1 := of_decide_eq_true (by kernel_rfl)
theorem hash_cells : hashKinds.length = Tryz.prog.cellsOf 29 := by kernel_rfl
theorem hash_key (h : H8) : ∃ l, keyOf Tryz.prog 29 h.v = some l := keyOf_fits Tryz.T_ok (f := 8) (ks := hashKinds) rfl hash_deep8 hash_keyT types_many (by rw [Tryz.underlying29]) (hash_fits h) hash_cells
theorem hash_noguard : Tryz.prog.eqGuardType Tryz.prog.depth 29 = false := by kernel_rfl
theorem hashE : EqK Tryz.prog 29 H8.v := EqK.of (m := 3) hash_law (by omega) hash_deep (by rw [Tryz.underlying29]) hash_key H8.inj hash_noguard (fun a => ⟨_, rfl⟩)
theorem pt_noguard : Tryz.prog.eqGuardType Tryz.prog.depth 65 = false := by kernel_rfl
theorem ptE : EqK Tryz.prog 65 Pt.v := EqK.of (m := 3) pt_law (by omega) pt_deep (by rw [Tryz.underlying65]) pt_key Pt.inj pt_noguard (fun a => ⟨_, rfl⟩)
theorem coin_row : (61 : TypeId) < Tryz.prog.types.size := of_decide_eq_true (by kernel_rfl)
theorem coin_deep : Tryz.prog.keyTypeAt 8 61 = true := by kernel_rfl
theorem coin_keyT : Tryz.prog.keyType 61 = true := by kernel_rfl
theorem coin_law : WideMaps.KeyLaw Tryz.prog 61 := deep_law_laid laid (m := 8) (by omega) coin_row coin_deep (by rw [Tryz.underlying61])
theorem coin_cells : coinKinds.length = Tryz.prog.cellsOf 61 := by kernel_rfl
theorem coin_key (h : Coin) : ∃ l, keyOf Tryz.prog 61 h.v = some l := keyOf_fits Tryz.T_ok (f := 8) (ks := coinKinds) rfl coin_deep coin_keyT types_many (by rw [Tryz.underlying61]) (coin_fits h) coin_cells
theorem coin_noguard : Tryz.prog.eqGuardType Tryz.prog.depth 61 = false := by kernel_rfl
theorem coinE : EqK Tryz.prog 61 Coin.v := EqK.of (m := 8) coin_law (by omega) coin_deep (by rw [Tryz.underlying61]) coin_key Coin.inj coin_noguard (fun a => ⟨_, rfl⟩)
def ltPt (a b : Pt) : Bool := ltL a.tx.l b.tx.l || (decide (a.tx = b.tx) && decide (a.no.toInt < b.no.toInt))
set_option maxRecDepth 100000 in
theorem lessPoint_spec (a b : Pt) (M : Mem) (d : Nat) : CallSpec Tryz.prog 193 [a.cv, b.cv] M d { v := XV.bool (ltPt a b) } [] := by
  refine spec_pureT Tryz.T_ok Tryz.func193 rfl [a.cv, b.cv] _ rfl rfl (fun C hC => ?_) M d
  refine Tri.of Tryz.mixed Tryz.T_ok ?_
  (refine xB ?_)
  (apply wP; exact (call_op rfl (entersB_of Tryz.func216 (by kernel_rfl)) rfl (refLess_spec a.tx b.tx _ _)); refine xZ ?_)
  refine wC (fun h1 => ?_) (fun h1 => ?_)
  · (refine xG ?_)
    refine Ends.plain (.inr rfl) rfl ?_
    simp [ltPt, h1]
  (refine xG ?_)
  (refine wP _ _ (eq_op hashE rfl a.tx b.tx rfl rfl) ?_; refine xZ ?_)
  refine wC (fun h2 => ?_) (fun h2 => ?_)
  · (refine xG ?_)
    refine Ends.plain (.inr rfl) rfl ?_
    simp only [decide_eq_true_eq] at h2
    unfold ltPt
    rw [h1]
    simp [h2]
  · (refine xG ?_)
    refine Ends.plain (.inr rfl) rfl ?_
    simp only [decide_eq_false_iff_not] at h2
    unfold ltPt
    rw [h1]
    simp [h2]
end Go.Proofs.YtnpkdoggfnlapaaGreatDoor
