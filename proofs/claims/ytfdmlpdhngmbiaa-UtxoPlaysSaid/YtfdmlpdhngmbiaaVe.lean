/- slices.SortedFunc over the points of a map of coins; (*utxo.Set).Points comes of it. -/
import Derived.Test.YtfdmlpdhngmbiaaVc
import Derived.Test.YtfdmlpdhngmbiaaVd
import Derived.Test.YtfdmlpdhngmbiaaVs
namespace Go.Proofs.Ytfdmlpdhngmbiaa
open Go.RowKit Go.Lib Go.Sort Go.MapKept Go.Shelf

theorem flatPt_get : ∀ (ss : List Pt) (i j : Nat), j < 9 → (flatPt ss)[i * 9 + j]? = (ss[i]?).bind fun x => x.cells[j]?
  | [], i, j, _ => by simp [flatPt]
  | x :: r, 0, j, hj => by
    simp only [flatPt, List.flatMap_cons, Nat.zero_mul, Nat.zero_add, List.getElem?_cons_zero, Option.bind_some]
    rw [List.getElem?_append_left (by simpa [Pt.cells] using hj)]
  | x :: r, i + 1, j, hj => by
    have := flatPt_get r i j hj
    simp only [flatPt] at this ⊢
    simp only [List.flatMap_cons, List.getElem?_cons_succ]
    rw [List.getElem?_append_right (by simp [Pt.cells]; omega), ← this]
    congr 1
    simp [Pt.cells]; omega
theorem pt_len (x : Pt) : x.cells.length = 9 := rfl
theorem flatK_pt (ss : List Pt) : (flatK Pt.cells 9 ss.toArray).toList = flatPt ss := by
  apply List.ext_getElem?
  intro t
  by_cases ht : t < ss.length * 9
  · have h1 : t / 9 < ss.length := by omega
    have h2 : t % 9 < 9 := Nat.mod_lt _ (by omega)
    have h3 : t = t / 9 * 9 + t % 9 := by omega
    have hs : t < (flatK Pt.cells 9 ss.toArray).size := by simpa using ht
    have e := get_flatK Pt.cells 9 ss.toArray t (by simpa using ht)
    rw [getElem!_pos _ t hs] at e
    rw [Array.getElem?_toList, Array.getElem?_eq_getElem hs, e]
    conv => rhs; rw [h3]
    rw [flatPt_get ss _ _ h2]
    have e2 : ss.toArray[t / 9]! = ss[t / 9] := by simp [h1]
    rw [e2, List.getElem?_eq_getElem h1, Option.bind_some]
    rw [getElem!_pos _ _ (by rw [pt_len]; exact h2), List.getElem?_eq_getElem]
  · rw [List.getElem?_eq_none (by simp; omega), List.getElem?_eq_none (by rw [flatPt_len]; omega)]

theorem holdsK_of_block {w : World} {g : Nat} {cur : Array Value} {e : TypeId} {ss : List Pt} (hb : w.heap[g]? = some (.cells cur e (0, 0))) (ht : cur.toList.take (ss.length * 9) = flatPt ss) : HoldsK Pt.cells 9 w g 0 ss.toArray := by
  intro j hj
  have hj' : j < ss.length * 9 := by simpa using hj
  refine ⟨?_, by simp [World.frozen?, hb]⟩
  have h1 : (cur.toList.take (ss.length * 9))[j]? = (flatPt ss)[j]? := by rw [ht]
  rw [List.getElem?_take_of_lt hj'] at h1
  simp only [World.cell?, hb, Nat.zero_add]
  simp only [Option.isSome_none, Bool.false_eq_true, if_false]
  rw [← Array.getElem?_toList, h1, ← flatK_pt, Array.getElem?_toList, Array.getElem?_eq_getElem hj, getElem!_pos _ j hj]
  rfl

theorem heap_sortedK {w : World} {g n : Nat} {os : Array Obj} {cur : Array Value} {e : TypeId} {fr : Nat × Nat} (d : Array Pt) (hb : w.heap[g]? = some (.cells cur e fr)) :
    (sortWorldK Pt.cells 9 w g 0 n d os).heap[g]? = some (.cells (putCells id 0 (flatK Pt.cells 9 d) cur) e fr) := by
  have hg : g < w.heap.size := (Array.getElem?_eq_some_iff.1 hb).1
  unfold sortWorldK putRowK
  rw [heap_grow_old _ _ (by simpa using hg)]
  simp [putRow, mapBlock, Sort.ahead, Array.getElem?_modify, hb, onCells]
theorem grownBy_sortedK {w : World} {g n : Nat} {os : Array Obj} (d : Array Pt) : w.grownBy (sortWorldK Pt.cells 9 w g 0 n d os) (some g) := by
  unfold sortWorldK putRowK
  refine ⟨rfl, rfl, rfl, by simp, fun k hk hne => ?_⟩
  rw [heap_grow_old _ _ (by simpa using hk)]
  have : g ≠ k := fun e => hne (by rw [e])
  simp [putRow, mapBlock, Sort.ahead, Array.getElem?_modify, this]
theorem take_putCellsK (cur : Array Value) (ts : List Pt) (h : ts.length * 9 ≤ cur.size) : (putCells id 0 (flatK Pt.cells 9 ts.toArray) cur).toList.take (ts.length * 9) = flatPt ts := by
  rw [← flatK_pt]
  apply List.ext_getElem?
  intro j
  by_cases hj : j < ts.length * 9
  · have hs : j < (flatK Pt.cells 9 ts.toArray).size := by simpa using hj
    rw [List.getElem?_take_of_lt hj, Array.getElem?_toList, Array.getElem?_toList]
    simp [putCells, hj, show j < cur.size by omega]
  · rw [List.getElem?_take_eq_none (by omega), List.getElem?_eq_none (by simp; omega)]
theorem ownsRow_sortedK {w : World} {base g cap n : Nat} {e : TypeId} {os : Array Obj} {cur : Array Value} {ss ts : List Pt} (hl : ts.length = ss.length) (hbase : base ≤ g) (hb : w.heap[g]? = some (.cells cur e (0, 0)))
    (h1 : ss.length ≤ cap) (h2 : cap ≤ maxLen) (h3 : cur.size = cap * 9) :
    (sortWorldK Pt.cells 9 w g 0 n ts.toArray os).ownsRow base e 9 (.slice (some ⟨g, 0, none⟩) ss.length cap) ss.length (flatPt ts) :=
  ⟨by rw [flatPt_len, hl], .inr ⟨g, cap, _, rfl, hbase, heap_sortedK _ hb, h1, h2, by simp [putCells, h3], by rw [← hl]; exact take_putCellsK cur ts (by omega)⟩⟩

theorem pt_agg : ∀ w, (isAgg 36).run Try.prog w = .ok true w := Try.isAgg36
theorem pt_size : ∀ w, (Go.sizeOf 36).run Try.prog w = .ok 9 w := Try.sizeOf36
theorem cmpInt_calls (x y : Int) (w : World) : Calls Try.prog 41 #[.int .i64 x, .int .i64 y] w fun e w' => e = .returned (.int .i64 (compareInt x y)) ∧ w' = w := AnyG.cmp_Compare_int Try.cmpInt x y w
theorem sortPts_calls (ss : List Pt) (blk cap : Nat) (w : World) (hH : HoldsK Pt.cells 9 w blk 0 ss.toArray) (hblk : blk < w.heap.size) (hsz : ss.length < 4611686018427387904) :
    Calls Try.prog 38 #[.slice (some ⟨blk, 0, none⟩) ss.length cap, .func (.func 32) #[] #[]] w fun e w' => e = .returned (.tuple #[]) ∧ ∃ n os, w' = sortWorldK Pt.cells 9 w blk 0 n (sortPts ss).toArray os := by
  have eg : ∀ args w, (callFunc 32 args).run Try.prog w = .ok (.enter 32 args) w := enters_of Try.func32 (by kernel_rfl) rfl
  have h := AnyQ.slices_SortFunc_total Try.sortPt 9 pt_agg pt_size Pt.cells pt_len (fun x u hu => by simp [Pt.cells] at hu; rcases hu with rfl | rfl | rfl | rfl | rfl | rfl | rfl | rfl | rfl <;> rfl) ordI (by rw [ltOf_ord]; exact ltPt_swo) 32 #[] blk 0 cap ss.toArray w eg
    (fun m os dk _ x y => order_calls cmpInt_calls x y _) hH hblk (by simpa using hsz) (by rw [ltOf_ord]; exact ltPt_total)
  rw [ltOf_ord] at h
  exact h

/-- slices.SortedFunc over the iterator of maps.Keys. -/
theorem sortedFunc_calls (Bm b : Nat) (es : Array MapEntry) (clock : Nat) (hst : Stamped es clock) (pc : List (Pt × Coin)) (hpc : es.toList.map (fun e => (e.key, e.val)) = pc.map fun x => (x.1.v, x.2.v)) (hN : pc.length * 16 ≤ 140737488355328)
    (w : World) (hBm : Bm < w.heap.size) (hm : w.cell? ⟨Bm, 0, none⟩ = some (.map (some b))) (hb : w.heap[b]? = some (.map es clock)) :
    Calls Try.prog 30 #[.func (.func 39) #[] #[.pointer (some ⟨Bm, 0, none⟩)], .func (.func 32) #[] #[]] w fun e w' => ∃ v, e = .returned v ∧ w'.ownsRow w.heap.size 36 9 v pc.length (flatPt (sortPts (pc.map (·.1)))) ∧ (v = .slice none 0 0 ↔ pc = []) ∧ Below w.heap.size w w' := by
  have hmax : (140737488355328 : Nat) ≤ maxLen := by decide
  have eg : ∀ args w, (callFunc 39 args).run Try.prog w = .ok (.enter 39 args) w := enters_of Try.func39 (by kernel_rfl) rfl
  have hseq := ptKeys_gives Fence.wide 1 trivial rfl (Nat.le_refl _) Bm b es clock hst pc hpc w hBm hm hb
  have hcol := callsIn_wide.1 (collect_in Fence.wide 3 trivial trivial rfl (Nat.le_refl _) 39 #[.pointer (some ⟨Bm, 0, none⟩)] trivial eg _ pc.length (by omega) hN w hseq)
  go_enter Try.func30, Try.ntmps30
  go_wp2_with (go_at_call 37; refine hcol.mono ?_; rintro e W ⟨v, ss, rfl, hS, hrow, hnil, hbe⟩)
  have hlen : ss.length = pc.length := by have := hS.length_eq; simpa using this
  have hsp : sortPts (pc.map (·.1)) = sortPts ss := (sortPts_of_perm hS).symm
  have hsl : (sortPts ss).length = ss.length := (sortPts_perm ss).length_eq
  rcases hrow.2 with ⟨rfl, hz⟩ | ⟨gb, cap, cur, rfl, hbase, hgb, r1, r2, r3, r4⟩
  · have hss : ss = [] := List.eq_nil_of_length_eq_zero hz
    subst hss
    have hpn : pc = [] := List.eq_nil_of_length_eq_zero (by simpa using hlen.symm)
    have hs0 := AnyF.slices_SortFunc_none (P := Try.prog) (ρ := Try.sortPt_ren) { Try.sortPt with } none 0 (.func (.func 32) #[] #[]) W
    change Calls Try.prog 38 _ _ _ at hs0
    go_wp2_with (go_at_call 38; refine hs0.mono ?_; rintro e w' ⟨rfl, rfl⟩)
    go_ret
    subst hpn
    exact ⟨_, rfl, by simpa [sortPts] using hrow, by simp, hbe⟩
  · have hH : HoldsK Pt.cells 9 W gb 0 ss.toArray := holdsK_of_block hgb r4
    have hgl : gb < W.heap.size := (Array.getElem?_eq_some_iff.1 hgb).1
    have cS := sortPts_calls ss gb cap W hH hgl (by omega)
    go_wp2_with (go_at_call 38; refine cS.mono ?_; rintro e w' ⟨rfl, nn, os, hw'⟩)
    go_ret
    refine ⟨_, rfl, ?_, ⟨fun e => (by cases e), fun e => ?_⟩, ?_⟩
    · rw [hsp, ← hlen]
      have hz := ownsRow_sortedK (n := nn) (os := os) hsl hbase hgb r1 r2 r3
      exact hz
    · subst e
      simp at hlen
      exact absurd (hnil.2 hlen) (by simp)
    · exact hbe.grown (grownBy_sortedK _) hbe.size (fun j hj => by cases hj; exact hbase)

/-- The set's coins lie in a map. -/
theorem points_calls (s b : Nat) (es : Array MapEntry) (clock : Nat) (hst : Stamped es clock) (pc : List (Pt × Coin)) (hpc : es.toList.map (fun e => (e.key, e.val)) = pc.map fun x => (x.1.v, x.2.v)) (hN : pc.length * 16 ≤ 140737488355328)
    (w : World) (hm : w.cell? ⟨s, 0, none⟩ = some (.map (some b))) (hb : w.heap[b]? = some (.map es clock)) :
    Calls Try.prog 21 #[.pointer (some ⟨s, 0, none⟩)] w fun e w' => ∃ v, e = .returned v ∧ w'.ownsRow w.heap.size 36 9 v pc.length (flatPt (sortPts (pc.map (·.1)))) ∧ (v = .slice none 0 0 ↔ pc = []) ∧ Below w.heap.size w w' := by
  have hk := fun W => callsIn_wide.1 (ptKeys_in Fence.wide 1 trivial rfl (some b) W)
  have hbl : b < w.heap.size := (Array.getElem?_eq_some_iff.1 hb).1
  have hs := sortedFunc_calls w.heap.size b es clock hst pc hpc hN (w.alloc (.cells #[.map (some b)] 67)) (by simp) (by simp only [World.cell?, alloc_new]; rfl) ((Below.heap_alloc _ _ _ hbl).trans hb)
  have hbe : Below w.heap.size w (w.alloc (.cells #[.map (some b)] 67)) := (Below.refl _ w).alloc (Nat.le_refl _) _
  go_enter Try.func21, Try.ntmps21
  go_wp2_with (first
    | (go_at_call 31; refine (hk _).mono ?_; rintro e w' ⟨rfl, rfl⟩)
    | (go_at_call 30; refine hs.mono ?_; rintro e w' ⟨v, rfl, hrow, hnil, hb2⟩))
  go_ret
  exact ⟨v, rfl, ownsRow_base_a hrow (by simp), hnil, hbe.trans (hb2.mono (by simp))⟩
end Go.Proofs.Ytfdmlpdhngmbiaa
