/- Parts Vs Ve Vf Pf Wc. -/
import Derived.Test.YtmoohekgheoliaaGreatDoorG24
import Derived.Test.YtmoohekgheoliaaGreatDoorG07
import Derived.Test.YtmoohekgheoliaaGreatDoorG20
import Derived.Test.YtmoohekgheoliaaGreatDoorG11
import Derived.Shelf.SlSortCmp.WholeK
import Derived.Shelf.SlSortCmp.NoneTotal
import Derived.Shelf.SlicesG.Cmp
import Derived.Shelf.SlGeneric
import Derived.Ground.SlsfProg
import Derived.Ground.SlgcProg
import Derived.Test.YtmoohekgheoliaaGreatDoorProg
set_option linter.unusedSimpArgs false
set_option linter.unusedVariables false
namespace Go.Proofs
open Go.Shelf
def Tryz.sortPt_ren : Go.Shelf.Ren := ⟨fun | 6 => 115 | 15 => 140 | 14 => 139 | 28 => 161 | 29 => 162 | 20 => 153 | 21 => 154 | 22 => 155 | 23 => 156 | 24 => 157 | 25 => 158 | 26 => 159 | 27 => 160 | 46 => 166 | 47 => 167 | 48 => 168 | 49 => 169 | 50 => 170 | 57 => 172 | n => n, fun | 22 => 72 | 24 => 60 | 25 => 157 | 3 => 3 | 39 => 118 | 0 => 0 | 53 => 168 | 55 => 172 | 4 => 4 | 46 => 225 | 45 => 224 | 50 => 112 | 5 => 5 | 9 => 9 | 66 => 236 | 70 => 240 | 76 => 242 | 77 => 81 | n => n, fun | n => n⟩
theorem Tryz.sortPt : Go.Proofs.SlLaysF0.n6 Tryz.prog Tryz.sortPt_ren := {
  mixed := by kernel_rfl
  f6 := ⟨Tryz.f115.name, by decide, Tryz.func115.trans (congrArg some (by kernel_rfl))⟩
  f14 := ⟨Tryz.f139.name, by decide, Tryz.func139.trans (congrArg some (by kernel_rfl))⟩
  f15 := Tryz.func140.trans (congrArg some (by kernel_rfl))
  f20 := ⟨Tryz.f153.name, by decide, Tryz.func153.trans (congrArg some (by kernel_rfl))⟩
  f21 := ⟨Tryz.f154.name, by decide, Tryz.func154.trans (congrArg some (by kernel_rfl))⟩
  f22 := ⟨Tryz.f155.name, by decide, Tryz.func155.trans (congrArg some (by kernel_rfl))⟩
  f23 := ⟨Tryz.f156.name, by decide, Tryz.func156.trans (congrArg some (by kernel_rfl))⟩
  f24 := ⟨Tryz.f157.name, by decide, Tryz.func157.trans (congrArg some (by kernel_rfl))⟩
  f25 := ⟨Tryz.f158.name, by decide, Tryz.func158.trans (congrArg some (by kernel_rfl))⟩
  f26 := ⟨Tryz.f159.name, by decide, Tryz.func159.trans (congrArg some (by kernel_rfl))⟩
  f27 := ⟨Tryz.f160.name, by decide, Tryz.func160.trans (congrArg some (by kernel_rfl))⟩
  f28 := Tryz.func161.trans (congrArg some (by kernel_rfl))
  f29 := Tryz.func162.trans (congrArg some (by kernel_rfl))
  f46 := ⟨Tryz.f166.name, by decide, Tryz.func166.trans (congrArg some (by kernel_rfl))⟩
  f47 := Tryz.func167.trans (congrArg some (by kernel_rfl))
  f48 := Tryz.func168.trans (congrArg some (by kernel_rfl))
  f49 := ⟨Tryz.f169.name, by decide, Tryz.func169.trans (congrArg some (by kernel_rfl))⟩
  f50 := ⟨Tryz.f170.name, by decide, Tryz.func170.trans (congrArg some (by kernel_rfl))⟩
  f57 := ⟨Tryz.f172.name, by decide, Tryz.func172.trans (congrArg some (by kernel_rfl))⟩
  t0 := Tryz.underlying0
  a0 := Tryz.isAgg0
  z0 := Tryz.sizeOf0
  v0 := Tryz.zeroValue0
  t3 := Tryz.underlying3
  a3 := Tryz.isAgg3
  z3 := Tryz.sizeOf3
  v3 := Tryz.zeroValue3
  t4 := Tryz.underlying4
  a4 := Tryz.isAgg4
  z4 := Tryz.sizeOf4
  v4 := Tryz.zeroValue4
  t5 := Tryz.underlying5
  a5 := Tryz.isAgg5
  z5 := Tryz.sizeOf5
  v5 := Tryz.zeroValue5
  t9 := Tryz.underlying9
  a9 := Tryz.isAgg9
  z9 := Tryz.sizeOf9
  v9 := Tryz.zeroValue9
  t22 := Tryz.underlying72
  a22 := Tryz.isAgg72
  z22 := Tryz.sizeOf72
  v22 := Tryz.zeroValue72
  t25 := Tryz.underlying157
  a25 := Tryz.isAgg157
  z25 := Tryz.sizeOf157
  v25 := Tryz.zeroValue157
  t39 := Tryz.underlying118
  a39 := Tryz.isAgg118
  z39 := Tryz.sizeOf118
  v39 := Tryz.zeroValue118
  t45 := Tryz.underlying224
  a45 := Tryz.isAgg224
  z45 := Tryz.sizeOf224
  v45 := Tryz.zeroValue224
  t46 := Tryz.underlying225
  a46 := Tryz.isAgg225
  z46 := Tryz.sizeOf225
  v46 := Tryz.zeroValue225
  t50 := Tryz.underlying112
  a50 := Tryz.isAgg112
  z50 := Tryz.sizeOf112
  v50 := Tryz.zeroValue112
  t53 := Tryz.underlying168
  a53 := Tryz.isAgg168
  z53 := Tryz.sizeOf168
  v53 := Tryz.zeroValue168
  t55 := Tryz.underlying172
  a55 := Tryz.isAgg172
  z55 := Tryz.sizeOf172
  v55 := Tryz.zeroValue172
  t66 := Tryz.underlying236
  a66 := Tryz.isAgg236
  z66 := Tryz.sizeOf236
  v66 := Tryz.zeroValue236
  t70 := Tryz.underlying240
  a70 := Tryz.isAgg240
  z70 := Tryz.sizeOf240
  v70 := Tryz.zeroValue240
  t76 := Tryz.underlying242
  a76 := Tryz.isAgg242
  z76 := Tryz.sizeOf242
  v76 := Tryz.zeroValue242
  t77 := Tryz.underlying81
  a77 := Tryz.isAgg81
  z77 := Tryz.sizeOf81
  v77 := Tryz.zeroValue81 }
def Tryz.cmpInt_ren : Go.Shelf.Ren := ⟨fun | 5 => 118 | 7 => 142 | n => n, fun | 22 => 3 | 3 => 3 | 4 => 4 | n => n, fun | n => n⟩
theorem Tryz.cmpInt : Go.Proofs.SlLaysC2.n5 Tryz.prog Tryz.cmpInt_ren := {
  mixed := by kernel_rfl
  f5 := ⟨Tryz.f118.name, by decide, Tryz.func118.trans (congrArg some (by kernel_rfl))⟩
  f7 := ⟨Tryz.f142.name, by decide, Tryz.func142.trans (congrArg some (by kernel_rfl))⟩
  t3 := Tryz.underlying3
  a3 := Tryz.isAgg3
  z3 := Tryz.sizeOf3
  v3 := Tryz.zeroValue3
  t4 := Tryz.underlying4
  a4 := Tryz.isAgg4
  z4 := Tryz.sizeOf4
  v4 := Tryz.zeroValue4
  t22 := Tryz.underlying3
  a22 := Tryz.isAgg3
  z22 := Tryz.sizeOf3
  v22 := Tryz.zeroValue3 }
end Go.Proofs
namespace Go.Proofs.YtmoohekgheoliaaGreatDoor
set_option maxRecDepth 100000
open Go.RowKit Go.Lib Go.Sort Go.MapKept Go.Shelf
theorem flatPt_get : ∀ (ss : List Pt) (i j : Nat), j < 9 → (flatPt ss)[i * 9 + j]? = (ss[i]?).bind fun x => x.cells[j]?
  | [], i, j, _ => by simp [flatPt]
  | x :: r, 0, j, hj => by
    simp only [flatPt, List.flatMap_cons, Nat.zero_mul, Nat.zero_add, List.getElem?_cons_zero, Option.bind_some]
    rw [List.getElem?_append_left (by simpa [Pt.cells] using hj)]
  | x :: r, i + 1, j, hj => by
    have := flatPt_get r i j hj
    simp only [flatPt] at this ⊢
    simp only [List.flatMap_cons, List.getElem?_cons_succ]
    rw [List.getElem?_append_right (by simp [Pt.cells]; omega), ← this]
    congr 1
    simp [Pt.cells]; omega
theorem pt_len (x : Pt) : x.cells.length = 9 := rfl
theorem flatK_pt (ss : List Pt) : (flatK Pt.cells 9 ss.toArray).toList = flatPt ss := by
  apply List.ext_getElem?
  intro t
  by_cases ht : t < ss.length * 9
  · have h1 : t / 9 < ss.length := by omega
    have h2 : t % 9 < 9 := Nat.mod_lt _ (by omega)
    have h3 : t = t / 9 * 9 + t % 9 := by omega
    have hs : t < (flatK Pt.cells 9 ss.toArray).size := by simpa using ht
    have e := get_flatK Pt.cells 9 ss.toArray t (by simpa using ht)
    rw [getElem!_pos _ t hs] at e
    rw [Array.getElem?_toList, Array.getElem?_eq_getElem hs, e]
    conv => rhs; rw [h3]
    rw [flatPt_get ss _ _ h2]
    have e2 : ss.toArray[t / 9]! = ss[t / 9] := by simp [h1]
    rw [e2, List.getElem?_eq_getElem h1, Option.bind_some]
    rw [getElem!_pos _ _ (by rw [pt_len]; exact h2), List.getElem?_eq_getElem]
  · rw [List.getElem?_eq_none (by simp; omega), List.getElem?_eq_none (by rw [flatPt_len]; omega)]
theorem holdsK_of_block {w : World} {g : Nat} {cur : Array Value} {e : TypeId} {ss : List Pt} (hb : w.heap[g]? = some (.cells cur e (0, 0))) (ht : cur.toList.take (ss.length * 9) = flatPt ss) : HoldsK Pt.cells 9 w g 0 ss.toArray := by
  intro j hj
  have hj' : j < ss.length * 9 := by simpa using hj
  refine ⟨?_, by simp [World.frozen?, hb]⟩
  have h1 : (cur.toList.take (ss.length * 9))[j]? = (flatPt ss)[j]? := by rw [ht]
  rw [List.getElem?_take_of_lt hj'] at h1
  simp only [World.cell?, hb, Nat.zero_add]
  simp only [Option.isSome_none, Bool.false_eq_true, if_false]
  rw [← Array.getElem?_toList, h1, ← flatK_pt, Array.getElem?_toList, Array.getElem?_eq_getElem hj, getElem!_pos _ j hj]
  rfl
theorem heap_sortedK {w : World} {g n : Nat} {os : Array Obj} {cur : Array Value} {e : TypeId} {fr : Nat × Nat} (d : Array Pt) (hb : w.heap[g]? = some (.cells cur e fr)) :
    (sortWorldK Pt.cells 9 w g 0 n d os).heap[g]? = some (.cells (putCells id 0 (flatK Pt.cells 9 d) cur) e fr) := by
  have hg : g < w.heap.size := (Array.getElem?_eq_some_iff.1 hb).1
  unfold sortWorldK putRowK
  rw [heap_grow_old _ _ (by simpa using hg)]
  simp [putRow, mapBlock, Sort.ahead, Array.getElem?_modify, hb, onCells]
theorem grownBy_sortedK {w : World} {g n : Nat} {os : Array Obj} (d : Array Pt) : w.grownBy (sortWorldK Pt.cells 9 w g 0 n d os) (some g) := by
  unfold sortWorldK putRowK
  refine ⟨rfl, rfl, rfl, by simp, fun k hk hne => ?_⟩
  rw [heap_grow_old _ _ (by simpa using hk)]
  have : g ≠ k := fun e => hne (by rw [e])
  simp [putRow, mapBlock, Sort.ahead, Array.getElem?_modify, this]
theorem take_putCellsK (cur : Array Value) (ts : List Pt) (h : ts.length * 9 ≤ cur.size) : (putCells id 0 (flatK Pt.cells 9 ts.toArray) cur).toList.take (ts.length * 9) = flatPt ts := by
  rw [← flatK_pt]
  apply List.ext_getElem?
  intro j
  by_cases hj : j < ts.length * 9
  · have hs : j < (flatK Pt.cells 9 ts.toArray).size := by simpa using hj
    rw [List.getElem?_take_of_lt hj, Array.getElem?_toList, Array.getElem?_toList]
    simp [putCells, hj, show j < cur.size by omega]
  · rw [List.getElem?_take_eq_none (by omega), List.getElem?_eq_none (by simp; omega)]
theorem ownsRow_sortedK {w : World} {base g cap n : Nat} {e : TypeId} {os : Array Obj} {cur : Array Value} {ss ts : List Pt} (hl : ts.length = ss.length) (hbase : base ≤ g) (hb : w.heap[g]? = some (.cells cur e (0, 0)))
    (h1 : ss.length ≤ cap) (h2 : cap ≤ maxLen) (h3 : cur.size = cap * 9) :
    (sortWorldK Pt.cells 9 w g 0 n ts.toArray os).ownsRow base e 9 (.slice (some ⟨g, 0, none⟩) ss.length cap) ss.length (flatPt ts) :=
  ⟨by rw [flatPt_len, hl], .inr ⟨g, cap, _, rfl, hbase, heap_sortedK _ hb, h1, h2, by simp [putCells, h3], by rw [← hl]; exact take_putCellsK cur ts (by omega)⟩⟩
theorem pt_agg : ∀ w, (isAgg 60).run Tryz.prog w = .ok true w := Tryz.isAgg60
theorem pt_size : ∀ w, (Go.sizeOf 60).run Tryz.prog w = .ok 9 w := Tryz.sizeOf60
theorem cmpInt_calls (x y : Int) (w : World) : Calls Tryz.prog 118 #[.int .i64 x, .int .i64 y] w fun e w' => e = .returned (.int .i64 (compareInt x y)) ∧ w' = w := AnyG.cmp_Compare_int Tryz.cmpInt x y w
theorem sortPts_calls (ss : List Pt) (blk cap : Nat) (w : World) (hH : HoldsK Pt.cells 9 w blk 0 ss.toArray) (hblk : blk < w.heap.size) (hsz : ss.length < 4611686018427387904) :
    Calls Tryz.prog 115 #[.slice (some ⟨blk, 0, none⟩) ss.length cap, .func (.func 88) #[] #[]] w fun e w' => e = .returned (.tuple #[]) ∧ ∃ n os, w' = sortWorldK Pt.cells 9 w blk 0 n (sortPts ss).toArray os := by
  have eg : ∀ args w, (callFunc 88 args).run Tryz.prog w = .ok (.enter 88 args) w := enters_of Tryz.func88 (by kernel_rfl) rfl
  have h := AnyQ.slices_SortFunc_total Tryz.sortPt 9 pt_agg pt_size Pt.cells pt_len (fun x u hu => by simp [Pt.cells] at hu; rcases hu with rfl | rfl | rfl | rfl | rfl | rfl | rfl | rfl | rfl <;> rfl) ordI (by rw [ltOf_ord]; exact ltPt_swo) 88 #[] blk 0 cap ss.toArray w eg
    (fun m os dk _ x y => order_calls cmpInt_calls x y _) hH hblk (by simpa using hsz) (by rw [ltOf_ord]; exact ltPt_total)
  rw [ltOf_ord] at h
  exact h
theorem sortedFunc_calls (Bm b : Nat) (es : Array MapEntry) (clock : Nat) (hst : Stamped es clock) (pc : List (Pt × Coin)) (hpc : es.toList.map (fun e => (e.key, e.val)) = pc.map fun x => (x.1.v, x.2.v)) (hN : pc.length * 16 ≤ 140737488355328)
    (w : World) (hBm : Bm < w.heap.size) (hm : w.cell? ⟨Bm, 0, none⟩ = some (.map (some b))) (hb : w.heap[b]? = some (.map es clock)) :
    Calls Tryz.prog 86 #[.func (.func 116) #[] #[.pointer (some ⟨Bm, 0, none⟩)], .func (.func 88) #[] #[]] w fun e w' => ∃ v, e = .returned v ∧ w'.ownsRow w.heap.size 60 9 v pc.length (flatPt (sortPts (pc.map (·.1)))) ∧ (v = .slice none 0 0 ↔ pc = []) ∧ Below w.heap.size w w' := by
  have hmax : (140737488355328 : Nat) ≤ maxLen := by decide
  have eg : ∀ args w, (callFunc 116 args).run Tryz.prog w = .ok (.enter 116 args) w := enters_of Tryz.func116 (by kernel_rfl) rfl
  have hseq := ptKeys_gives Fence.wide 1 trivial rfl (Nat.le_refl _) Bm b es clock hst pc hpc w hBm hm hb
  have hcol := callsIn_wide.1 (collect_in Fence.wide 3 trivial trivial rfl (Nat.le_refl _) 116 #[.pointer (some ⟨Bm, 0, none⟩)] trivial eg _ pc.length (by omega) hN w hseq)
  go_enter Tryz.func86, Tryz.ntmps86
  go_wp2_with (go_at_call 114; refine hcol.mono ?_; rintro e W ⟨v, ss, rfl, hS, hrow, hnil, hbe⟩)
  have hlen : ss.length = pc.length := by have := hS.length_eq; simpa using this
  have hsp : sortPts (pc.map (·.1)) = sortPts ss := (sortPts_of_perm hS).symm
  have hsl : (sortPts ss).length = ss.length := (sortPts_perm ss).length_eq
  rcases hrow.2 with ⟨rfl, hz⟩ | ⟨gb, cap, cur, rfl, hbase, hgb, r1, r2, r3, r4⟩
  · have hss : ss = [] := List.eq_nil_of_length_eq_zero hz
    subst hss
    have hpn : pc = [] := List.eq_nil_of_length_eq_zero (by simpa using hlen.symm)
    have hs0 := AnyF.slices_SortFunc_none (P := Tryz.prog) (ρ := Tryz.sortPt_ren) { Tryz.sortPt with } none 0 (.func (.func 88) #[] #[]) W
    change Calls Tryz.prog 115 _ _ _ at hs0
    go_wp2_with (go_at_call 115; refine hs0.mono ?_; rintro e w' ⟨rfl, rfl⟩)
    go_ret
    subst hpn
    exact ⟨_, rfl, by simpa [sortPts] using hrow, by simp, hbe⟩
  · have hH : HoldsK Pt.cells 9 W gb 0 ss.toArray := holdsK_of_block hgb r4
    have hgl : gb < W.heap.size := (Array.getElem?_eq_some_iff.1 hgb).1
    have cS := sortPts_calls ss gb cap W hH hgl (by omega)
    go_wp2_with (go_at_call 115; refine cS.mono ?_; rintro e w' ⟨rfl, nn, os, hw'⟩)
    go_ret
    refine ⟨_, rfl, ?_, ⟨fun e => (by cases e), fun e => ?_⟩, ?_⟩
    · rw [hsp, ← hlen]
      have hz := ownsRow_sortedK (n := nn) (os := os) hsl hbase hgb r1 r2 r3
      exact hz
    · subst e
      simp at hlen
      exact absurd (hnil.2 hlen) (by simp)
    · exact hbe.grown (grownBy_sortedK _) hbe.size (fun j hj => by cases hj; exact hbase)
theorem points_calls (s b : Nat) (es : Array MapEntry) (clock : Nat) (hst : Stamped es clock) (pc : List (Pt × Coin)) (hpc : es.toList.map (fun e => (e.key, e.val)) = pc.map fun x => (x.1.v, x.2.v)) (hN : pc.length * 16 ≤ 140737488355328)
    (w : World) (hm : w.cell? ⟨s, 0, none⟩ = some (.map (some b))) (hb : w.heap[b]? = some (.map es clock)) :
    Calls Tryz.prog 45 #[.pointer (some ⟨s, 0, none⟩)] w fun e w' => ∃ v, e = .returned v ∧ w'.ownsRow w.heap.size 60 9 v pc.length (flatPt (sortPts (pc.map (·.1)))) ∧ (v = .slice none 0 0 ↔ pc = []) ∧ Below w.heap.size w w' := by
  have hk := fun W => callsIn_wide.1 (ptKeys_in Fence.wide 1 trivial rfl (some b) W)
  have hbl : b < w.heap.size := (Array.getElem?_eq_some_iff.1 hb).1
  have hs := sortedFunc_calls w.heap.size b es clock hst pc hpc hN (w.alloc (.cells #[.map (some b)] 102)) (by simp) (by simp only [World.cell?, alloc_new]; rfl) ((Below.heap_alloc _ _ _ hbl).trans hb)
  have hbe : Below w.heap.size w (w.alloc (.cells #[.map (some b)] 102)) := (Below.refl _ w).alloc (Nat.le_refl _) _
  go_enter Tryz.func45, Tryz.ntmps45
  go_wp2_with (first
    | (go_at_call 87; refine (hk _).mono ?_; rintro e w' ⟨rfl, rfl⟩)
    | (go_at_call 86; refine hs.mono ?_; rintro e w' ⟨v, rfl, hrow, hnil, hb2⟩))
  go_ret
  exact ⟨v, rfl, ownsRow_base_a hrow (by simp), hnil, hbe.trans (hb2.mono (by simp))⟩
end Go.Proofs.YtmoohekgheoliaaGreatDoor
namespace Go.Proofs.YtmoohekgheoliaaGreatDoor
set_option maxRecDepth 100000
open Go.Sx
theorem flatPt_as (l : List Pt) (n : Nat) (hn : l.length = n) : FlatAs 9 n (fun i => (l.getD i default).cells) (flatPt l) := by
  intro i hi
  refine ⟨rfl, fun j v hj => ?_⟩
  have hjl : j < 9 := by have := (List.getElem?_eq_some_iff.1 hj).1; simpa [Pt.cells] using this
  rw [flatPt_get l i j hjl]
  have hil : i < l.length := by omega
  dsimp only at hj
  rw [List.getD_eq_getElem?_getD] at hj
  rw [List.getElem?_eq_getElem hil] at hj ⊢
  exact hj
theorem USet.at {β : Nat → Sx.Loc} {ow : Nat → Option Nat} {w : World} {c : Nat} {S : USet} (h : Holds β ow w c (.abs (usetP S))) : (β c).base = 0 ∧ ∃ b es clock, w.cell? ⟨(β c).blk, 0, none⟩ = some (.map (some b)) ∧ w.heap[b]? = some (.map es clock) ∧ MapKept.Stamped es clock ∧
    es.toList.map (fun e => (e.key, e.val)) = S.coins.map fun x => (x.1.v, x.2.v) := by
  obtain ⟨_, hb, _, _, β', ow', hw, e1, e2, e3, _, _, hall⟩ := h
  have h0 := hall 0 _ rfl
  have h1 := hall 1 _ rfl
  obtain ⟨_, _, _, arr, ha, hrel⟩ := h0
  obtain ⟨_, _, _, es, clock, hm, hs, hl⟩ := h1
  refine ⟨hb, (β' 1).blk, es, clock, ?_, hm, hs, hl⟩
  obtain ⟨v, r, hv, hv1, _⟩ := hrel
  simp only [SV.rel] at hv1
  subst hv1
  rw [← e1]
  simp only [World.cell?, ha]
  have : arr.toList[0]? = some (.map (some (β' 1).blk)) := by rw [hv]; rfl
  simpa using this
def USet.points (S : USet) : List Pt := sortPts (S.coins.map (·.1))
theorem USet.points_len (S : USet) : S.points.length = S.coins.length := by rw [USet.points, (sortPts_perm _).length_eq]; simp
theorem points_spec (S : USet) (hN : S.coins.length * 16 ≤ 140737488355328) {M : Mem} {c0 d : Nat} (hM : M.get c0 = some (.abs (usetP S))) :
    CallSpec Tryz.prog 45 [.one (.ptr c0 0 0 0)] M d { v := XV.sv (.slc d 9 0 S.coins.length), upd := [(d, .vec 60 9 S.coins.length fun i => (S.points.getD i default).cells)] } [c0] := by
  refine row_spec fun β ow w vs hw hvs hr => ?_
  have h := hr c0 (by simp) _ hM
  obtain ⟨hb, b, es, clock, h1, h2, h3, h4⟩ := USet.at h
  obtain ⟨v, r, rfl, hv, rfl⟩ := hvs
  simp only [CV.rel, SV.rel, Sx.Loc.addr, hb] at hv
  subst hv
  refine (points_calls (β c0).blk b es clock h3 S.coins h4 hN w h1 h2).mono ?_
  rintro e w' ⟨v, rfl, hrow, _, hbe⟩
  exact ⟨v, _, rfl, hrow, flatPt_as S.points _ S.points_len, hbe⟩
end Go.Proofs.YtmoohekgheoliaaGreatDoor
namespace Go.Proofs.YtmoohekgheoliaaGreatDoor
set_option maxRecDepth 100000
open Go.Sx
theorem points_mem {S : USet} (p : Pt) : p ∈ S.points ↔ S.has p = true := by
  rw [USet.points, (sortPts_perm _).mem_iff]
  constructor
  · intro h
    obtain ⟨x, hx, rfl⟩ := List.mem_map.1 h
    cases hh : S.has x.1 with
    | true => rfl
    | false => exact absurd rfl (mget_key hh x hx)
  · intro h
    exact List.mem_map.2 ⟨_, mget_mem (has_get h), rfl⟩
def USet.pt (S : USet) (i : Nat) : Pt := S.points.getD i default
theorem pt_eq {S : USet} {i : Nat} (hi : i < S.coins.length) : S.points[i]? = some (S.pt i) := by
  have : i < S.points.length := by rw [S.points_len]; exact hi
  rw [USet.pt, List.getD_eq_getElem?_getD, List.getElem?_eq_getElem this]; rfl
theorem pt_has {S : USet} {i : Nat} (hi : i < S.coins.length) : S.has (S.pt i) = true := (points_mem _).1 (List.mem_of_getElem? (pt_eq hi))
section
variable {S : USet} {R : RC} {zs : List (Pt × Coin)}
theorem TwinZ.points (h : TwinZ S R zs) : S.points = R.P := by
  rw [h.P]
  refine sorted_one ((sortPts_perm _).trans (h.perm.map _).symm) (sortPts_sorted _) ?_
  rw [List.pairwise_map]
  exact h.srt.imp fun {a b} hab => by rw [ltPt_asymm hab]; rfl
end
theorem get_there (S : USet) (p : Pt) (hp : S.has p = true) {M : Mem} {c0 d : Nat} (hM : M.get c0 = some (.abs (usetP S))) (hd : Nat.beq d c0 = false) : CallSpec Tryz.prog 16 [.one (.ptr c0 0 0 0), p.cv] M d { v := .tup [(S.get p).cv, .one (.raw (.bool true))], upd := [(c0, .abs (usetP S))], wr := [c0] } [c0] := by
  have h := get_spec S p hM hd
  rw [hp] at h
  exact h
theorem spec_obj2 {P : Program} {T : TyTab} {f : FuncId} {fn : Func} {c : Code} (hT : TabOK P T) (hf : P.funcs[f]? = some fn) (hb : fn.body = some c) {A B A' B' : AbsP} (X : XV) (hX : X.ok (fun _ => false) = true)
    {M : Mem} {c0 c1 d : Nat} (h0 : M.get c0 = some (.abs A)) (h1 : M.get c1 = some (.abs B)) (hne : (Nat.beq c0 c1 || Nat.beq d c0 || Nat.beq d c1) = false)
    (h : ∀ C : Ctx, C.n0 = 2 → Tri P C c ⟨slots0 fn.ntmps [.cv (.one (.ptr 0 0 0 0)), .cv (.one (.ptr 1 0 0 0))], [(0, .abs A), (1, .abs B)], 2⟩ (Sx.Ends C T fn.results.toList 2 2 ⟨X, [(0, .abs A'), (1, .abs B')], none⟩)) :
    CallSpec P f [.one (.ptr c0 0 0 0), .one (.ptr c1 0 0 0)] M d { v := X, upd := [(c0, .abs A'), (c1, .abs B')], wr := [c0, c1] } [c0, c1] := by
  simp only [Bool.or_eq_false_iff, nbeq, decide_eq_false_iff_not] at hne
  obtain ⟨⟨n1, n2⟩, n3⟩ := hne
  have get2 : ∀ (i : Nat) (x y ch : Chunk), Mem.get [(0, x), (1, y)] i = some ch → (i = 0 ∧ ch = x) ∨ (i = 1 ∧ ch = y) := by
    intro i x y ch hi
    simp only [Mem.get, nbeq] at hi
    by_cases e0 : 0 = i
    · subst e0; simp at hi; exact .inl ⟨rfl, hi.symm⟩
    · by_cases e1 : 1 = i
      · subst e1; simp at hi; exact .inr ⟨rfl, hi.symm⟩
      · simp [e0, e1] at hi
  refine spec_of_text (ids := [c0, c1]) (rids := []) (Xl := [.one (.ptr 0 0 0 0), .one (.ptr 1 0 0 0)]) (M0 := [(0, .abs A), (1, .abs B)]) (out := ⟨X, [(0, .abs A'), (1, .abs B')], none⟩) (k1 := 2) (n0 := 2) hT hf hb (by simp [n1]) rfl rfl (by simp [n2, n3]) rfl (fun i ch hi => ?_) (fun i ch hi => ?_) (fun i ch hi => by cases hi) (XV.ok_mono (fun _ h => by cases h) hX) h rfl (XV.ren_closed hX).symm rfl (fun q ch hq => ?_)
  · rcases get2 _ _ _ _ hi with ⟨rfl, rfl⟩ | ⟨rfl, rfl⟩
    · exact ⟨by decide, rfl, fun h => by omega, fun ci hci => by simp at hci; subst hci; exact h0⟩
    · exact ⟨by decide, rfl, fun h => by omega, fun ci hci => by simp at hci; subst hci; exact h1⟩
  · rcases get2 _ _ _ _ hi with ⟨rfl, rfl⟩ | ⟨rfl, rfl⟩ <;> exact ⟨rfl, rfl⟩
  · simp only [Mem.get, nbeq] at hq
    by_cases e0 : c0 = q
    · subst e0; simp at hq; subst hq; exact .inl ⟨0, rfl, rfl⟩
    · by_cases e1 : c1 = q
      · subst e1; simp [e0] at hq; subst hq; exact .inl ⟨1, rfl, rfl⟩
      · simp [e0, e1] at hq
def sameSt (S : USet) (R : RC) (i : Nat) : St :=
  ⟨[some (XV.sv (.ptr 0 0 0 0)), some (XV.sv (.ptr 1 0 0 0)), none, none, some (XV.bool false), some (XV.sv (.slc 2 9 0 S.coins.length)), some (XV.int .i64 i)] ++ List.replicate 72 none,
   [(0, .abs (usetP S)), (1, R.root 3 4), (2, .vec 60 9 S.coins.length fun i => (S.points.getD i default).cells), (3, R.vecP), (4, R.vecC)], 5⟩
set_option maxHeartbeats 4000000 in
set_option maxRecDepth 100000 in
theorem same_spec (S : USet) (R : RC) (hT : Twin S R) (hlen : S.coins.length ≤ 1000) {M : Mem} {c0 c1 d : Nat} (h0 : M.get c0 = some (.abs (usetP S))) (h1 : M.get c1 = some (.abs (rcP R))) (hne : (Nat.beq c0 c1 || Nat.beq d c0 || Nat.beq d c1) = false) :
    CallSpec Tryz.prog 20 [.one (.ptr c0 0 0 0), .one (.ptr c1 0 0 0)] M d { v := XV.bool true, upd := [(c0, .abs (usetP S)), (c1, .abs (rcP R))], wr := [c0, c1] } [c0, c1] := by
  obtain ⟨zs, hz⟩ := hT
  have hzl : zs.length = S.coins.length := hz.perm.length_eq
  have hPl : R.P.length = S.coins.length := by rw [hz.len.1, hzl]
  have hCl : R.C.length = S.coins.length := by rw [hz.len.2, hzl]
  refine spec_obj2 Tryz.T_ok Tryz.func20 rfl _ rfl h0 h1 hne (fun C hC => ?_)
  have hC0 : ∀ ids : List Nat, ids[0]? = some 0 → ids[1]? = some 1 → ∀ i, i < C.n0 → ids[i]? = some i := fun ids e0 e1 i hi => by
    rw [hC] at hi
    match i, hi with
    | 0, _ => exact e0
    | 1, _ => exact e1
  (refine Tri.cut 2 Tryz.mixed Tryz.T_ok ?_; ((conv => arg 5; whnf); repeat (refine xS ?_; conv => arg 5; whnf)))
  (apply wP; exact (call_op rfl (entersB_of Tryz.func45 (by kernel_rfl)) rfl (points_spec S (by omega) rfl)); ((conv => arg 5; whnf); repeat (refine xS ?_; conv => arg 5; whnf)))
  refine wD <| cutG ?_
  refine RC.opens R 1 rfl ?_
  (refine Tri.cut 1 Tryz.mixed Tryz.T_ok ?_; ((conv => arg 5; whnf); repeat (refine xS ?_; conv => arg 5; whnf)))
  refine wC (fun h => absurd h (by rw [hPl]; simp)) (fun _ => ?_)
  (refine wGo ?_; ((conv => arg 5; whnf); repeat (refine xS ?_; conv => arg 5; whnf)))
  (apply wP; exact (call_op rfl (entersB_of Tryz.func17 (by kernel_rfl)) rfl (len_spec S rfl rfl)); ((conv => arg 5; whnf); repeat (refine xS ?_; conv => arg 5; whnf)))
  refine wC (fun h => absurd h (by rw [hPl]; simp)) (fun _ => ?_)
  (refine wGo ?_; ((conv => arg 5; whnf); repeat (refine xS ?_; conv => arg 5; whnf)))
  (apply wP; exact (call_op rfl (entersB_of Tryz.func13 (by kernel_rfl)) rfl (total_spec S rfl rfl)); ((conv => arg 5; whnf); repeat (refine xS ?_; conv => arg 5; whnf)))
  (apply wP; exact (call_op rfl (entersB_of Tryz.func46 (by kernel_rfl)) rfl (rcTotal_spec R (by omega) (i1 := 7) (i2 := 8) rfl rfl rfl rfl rfl)); ((conv => arg 5; whnf); repeat (refine xS ?_; conv => arg 5; whnf)))
  refine wC (fun h => absurd h (by rw [hz.sum]; simp)) (fun _ => ?_)
  (refine wGo ?_; ((conv => arg 5; whnf); repeat (refine xS ?_; conv => arg 5; whnf)))
  refine wD <| cutG <| Tri.seq ?_
  (refine Tri.cut 1 Tryz.mixed Tryz.T_ok ?_; ((conv => arg 5; whnf); repeat (refine xS ?_; conv => arg 5; whnf)))
  refine wD <| cutG <| Tri.block ?_
  refine Tri.loop (α := { i : Nat // i ≤ S.coins.length }) (fun i => sameSt S R i.1) (fun i => S.coins.length - i.1) ⟨0, Nat.zero_le _⟩ ?_ ?_
  · exact Ent.ren [0, 1, 4, 7, 8] (by decide) rfl (hC0 _ rfl rfl) (by rw [hC]; decide) rfl ⟨rfl, rfl, rfl, rfl, rfl, trivial⟩ ⟨⟨_, rfl, rfl⟩, ⟨_, rfl, rfl, rfl⟩, ⟨_, rfl, rfl, rfl, Nat.le_refl _, fun _ _ => rfl⟩, ⟨_, rfl, rfl, rfl, Nat.le_refl _, fun _ _ => rfl⟩, ⟨_, rfl, rfl, rfl, Nat.le_refl _, fun _ _ => rfl⟩, trivial⟩
  rintro ⟨i, hi⟩
  dsimp only
  (refine Tri.cut 1 Tryz.mixed Tryz.T_ok ?_; ((conv => arg 5; whnf); repeat (refine xS ?_; conv => arg 5; whnf)))
  refine wC (fun h3 => ?_) (fun h3 => ?_)
  case refine_2 =>
    (refine wGo ?_; ((conv => arg 5; whnf); repeat (refine xS ?_; conv => arg 5; whnf)))
    refine wD <| cutE <| loopX <| blockX <| cutG <| Tri.of Tryz.mixed Tryz.T_ok ?_
    (refine wBegin ?_; ((conv => arg 5; whnf); repeat (refine xS ?_; conv => arg 5; whnf)))
    refine wD ⟨.inr rfl, _, RC.shuts R 1 rfl rfl rfl rfl rfl rfl (Nat.le_refl _) (Nat.le_refl _) (fun _ _ => rfl) (fun _ _ => rfl), rfl, fun j ch hj => ?_, fun j ch hj => by cases hj⟩
    simp only [Mem.get, nbeq] at hj
    by_cases e0 : 0 = j
    · subst e0; simp at hj; subst hj; exact ⟨by decide, rfl⟩
    · by_cases e1 : 1 = j
      · subst e1; simp at hj; subst hj; exact ⟨by decide, rfl⟩
      · simp [e0, e1] at hj
  (refine wGo ?_; ((conv => arg 5; whnf); repeat (refine xS ?_; conv => arg 5; whnf)))
  have h3' : i < S.coins.length := by simp only [decide_eq_true_eq] at h3; omega
  have hwi : IntKind.i64.wrap ((i : Int) + 1) = ((i + 1 : Nat) : Int) := by rw [wrap_i64 (by omega) (by omega)]; omega
  have hgi : S.points.getD (0 + ((i : Nat) : Int).toNat) default = S.pt i := by simp [USet.pt]
  have hp : S.has (S.points.getD (0 + ((i : Nat) : Int).toNat) default) = true := by rw [hgi]; exact pt_has h3'
  have hPi : R.P.getD (0 + ((i : Nat) : Int).toNat) default = S.points.getD (0 + ((i : Nat) : Int).toNat) default := by rw [hz.points]
  have hCi : R.C.getD (0 + ((i : Nat) : Int).toNat) default = S.get (S.points.getD (0 + ((i : Nat) : Int).toNat) default) := by
    have ha := hz.at (i := i) (by omega)
    have e : (0 + ((i : Nat) : Int).toNat) = i := by omega
    rw [← hPi, e]
    unfold USet.get
    rw [ha.1, ha.2.2, ha.2.1]
    rfl
  refine wD <| cutG <| Tri.seq <| Tri.block <| Tri.of Tryz.mixed Tryz.T_ok ?_
  (refine wBegin ?_; ((conv => arg 5; whnf); repeat (refine xS ?_; conv => arg 5; whnf)))
  refine wN ⟨by omega, by omega⟩ ?_
  (refine wGo ?_; ((conv => arg 5; whnf); repeat (refine xS ?_; conv => arg 5; whnf)))
  refine wN (by omega) ?_
  (refine wGo ?_; ((conv => arg 5; whnf); repeat (refine xS ?_; conv => arg 5; whnf)))
  (apply wP; exact (call_op rfl (entersB_of Tryz.func16 (by kernel_rfl)) rfl (get_there S (S.points.getD (0 + ((i : Nat) : Int).toNat) default) hp rfl rfl)); ((conv => arg 5; whnf); repeat (refine xS ?_; conv => arg 5; whnf)))
  refine wN ⟨by omega, by omega⟩ ?_
  (refine wGo ?_; ((conv => arg 5; whnf); repeat (refine xS ?_; conv => arg 5; whnf)))
  refine wN (by omega) ?_
  (refine wGo ?_; ((conv => arg 5; whnf); repeat (refine xS ?_; conv => arg 5; whnf)))
  refine wN ⟨by omega, by omega⟩ ?_
  (refine wGo ?_; ((conv => arg 5; whnf); repeat (refine xS ?_; conv => arg 5; whnf)))
  refine wN (by omega) ?_
  (refine wGo ?_; ((conv => arg 5; whnf); repeat (refine xS ?_; conv => arg 5; whnf)))
  (refine wP _ _ (neq_op ptE rfl (S.points.getD (0 + ((i : Nat) : Int).toNat) default) (R.P.getD (0 + ((i : Nat) : Int).toNat) default) rfl rfl) ?_; ((conv => arg 5; whnf); repeat (refine xS ?_; conv => arg 5; whnf)))
  refine wC (fun h => absurd h (by rw [hPi]; simp)) (fun _ => ?_)
  (refine wGo ?_; ((conv => arg 5; whnf); repeat (refine xS ?_; conv => arg 5; whnf)))
  refine wN ⟨by omega, by omega⟩ ?_
  (refine wGo ?_; ((conv => arg 5; whnf); repeat (refine xS ?_; conv => arg 5; whnf)))
  refine wN (by omega) ?_
  (refine wGo ?_; ((conv => arg 5; whnf); repeat (refine xS ?_; conv => arg 5; whnf)))
  (apply wP; exact (call_op rfl (entersB_of Tryz.func30 (by kernel_rfl)) rfl (lawCoin_spec (R.C.getD (0 + ((i : Nat) : Int).toNat) default) _ _)); ((conv => arg 5; whnf); repeat (refine xS ?_; conv => arg 5; whnf)))
  (refine wP _ _ (neq_op coinE rfl (S.get (S.points.getD (0 + ((i : Nat) : Int).toNat) default)) (R.C.getD (0 + ((i : Nat) : Int).toNat) default) rfl rfl) ?_; ((conv => arg 5; whnf); repeat (refine xS ?_; conv => arg 5; whnf)))
  refine wC (fun h => absurd h (by rw [hCi]; simp)) (fun _ => ?_)
  (refine wGo ?_; ((conv => arg 5; whnf); repeat (refine xS ?_; conv => arg 5; whnf)))
  refine wD <| blockN <| Tri.of Tryz.mixed Tryz.T_ok ?_
  (refine wBegin ?_; ((conv => arg 5; whnf); repeat (refine xS ?_; conv => arg 5; whnf)))
  refine wD <| loopN ⟨⟨i + 1, h3'⟩, by simp only; omega, ?_⟩
  exact Ent.ren [0, 1, 2, 3, 4] (by decide) rfl (hC0 _ rfl rfl) (by rw [hC]; decide) rfl ⟨rfl, rfl, rfl, rfl, congrArg (fun n : Int => some (XV.int .i64 n)) hwi, trivial⟩ ⟨⟨_, rfl, rfl⟩, ⟨_, rfl, rfl, rfl⟩, ⟨_, rfl, rfl, rfl, Nat.le_refl _, fun _ _ => rfl⟩, ⟨_, rfl, rfl, rfl, Nat.le_refl _, fun _ _ => rfl⟩, ⟨_, rfl, rfl, rfl, Nat.le_refl _, fun _ _ => rfl⟩, trivial⟩
end Go.Proofs.YtmoohekgheoliaaGreatDoor
namespace Go.Proofs.YtmoohekgheoliaaGreatDoor
set_option maxRecDepth 100000
open Go.Sx
theorem grow_step {F g : Nat → List Value} {k j : Nat} (hg : g 0 = F k) (hj : j < k + 1) : joinF F k g j = F j := by
  simp only [joinF, nblt]
  by_cases h : j < k
  · simp [h]
  · obtain rfl : j = k := by omega
    simp [hg]
def LCoin.out (c : LCoin) : OutM := ⟨ownerH c.who.toInt, c.amt⟩
def baseI (p : PlanM) (coins : List LCoin) (i : Nat) : Int := if (p.ins.getD i 0).toNat < coins.length then (coins.getD (p.ins.getD i 0).toNat default).who.toInt else 0
def whoI (p : PlanM) (coins : List LCoin) (i : Nat) : Int := if p.bend = 3 ∧ i = 0 then IntKind.i64.wrap (baseI p coins i + 1) else baseI p coins i
def whoF (p : PlanM) (coins : List LCoin) : Nat → List Value := fun i => [.int .i64 (whoI p coins i)]
def in0 (p : PlanM) (coins : List LCoin) (i : Nat) : InM := ⟨ptOf ((p.ins.getD i 0).toNat : Int), ownerH (whoI p coins i), sig0⟩
def ins0 (p : PlanM) (coins : List LCoin) : List InM := (List.range p.ins.length).map (in0 p coins)
def mkTx (p : PlanM) (l : List InM) : TxM := ⟨2, 0, l, p.outs.map LCoin.out, p.fwds, par0, cert0, claim0⟩
noncomputable def msgOf (t : TxM) (hc : t.claim.Wf) (i : Nat) : H8 := if mayPay t hc = true then msgH t i else zeroH
def bendM (b : UInt8) (m : H8) : H8 := if b = 2 then { m with b0 := byteI (bitI .xor .u8 (m.b0.toNat : Int) 1) } else m
def signW (p : PlanM) (coins : List LCoin) (i : Nat) : Int := if p.bend = 1 then IntKind.i64.wrap (whoI p coins i + 1) else whoI p coins i
noncomputable def sgnIn (p : PlanM) (coins : List LCoin) (l : List InM) (i : Nat) : InM := { l.getD i default with sig := signM (seedU (signW p coins i)) (i % 8) (bendM p.bend (msgOf (mkTx p l) claim0_wf i)) }
noncomputable def mkIns (p : PlanM) (coins : List LCoin) : Nat → List InM
  | 0 => ins0 p coins
  | j + 1 => (mkIns p coins j).set j (sgnIn p coins (mkIns p coins j) j)
theorem mkIns_len (p : PlanM) (coins : List LCoin) : ∀ j, (mkIns p coins j).length = p.ins.length
  | 0 => by simp [mkIns, ins0]
  | j + 1 => by rw [mkIns, List.length_set, mkIns_len p coins j]
noncomputable def makeT (p : PlanM) (coins : List LCoin) : TxM := mkTx p (mkIns p coins p.ins.length)
abbrev nilS : SV := .raw (.slice none 0 0)
def txZ : List SV := txCells ⟨0, 0, [], [], [], par0, cert0, claim0⟩ nilS nilS nilS nilS nilS nilS
def mkCells (s1 s2 s3 : SV) : List SV := txCells ⟨2, 0, [], [], [], par0, cert0, claim0⟩ s1 s2 s3 nilS nilS nilS
theorem u8_eq_lit {b c : UInt8} {n : Int} (h : n = (c.toNat : Int)) : (((b.toNat : Nat) : Int) == n) = decide (b = c) := by
  rw [Bool.eq_iff_iff, beq_iff_eq, decide_eq_true_eq, h, ← UInt8.toNat_inj]
  omega
def mkM (p : PlanM) (coins : List LCoin) (s1 : SV) (no : Nat) : Mem :=
  [(0, .ro 1 p.ins.length (rowB p.ins)), (1, .ro 4 p.outs.length (coinsF p.outs)), (2, .ro 11 p.fwds.length (fwdsF p.fwds)), (3, .ro 4 coins.length (coinsF coins)), (4, .cells 26 (boxC 0 p.ac)), (5, .cells 49 txZ),
   (6, .cells 49 (mkCells s1 (.slc 7 9 0 no) (.slc 8 11 0 p.fwds.length))), (7, .vec 67 9 no (outsF (p.outs.map LCoin.out))), (8, .vec 56 11 p.fwds.length (fwdsF p.fwds))]
def mkSt1 (p : PlanM) (coins : List LCoin) (i : Nat) : St :=
  ⟨[none, some (XV.sv (.slc 3 4 0 coins.length)), some (XV.sv (.ptr 4 0 0 0)), none, some (XV.sv (.ptr 5 0 0 0)), some (XV.sv (.ptr 6 0 0 0)), some (XV.int .i64 i)] ++ List.replicate 130 none, mkM p coins nilS i, 9⟩
def mkMW (p : PlanM) (coins : List LCoin) (i : Nat) (F : Nat → List Value) : Mem := mkM p coins (.slc 10 298 0 i) p.outs.length ++ [(9, .vec 3 1 i (whoF p coins)), (10, .vec 65 298 i F)]
def mkSt2 (p : PlanM) (coins : List LCoin) (i : Nat) (k b : Option XV) : St :=
  ⟨[none, some (XV.sv (.slc 3 4 0 coins.length)), some (XV.sv (.ptr 4 0 0 0)), none, some (XV.sv (.ptr 5 0 0 0)), some (XV.sv (.ptr 6 0 0 0)), none, some (XV.sv (.slc 9 1 0 i)), some (XV.int .i64 i), k, b] ++ List.replicate 126 none, mkMW p coins i (insF (ins0 p coins)), 11⟩
noncomputable def mkSt3 (p : PlanM) (coins : List LCoin) (j : Nat) (s12 s14 : Option XV) (ex : Mem) (nx : Nat) : St :=
  ⟨[none, some (XV.sv (.slc 3 4 0 coins.length)), some (XV.sv (.ptr 4 0 0 0)), none, some (XV.sv (.ptr 5 0 0 0)), some (XV.sv (.ptr 6 0 0 0)), none, some (XV.sv (.slc 9 1 0 p.ins.length)), none, none, none, some (XV.int .i64 j), s12, none, s14] ++ List.replicate 122 none,
   mkMW p coins p.ins.length (insF (mkIns p coins j)) ++ ex, nx⟩
theorem and7_small {j : Nat} (h : j ≤ 10) : bitI .and .i64 ((j : Nat) : Int) 7 = ((j % 8 : Nat) : Int) := by
  have : ∀ j, j ≤ 10 → bitI .and .i64 ((j : Nat) : Int) 7 = ((j % 8 : Nat) : Int) := by decide
  exact this j h
theorem bend_cells (m : H8) : (bendM 2 m).cells = [.int .u8 (bitI .xor .u8 (m.b0.toNat : Int) 1), u8 m.b1, u8 m.b2, u8 m.b3, u8 m.b4, u8 m.b5, u8 m.b6, u8 m.b7] := by
  show [u8 (byteI (bitI .xor .u8 (m.b0.toNat : Int) 1)), u8 m.b1, u8 m.b2, u8 m.b3, u8 m.b4, u8 m.b5, u8 m.b6, u8 m.b7] = _
  rw [show u8 (byteI (bitI .xor .u8 (m.b0.toNat : Int) 1)) = .int .u8 (bitI .xor .u8 (m.b0.toNat : Int) 1) from u8_byteI _]
theorem mkTx_sized {p : PlanM} {l : List InM} (h1 : l.length ≤ 1000) (h2 : p.outs.length ≤ 1000) (h3 : p.fwds.length ≤ 1000) : Sized (mkTx p l) :=
  ⟨by show l.length ≤ _; omega, by show (p.outs.map LCoin.out).length ≤ _; rw [List.length_map]; omega, by show p.fwds.length ≤ _; omega, Nat.zero_le _, Nat.zero_le _, Nat.zero_le _⟩
theorem rmsg_any (t : TxM) (i : Nat) (hk : t.kind = 2) (hs : Sized t) (hc : t.claim.Wf) (hi : i < t.ins.length) : ∃ b, Reads Tryz.prog 26 [.box t.ac, .plain (.one (.raw (.int .i64 i)))] [] (.tup [(msgOf t hc i).x, .one (.raw (.bool b))]) := by
  cases hm : mayPay t hc with
  | true => exact ⟨true, by rw [msgOf, if_pos hm]; exact rmessage_can t i hk hs hc hm hi⟩
  | false => exact ⟨false, by rw [msgOf, if_neg (by rw [hm]; simp)]; exact rmessage_bad t i hk hs hc hm⟩
theorem in_cells (x : InM) (s : SigM) : x.cells.take 17 ++ s.cells ++ x.cells.drop (17 + s.cells.length) = ({ x with sig := s } : InM).cells := rfl
theorem sgn_step {l : List InM} {j k : Nat} {s : SigM} (hj : j < l.length) : updF (insF l) j 17 s.cells k = insF (l.set j { l.getD j default with sig := s }) k := by
  by_cases hk : k = j
  · subst hk
    rw [updF_eq]
    have e : (l.set k { l.getD k default with sig := s }).getD k default = { l.getD k default with sig := s } := by
      conv => lhs; rw [List.getD_eq_getElem?_getD, List.getElem?_set_self hj]
      rfl
    show (l.getD k default).cells.take 17 ++ s.cells ++ (l.getD k default).cells.drop (17 + s.cells.length) = ((l.set k { l.getD k default with sig := s }).getD k default).cells
    rw [e, in_cells]
  · rw [updF_ne hk]
    show (l.getD k default).cells = ((l.set j _).getD k default).cells
    rw [List.getD_eq_getElem?_getD, List.getD_eq_getElem?_getD, List.getElem?_set_ne (fun h => hk h.symm)]
theorem outs_getD {p : PlanM} {i : Nat} (h : i < p.outs.length) : (p.outs.map LCoin.out).getD i default = (p.outs.getD i default).out := by
  simp [List.getD_eq_getElem?_getD, h]
theorem ins0_getD {p : PlanM} {coins : List LCoin} {i : Nat} (h : i < p.ins.length) : (ins0 p coins).getD i default = in0 p coins i := by
  simp [ins0, List.getD_eq_getElem?_getD, h]
set_option maxHeartbeats 8000000 in
theorem make_can (p : PlanM) (coins : List LCoin) (h1 : p.ins.length ≤ 10) (h2 : p.outs.length ≤ 1000) (h3 : p.fwds.length ≤ 1000) (h4 : coins.length ≤ 1000) : Makes Tryz.prog 12 [.box p.ac, .row 4 coins.length (coinsF coins)] []
    (.cv (.agg (mkCells (.ins 0 3 0 p.ins.length) (.ins 0 3 1 p.outs.length) (.ins 0 3 2 p.fwds.length))))
    (.abs (PackP [.vec 65 298 p.ins.length (insF (mkIns p coins p.ins.length)), .vec 67 9 p.outs.length (outsF (p.outs.map LCoin.out)), .vec 56 11 p.fwds.length (fwdsF p.fwds)])) := by
  refine Makes.of Tryz.T_ok Tryz.func12 rfl _ _ _ _ rfl rfl rfl rfl 18 (fun C hC => ?_)
  (replace hC : C.n0 = 4 := hC; change Tri _ _ _ ⟨_, _, 4⟩ _)
  (refine Tri.cut 2 Tryz.mixed Tryz.T_ok ?_; ((conv => arg 5; whnf); repeat (refine xS ?_; conv => arg 5; whnf)))
  (refine wP _ _ (append_op Tryz.T_ok rfl rfl rfl rfl rfl [6, 2] (old_vec rfl rfl (Nat.le_refl _) rfl) (new_ro (lo := 0) rfl rfl (Nat.le_of_eq (Nat.zero_add _)) rfl) rfl (fun _ _ => rfl) (by simp only [maxLen]; omega) (by dsimp only; omega)) ?_; ((conv => arg 5; whnf); repeat (refine xS ?_; conv => arg 5; whnf)))
  simp only [Nat.zero_add]
  refine wD <| cutG <| Tri.ent (Ent.nilc (c := 11) (e := 49) (cs := mkCells nilS nilS (.slc 9 11 0 p.fwds.length)) (j := 3) rfl rfl 67 9) <| Tri.seq ?_
  (refine Tri.cut 1 Tryz.mixed Tryz.T_ok ?_; ((conv => arg 5; whnf); repeat (refine xS ?_; conv => arg 5; whnf)))
  refine wD <| cutG <| Tri.block ?_
  refine Tri.loop (α := { i : Nat // i ≤ p.outs.length }) (fun i => mkSt1 p coins i.1) (fun i => p.outs.length - i.1) ⟨0, Nat.zero_le _⟩ ?_ ?_
  · dsimp only
    unfold mkSt1 mkM
    ((try dsimp only); refine Ent.renC [0, 1, 2, 3, 4, 5, 11, 13, 9] hC ?_ ?_ <;> repeat' (first | exact trivial | exact rfl | exact ⟨_, rfl, rfl, rfl, Nat.le_refl _, fun _ _ => rfl⟩ | exact ⟨_, rfl, rfl, rfl, fun _ _ => rfl⟩ | exact ⟨_, rfl, rfl, rfl⟩ | exact ⟨_, rfl, rfl⟩ | refine ⟨_, rfl, rfl, rfl, by omega, fun k hk => ?_⟩ | refine ⟨?_, ?_⟩ | fail))
    exact absurd hk (Nat.not_lt_zero _)
  rintro ⟨i, hi⟩
  dsimp only
  (refine Tri.cut 1 Tryz.mixed Tryz.T_ok ?_; ((conv => arg 5; whnf); repeat (refine xS ?_; conv => arg 5; whnf)))
  refine wC (fun hh => ?_) (fun hh => ?_)
  · (refine wGo ?_; ((conv => arg 5; whnf); repeat (refine xS ?_; conv => arg 5; whnf)))
    have h' : i < p.outs.length := (by (try simp only [ww] at *); omega)
    have hw : IntKind.i64.wrap ((i : Int) + 1) = ((i + 1 : Nat) : Int) := (by (try simp only [ww] at *); omega)
    refine wD <| cutG <| Tri.seq <| Tri.block <| Tri.of Tryz.mixed Tryz.T_ok ?_
    (refine wBegin ?_; ((conv => arg 5; whnf); repeat (refine xS ?_; conv => arg 5; whnf)))
    (repeat (refine wN ?_ ?_; exact (by (try simp only [ww] at *); omega); refine wGo ?_; ((conv => arg 5; whnf); repeat (refine xS ?_; conv => arg 5; whnf))))
    simp only [Nat.zero_add, Int.toNat_natCast]
    (apply wP; exact (call_op rfl (entersB_of Tryz.func25 (by kernel_rfl)) rfl ((owner_can (p.outs.getD i default).who.toInt).at [] ⟨lend_plain rfl, trivial⟩ trivial)); ((conv => arg 5; whnf); repeat (refine xS ?_; conv => arg 5; whnf)))
    (repeat (refine wN ?_ ?_; exact (by (try simp only [ww] at *); omega); refine wGo ?_; ((conv => arg 5; whnf); repeat (refine xS ?_; conv => arg 5; whnf))))
    simp only [Nat.zero_add, Int.toNat_natCast]
    (refine wP _ _ (append_op Tryz.T_ok rfl rfl rfl rfl rfl [7, 30] (old_vec rfl rfl (Nat.le_refl _) rfl) (new_vec (lo := 0) rfl rfl (Nat.le_refl _) rfl) rfl (lt1 rfl) (by simp only [maxLen]; omega) (by dsimp only; omega)) ?_; ((conv => arg 5; whnf); repeat (refine xS ?_; conv => arg 5; whnf)))
    refine wD <| blockN <| cutG <| Tri.of Tryz.mixed Tryz.T_ok ?_
    (refine wBegin ?_; ((conv => arg 5; whnf); repeat (refine xS ?_; conv => arg 5; whnf)))
    refine wD <| loopN ⟨⟨i + 1, h'⟩, by dsimp only; omega, ?_⟩
    rw [hw]
    dsimp only
    unfold mkSt1 mkM
    ((try dsimp only); refine Ent.renC [0, 1, 2, 3, 4, 5, 6, 31, 8] hC ?_ ?_ <;> repeat' (first | exact trivial | exact rfl | exact ⟨_, rfl, rfl, rfl, Nat.le_refl _, fun _ _ => rfl⟩ | exact ⟨_, rfl, rfl, rfl, fun _ _ => rfl⟩ | exact ⟨_, rfl, rfl, rfl⟩ | exact ⟨_, rfl, rfl⟩ | refine ⟨_, rfl, rfl, rfl, by omega, fun k hk => ?_⟩ | refine ⟨?_, ?_⟩ | fail))
    exact grow_step (by rw [outsF, rowOf, outs_getD h']; rfl) hk
  · (refine wGo ?_; ((conv => arg 5; whnf); repeat (refine xS ?_; conv => arg 5; whnf)))
    have h' : i = p.outs.length := (by (try simp only [ww] at *); omega)
    subst h'
    refine wD <| cutE <| loopX <| blockX <| cutG ?_
    (refine Tri.cut 1 Tryz.mixed Tryz.T_ok ?_; ((conv => arg 5; whnf); repeat (refine xS ?_; conv => arg 5; whnf)))
    refine wD <| cutG <| Tri.ent (Ent.nils (t := 7) rfl 3 1) <| Tri.ent (Ent.nilc (c := 6) (e := 49) (cs := mkCells nilS (.slc 7 9 0 p.outs.length) (.slc 8 11 0 p.fwds.length)) (j := 2) rfl rfl 65 298) <| Tri.seq ?_
    (refine Tri.cut 1 Tryz.mixed Tryz.T_ok ?_; ((conv => arg 5; whnf); repeat (refine xS ?_; conv => arg 5; whnf)))
    refine wD <| cutG <| Tri.block ?_
    refine Tri.loop (α := { i : Nat // i ≤ p.ins.length }) (fun i => mkSt2 p coins i.1 none none) (fun i => p.ins.length - i.1) ⟨0, Nat.zero_le _⟩ ?_ ?_
    · dsimp only
      unfold mkSt2 mkMW mkM
      ((try dsimp only); refine Ent.renC [0, 1, 2, 3, 4, 5, 6, 7, 8, 15, 16] hC ?_ ?_ <;> repeat' (first | exact trivial | exact rfl | exact ⟨_, rfl, rfl, rfl, Nat.le_refl _, fun _ _ => rfl⟩ | exact ⟨_, rfl, rfl, rfl, fun _ _ => rfl⟩ | exact ⟨_, rfl, rfl, rfl⟩ | exact ⟨_, rfl, rfl⟩ | refine ⟨_, rfl, rfl, rfl, by omega, fun k hk => ?_⟩ | refine ⟨?_, ?_⟩ | fail))
      · exact absurd hk (Nat.not_lt_zero _)
      · exact absurd hk (Nat.not_lt_zero _)
    rintro ⟨i, hi⟩
    dsimp only
    (refine Tri.cut 1 Tryz.mixed Tryz.T_ok ?_; ((conv => arg 5; whnf); repeat (refine xS ?_; conv => arg 5; whnf)))
    refine wC (fun hh => ?_) (fun hh => ?_)
    · (refine wGo ?_; ((conv => arg 5; whnf); repeat (refine xS ?_; conv => arg 5; whnf)))
      have h' : i < p.ins.length := (by (try simp only [ww] at *); omega)
      have hw : IntKind.i64.wrap ((i : Int) + 1) = ((i + 1 : Nat) : Int) := (by (try simp only [ww] at *); omega)
      refine wD <| cutG <| Tri.seq <| Tri.block ?_
      (refine Tri.cut 2 Tryz.mixed Tryz.T_ok ?_; ((conv => arg 5; whnf); repeat (refine xS ?_; conv => arg 5; whnf)))
      (repeat (refine wN ?_ ?_; exact (by (try simp only [ww] at *); omega); refine wGo ?_; ((conv => arg 5; whnf); repeat (refine xS ?_; conv => arg 5; whnf))))
      simp only [Nat.zero_add, Int.toNat_natCast]
      obtain ⟨k, hkk⟩ : ∃ k, (p.ins.getD i 0).toNat = k := ⟨_, rfl⟩
      have hk0 : (p.ins.getD i 0).toNat < 256 := UInt8.toNat_lt _
      rw [hkk] at hk0
      have e0 : IntKind.i64.wrap ((k : Nat) : Int) = (k : Int) := (by (try simp only [ww] at *); omega)
      simp only [hkk, e0]
      refine wD <| cutG <| Tri.merge (mkSt2 p coins i (some (XV.int .i64 k)) (some (XV.int .i64 (baseI p coins i)))) (Tri.of Tryz.mixed Tryz.T_ok ?_) <| Tri.merge (mkSt2 p coins i (some (XV.int .i64 k)) (some (XV.int .i64 (whoI p coins i)))) (Tri.of Tryz.mixed Tryz.T_ok ?_) ?_
      · (refine wBegin ?_; ((conv => arg 5; whnf); repeat (refine xS ?_; conv => arg 5; whnf)))
        refine wC (fun hb => ?_) (fun hb => ?_)
        · (refine wGo ?_; ((conv => arg 5; whnf); repeat (refine xS ?_; conv => arg 5; whnf)))
          (repeat (refine wN ?_ ?_; exact (by (try simp only [ww] at *); omega); refine wGo ?_; ((conv => arg 5; whnf); repeat (refine xS ?_; conv => arg 5; whnf))))
          simp only [Nat.zero_add, Int.toNat_natCast]
          have hb' : k < coins.length := (by (try simp only [ww] at *); omega)
          have eb : baseI p coins i = (coins.getD k default).who.toInt := by rw [baseI, hkk, if_pos hb']
          refine wD ⟨rfl, ?_⟩
          rw [eb]
          unfold mkSt2 mkMW mkM
          ((try dsimp only); refine Ent.renC [0, 1, 2, 3, 4, 5, 6, 7, 8, 9, 10] hC ?_ ?_ <;> repeat' (first | exact trivial | exact rfl | exact ⟨_, rfl, rfl, rfl, Nat.le_refl _, fun _ _ => rfl⟩ | exact ⟨_, rfl, rfl, rfl, fun _ _ => rfl⟩ | exact ⟨_, rfl, rfl, rfl⟩ | exact ⟨_, rfl, rfl⟩ | refine ⟨_, rfl, rfl, rfl, by omega, fun k hk => ?_⟩ | refine ⟨?_, ?_⟩ | fail))
        · (refine wGo ?_; ((conv => arg 5; whnf); repeat (refine xS ?_; conv => arg 5; whnf)))
          have hb' : ¬ k < coins.length := (by (try simp only [ww] at *); omega)
          have eb : baseI p coins i = 0 := by rw [baseI, hkk, if_neg hb']
          refine wD ⟨rfl, ?_⟩
          rw [eb]
          unfold mkSt2 mkMW mkM
          ((try dsimp only); refine Ent.renC [0, 1, 2, 3, 4, 5, 6, 7, 8, 9, 10] hC ?_ ?_ <;> repeat' (first | exact trivial | exact rfl | exact ⟨_, rfl, rfl, rfl, Nat.le_refl _, fun _ _ => rfl⟩ | exact ⟨_, rfl, rfl, rfl, fun _ _ => rfl⟩ | exact ⟨_, rfl, rfl, rfl⟩ | exact ⟨_, rfl, rfl⟩ | refine ⟨_, rfl, rfl, rfl, by omega, fun k hk => ?_⟩ | refine ⟨?_, ?_⟩ | fail))
      · unfold mkSt2 mkMW mkM
        (refine wBegin ?_; ((conv => arg 5; whnf); repeat (refine xS ?_; conv => arg 5; whnf)))
        refine wC (fun hb => ?_) (fun hb => ?_)
        · rw [u8_eq_lit (n := 3) (c := 3) rfl, decide_eq_true_eq] at hb
          (refine wGo ?_; ((conv => arg 5; whnf); repeat (refine xS ?_; conv => arg 5; whnf)))
          refine wC (fun hc => ?_) (fun hc => ?_)
          · have hc' : i = 0 := by have := beq_iff_eq.1 hc; omega
            (refine wGo ?_; ((conv => arg 5; whnf); repeat (refine xS ?_; conv => arg 5; whnf)))
            have eb : whoI p coins i = IntKind.i64.wrap (baseI p coins i + 1) := by rw [whoI, if_pos ⟨hb, hc'⟩]
            refine wD ⟨rfl, ?_⟩
            rw [eb]
            ((try dsimp only); refine Ent.renC [0, 1, 2, 3, 4, 5, 6, 7, 8, 9, 10] hC ?_ ?_ <;> repeat' (first | exact trivial | exact rfl | exact ⟨_, rfl, rfl, rfl, Nat.le_refl _, fun _ _ => rfl⟩ | exact ⟨_, rfl, rfl, rfl, fun _ _ => rfl⟩ | exact ⟨_, rfl, rfl, rfl⟩ | exact ⟨_, rfl, rfl⟩ | refine ⟨_, rfl, rfl, rfl, by omega, fun k hk => ?_⟩ | refine ⟨?_, ?_⟩ | fail))
          · have hc' : ¬ i = 0 := by have := beq_eq_false_iff_ne.1 hc; omega
            (refine wGo ?_; ((conv => arg 5; whnf); repeat (refine xS ?_; conv => arg 5; whnf)))
            have eb : whoI p coins i = baseI p coins i := by rw [whoI, if_neg fun h => hc' h.2]
            refine wD ⟨rfl, ?_⟩
            rw [eb]
            ((try dsimp only); refine Ent.renC [0, 1, 2, 3, 4, 5, 6, 7, 8, 9, 10] hC ?_ ?_ <;> repeat' (first | exact trivial | exact rfl | exact ⟨_, rfl, rfl, rfl, Nat.le_refl _, fun _ _ => rfl⟩ | exact ⟨_, rfl, rfl, rfl, fun _ _ => rfl⟩ | exact ⟨_, rfl, rfl, rfl⟩ | exact ⟨_, rfl, rfl⟩ | refine ⟨_, rfl, rfl, rfl, by omega, fun k hk => ?_⟩ | refine ⟨?_, ?_⟩ | fail))
        · rw [u8_eq_lit (n := 3) (c := 3) rfl, decide_eq_false_iff_not] at hb
          (refine wGo ?_; ((conv => arg 5; whnf); repeat (refine xS ?_; conv => arg 5; whnf)))
          have eb : whoI p coins i = baseI p coins i := by rw [whoI, if_neg fun h => hb h.1]
          refine wD ⟨rfl, ?_⟩
          rw [eb]
          ((try dsimp only); refine Ent.renC [0, 1, 2, 3, 4, 5, 6, 7, 8, 9, 10] hC ?_ ?_ <;> repeat' (first | exact trivial | exact rfl | exact ⟨_, rfl, rfl, rfl, Nat.le_refl _, fun _ _ => rfl⟩ | exact ⟨_, rfl, rfl, rfl, fun _ _ => rfl⟩ | exact ⟨_, rfl, rfl, rfl⟩ | exact ⟨_, rfl, rfl⟩ | refine ⟨_, rfl, rfl, rfl, by omega, fun k hk => ?_⟩ | refine ⟨?_, ?_⟩ | fail))
      · unfold mkSt2 mkMW mkM
        refine Tri.of Tryz.mixed Tryz.T_ok ?_
        (refine wBegin ?_; ((conv => arg 5; whnf); repeat (refine xS ?_; conv => arg 5; whnf)))
        (refine wP _ _ (append_op Tryz.T_ok rfl rfl rfl rfl rfl [9, 13] (old_vec rfl rfl (Nat.le_refl _) rfl) (new_vec (lo := 0) rfl rfl (Nat.le_refl _) rfl) rfl (lt1 rfl) (by simp only [maxLen]; omega) (by dsimp only; omega)) ?_; ((conv => arg 5; whnf); repeat (refine xS ?_; conv => arg 5; whnf)))
        (apply wP; exact (call_op rfl (entersB_of Tryz.func24 (by kernel_rfl)) rfl ((point_can (k : Int)).at [] ⟨lend_plain rfl, trivial⟩ trivial)); ((conv => arg 5; whnf); repeat (refine xS ?_; conv => arg 5; whnf)))
        (apply wP; exact (call_op rfl (entersB_of Tryz.func25 (by kernel_rfl)) rfl ((owner_can (whoI p coins i)).at [] ⟨lend_plain rfl, trivial⟩ trivial)); ((conv => arg 5; whnf); repeat (refine xS ?_; conv => arg 5; whnf)))
        (refine wP _ _ (append_op Tryz.T_ok rfl rfl rfl rfl rfl [10, 23] (old_vec rfl rfl (Nat.le_refl _) rfl) (new_vec (lo := 0) rfl rfl (Nat.le_refl _) rfl) rfl (lt1 rfl) (by simp only [maxLen]; omega) (by dsimp only; omega)) ?_; ((conv => arg 5; whnf); repeat (refine xS ?_; conv => arg 5; whnf)))
        refine wD <| blockN <| cutG <| Tri.of Tryz.mixed Tryz.T_ok ?_
        (refine wBegin ?_; ((conv => arg 5; whnf); repeat (refine xS ?_; conv => arg 5; whnf)))
        refine wD <| loopN ⟨⟨i + 1, h'⟩, by dsimp only; omega, ?_⟩
        rw [hw]
        dsimp only
        ((try dsimp only); refine Ent.renC [0, 1, 2, 3, 4, 5, 6, 7, 8, 14, 24] hC ?_ ?_ <;> repeat' (first | exact trivial | exact rfl | exact ⟨_, rfl, rfl, rfl, Nat.le_refl _, fun _ _ => rfl⟩ | exact ⟨_, rfl, rfl, rfl, fun _ _ => rfl⟩ | exact ⟨_, rfl, rfl, rfl⟩ | exact ⟨_, rfl, rfl⟩ | refine ⟨_, rfl, rfl, rfl, by omega, fun k hk => ?_⟩ | refine ⟨?_, ?_⟩ | fail))
        · exact grow_step rfl hk
        · exact grow_step (by rw [insF, rowOf, ins0_getD h', in0, hkk]; rfl) hk
    · (refine wGo ?_; ((conv => arg 5; whnf); repeat (refine xS ?_; conv => arg 5; whnf)))
      have h' : i = p.ins.length := (by (try simp only [ww] at *); omega)
      subst h'
      refine wD <| cutE <| loopX <| blockX <| cutG <| Tri.seq ?_
      (refine Tri.cut 1 Tryz.mixed Tryz.T_ok ?_; ((conv => arg 5; whnf); repeat (refine xS ?_; conv => arg 5; whnf)))
      refine wD <| cutG <| Tri.block ?_
      refine Tri.loop (α := { i : Nat // i ≤ p.ins.length }) (fun i => mkSt3 p coins i.1 none none [] 11) (fun i => p.ins.length - i.1) ⟨0, Nat.zero_le _⟩ ?_ ?_
      · dsimp only
        unfold mkSt3 mkMW mkM
        ((try dsimp only); refine Ent.renC [0, 1, 2, 3, 4, 5, 6, 7, 8, 9, 10] hC ?_ ?_ <;> repeat' (first | exact trivial | exact rfl | exact ⟨_, rfl, rfl, rfl, Nat.le_refl _, fun _ _ => rfl⟩ | exact ⟨_, rfl, rfl, rfl, fun _ _ => rfl⟩ | exact ⟨_, rfl, rfl, rfl⟩ | exact ⟨_, rfl, rfl⟩ | refine ⟨_, rfl, rfl, rfl, by omega, fun k hk => ?_⟩ | refine ⟨?_, ?_⟩ | fail))
      rintro ⟨j, hj⟩
      dsimp only
      unfold mkSt3 mkMW mkM
      (refine Tri.cut 1 Tryz.mixed Tryz.T_ok ?_; ((conv => arg 5; whnf); repeat (refine xS ?_; conv => arg 5; whnf)))
      refine wC (fun hh => ?_) (fun hh => ?_)
      · (refine wGo ?_; ((conv => arg 5; whnf); repeat (refine xS ?_; conv => arg 5; whnf)))
        have h' : j < p.ins.length := (by (try simp only [ww] at *); omega)
        have hw : IntKind.i64.wrap ((j : Int) + 1) = ((j + 1 : Nat) : Int) := (by (try simp only [ww] at *); omega)
        have e7 : bitI .and .i64 ((j : Nat) : Int) 7 = ((j % 8 : Nat) : Int) := and7_small (by omega)
        have hL := mkIns_len p coins j
        obtain ⟨b, hmsg⟩ := rmsg_any (mkTx p (mkIns p coins j)) j rfl (mkTx_sized (by omega) h2 h3) claim0_wf (by show j < (mkIns p coins j).length; omega)
        obtain ⟨m, hm⟩ : ∃ m, msgOf (mkTx p (mkIns p coins j)) claim0_wf j = m := ⟨_, rfl⟩
        rw [hm] at hmsg
        refine wD <| cutG <| Tri.seq <| Tri.block ?_
        (refine Tri.cut 1 Tryz.mixed Tryz.T_ok ?_; ((conv => arg 5; whnf); repeat (refine xS ?_; conv => arg 5; whnf)))
        (apply wP; exact (call_op rfl (entersB_of Tryz.func26 (by kernel_rfl)) rfl (hmsg.at [10, 7, 8] ⟨lend_tx (t := mkTx p (mkIns p coins j)) (lend_vecN (lo := 0) hL.symm rfl rfl (by show 0 + (mkIns p coins j).length ≤ _; omega) (fun i _ => by rw [Nat.zero_add]; rfl)) (lend_vecN (lo := 0) (List.length_map _).symm rfl rfl (by show 0 + (p.outs.map LCoin.out).length ≤ _; rw [List.length_map]; omega) (fun i _ => by rw [Nat.zero_add]; rfl)) (lend_vec0 rfl rfl) (lend_nil _ _) (lend_nil _ _) (lend_nil _ _), lend_plain rfl, trivial⟩ trivial)); ((conv => arg 5; whnf); repeat (refine xS ?_; conv => arg 5; whnf)))
        refine wD <| cutG <| Tri.merge (mkSt3 p coins j (some (XV.sv (.ptr 11 0 0 0))) none [(11, .cells 39 ((bendM p.bend m).cells.map .raw))] 12) (Tri.of Tryz.mixed Tryz.T_ok ?_) <| Tri.merge (mkSt3 p coins j (some (XV.sv (.ptr 11 0 0 0))) (some (XV.int .i64 (whoI p coins j))) [(11, .cells 39 ((bendM p.bend m).cells.map .raw))] 12) (Tri.of Tryz.mixed Tryz.T_ok ?_) <| Tri.merge (mkSt3 p coins j (some (XV.sv (.ptr 11 0 0 0))) (some (XV.int .i64 (signW p coins j))) [(11, .cells 39 ((bendM p.bend m).cells.map .raw))] 12) (Tri.of Tryz.mixed Tryz.T_ok ?_) ?_
        · (refine wBegin ?_; ((conv => arg 5; whnf); repeat (refine xS ?_; conv => arg 5; whnf)))
          refine wC (fun hb => ?_) (fun hb => ?_)
          · rw [u8_eq_lit (n := 2) (c := 2) rfl, decide_eq_true_eq] at hb
            (refine wGo ?_; ((conv => arg 5; whnf); repeat (refine xS ?_; conv => arg 5; whnf)))
            refine wD ⟨rfl, ?_⟩
            rw [hb, bend_cells]
            unfold mkSt3 mkMW mkM
            ((try dsimp only); refine Ent.renC [0, 1, 2, 3, 4, 5, 6, 7, 8, 9, 10, 22] hC ?_ ?_ <;> repeat' (first | exact trivial | exact rfl | exact ⟨_, rfl, rfl, rfl, Nat.le_refl _, fun _ _ => rfl⟩ | exact ⟨_, rfl, rfl, rfl, fun _ _ => rfl⟩ | exact ⟨_, rfl, rfl, rfl⟩ | exact ⟨_, rfl, rfl⟩ | refine ⟨_, rfl, rfl, rfl, by omega, fun k hk => ?_⟩ | refine ⟨?_, ?_⟩ | fail))
          · rw [u8_eq_lit (n := 2) (c := 2) rfl, decide_eq_false_iff_not] at hb
            (refine wGo ?_; ((conv => arg 5; whnf); repeat (refine xS ?_; conv => arg 5; whnf)))
            refine wD ⟨rfl, ?_⟩
            rw [bendM, if_neg hb]
            unfold mkSt3 mkMW mkM
            ((try dsimp only); refine Ent.renC [0, 1, 2, 3, 4, 5, 6, 7, 8, 9, 10, 22] hC ?_ ?_ <;> repeat' (first | exact trivial | exact rfl | exact ⟨_, rfl, rfl, rfl, Nat.le_refl _, fun _ _ => rfl⟩ | exact ⟨_, rfl, rfl, rfl, fun _ _ => rfl⟩ | exact ⟨_, rfl, rfl, rfl⟩ | exact ⟨_, rfl, rfl⟩ | refine ⟨_, rfl, rfl, rfl, by omega, fun k hk => ?_⟩ | refine ⟨?_, ?_⟩ | fail))
        · unfold mkSt3 mkMW mkM
          (refine wBegin ?_; ((conv => arg 5; whnf); repeat (refine xS ?_; conv => arg 5; whnf)))
          (repeat (refine wN ?_ ?_; exact (by (try simp only [ww] at *); omega); refine wGo ?_; ((conv => arg 5; whnf); repeat (refine xS ?_; conv => arg 5; whnf))))
          simp only [Nat.zero_add, Int.toNat_natCast]
          refine wD ⟨rfl, ?_⟩
          ((try dsimp only); refine Ent.renC [0, 1, 2, 3, 4, 5, 6, 7, 8, 9, 10, 11] hC ?_ ?_ <;> repeat' (first | exact trivial | exact rfl | exact ⟨_, rfl, rfl, rfl, Nat.le_refl _, fun _ _ => rfl⟩ | exact ⟨_, rfl, rfl, rfl, fun _ _ => rfl⟩ | exact ⟨_, rfl, rfl, rfl⟩ | exact ⟨_, rfl, rfl⟩ | refine ⟨_, rfl, rfl, rfl, by omega, fun k hk => ?_⟩ | refine ⟨?_, ?_⟩ | fail))
        · unfold mkSt3 mkMW mkM
          (refine wBegin ?_; ((conv => arg 5; whnf); repeat (refine xS ?_; conv => arg 5; whnf)))
          refine wC (fun hb => ?_) (fun hb => ?_)
          · rw [u8_eq_lit (n := 1) (c := 1) rfl, decide_eq_true_eq] at hb
            (refine wGo ?_; ((conv => arg 5; whnf); repeat (refine xS ?_; conv => arg 5; whnf)))
            refine wD ⟨rfl, ?_⟩
            rw [signW, if_pos hb]
            ((try dsimp only); refine Ent.renC [0, 1, 2, 3, 4, 5, 6, 7, 8, 9, 10, 11] hC ?_ ?_ <;> repeat' (first | exact trivial | exact rfl | exact ⟨_, rfl, rfl, rfl, Nat.le_refl _, fun _ _ => rfl⟩ | exact ⟨_, rfl, rfl, rfl, fun _ _ => rfl⟩ | exact ⟨_, rfl, rfl, rfl⟩ | exact ⟨_, rfl, rfl⟩ | refine ⟨_, rfl, rfl, rfl, by omega, fun k hk => ?_⟩ | refine ⟨?_, ?_⟩ | fail))
          · rw [u8_eq_lit (n := 1) (c := 1) rfl, decide_eq_false_iff_not] at hb
            (refine wGo ?_; ((conv => arg 5; whnf); repeat (refine xS ?_; conv => arg 5; whnf)))
            refine wD ⟨rfl, ?_⟩
            rw [signW, if_neg hb]
            ((try dsimp only); refine Ent.renC [0, 1, 2, 3, 4, 5, 6, 7, 8, 9, 10, 11] hC ?_ ?_ <;> repeat' (first | exact trivial | exact rfl | exact ⟨_, rfl, rfl, rfl, Nat.le_refl _, fun _ _ => rfl⟩ | exact ⟨_, rfl, rfl, rfl, fun _ _ => rfl⟩ | exact ⟨_, rfl, rfl, rfl⟩ | exact ⟨_, rfl, rfl⟩ | refine ⟨_, rfl, rfl, rfl, by omega, fun k hk => ?_⟩ | refine ⟨?_, ?_⟩ | fail))
        · unfold mkSt3 mkMW mkM
          refine Tri.of Tryz.mixed Tryz.T_ok ?_
          (refine wBegin ?_; ((conv => arg 5; whnf); repeat (refine xS ?_; conv => arg 5; whnf)))
          simp only [e7]
          (apply wP; exact (call_op rfl (entersB_of Tryz.func27 (by kernel_rfl)) rfl ((signTree_can (seedU (signW p coins j)) (j % 8) (bendM p.bend m) (Nat.mod_lt _ (by decide))).at [] ⟨lend_plainE (seedU_x _) rfl, lend_plain rfl, lend_plain rfl, trivial⟩ trivial)); ((conv => arg 5; whnf); repeat (refine xS ?_; conv => arg 5; whnf)))
          (repeat (refine wN ?_ ?_; exact (by (try simp only [ww] at *); omega); refine wGo ?_; ((conv => arg 5; whnf); repeat (refine xS ?_; conv => arg 5; whnf))))
          simp only [Nat.zero_add, Int.toNat_natCast]
          refine wD <| blockN <| cutG <| Tri.of Tryz.mixed Tryz.T_ok ?_
          (refine wBegin ?_; ((conv => arg 5; whnf); repeat (refine xS ?_; conv => arg 5; whnf)))
          refine wD <| loopN ⟨⟨j + 1, h'⟩, by dsimp only; omega, ?_⟩
          rw [hw]
          dsimp only
          ((try dsimp only); refine Ent.renC [0, 1, 2, 3, 4, 5, 6, 7, 8, 9, 10] hC ?_ ?_ <;> repeat' (first | exact trivial | exact rfl | exact ⟨_, rfl, rfl, rfl, Nat.le_refl _, fun _ _ => rfl⟩ | exact ⟨_, rfl, rfl, rfl, fun _ _ => rfl⟩ | exact ⟨_, rfl, rfl, rfl⟩ | exact ⟨_, rfl, rfl⟩ | refine ⟨_, rfl, rfl, rfl, by omega, fun k hk => ?_⟩ | refine ⟨?_, ?_⟩ | fail))
          rw [mkIns, sgnIn, hm]
          exact sgn_step (by omega)
      · (refine wGo ?_; ((conv => arg 5; whnf); repeat (refine xS ?_; conv => arg 5; whnf)))
        have h' : j = p.ins.length := (by (try simp only [ww] at *); omega)
        subst h'
        refine wD <| cutE <| loopX <| blockX <| cutG <| Tri.of Tryz.mixed Tryz.T_ok ?_
        (refine wBegin ?_; ((conv => arg 5; whnf); repeat (refine xS ?_; conv => arg 5; whnf)))
        refine wD (Ends.made (.inr rfl) (Ent.pack2 [10, 7, 8] [.vec 65 298 p.ins.length (insF (mkIns p coins p.ins.length)), .vec 67 9 p.outs.length (outsF (p.outs.map LCoin.out)), .vec 56 11 p.fwds.length (fwdsF p.fwds)] (by decide) rfl rfl (fun j i ch hi hj => ?_)) rfl (Nat.le_of_ble_eq_true rfl) rfl)
        rcases j with _ | _ | _ | j
        · cases hi; cases hj; exact ⟨_, rfl, ChLe.refl _ rfl⟩
        · cases hi; cases hj; exact ⟨_, rfl, ChLe.refl _ rfl⟩
        · cases hi; cases hj; exact ⟨_, rfl, ChLe.refl _ rfl⟩
        · cases hi
end Go.Proofs.YtmoohekgheoliaaGreatDoor
