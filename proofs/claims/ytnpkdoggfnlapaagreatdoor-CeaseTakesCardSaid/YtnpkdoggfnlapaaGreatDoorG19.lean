/- Parts Ve Vf Pf Vt Tc La Ya. -/
import Derived.Test.YtnpkdoggfnlapaaGreatDoorG18
import Derived.Test.YtnpkdoggfnlapaaGreatDoorG07
import Derived.Test.YtnpkdoggfnlapaaGreatDoorG17
import Derived.Test.YtnpkdoggfnlapaaGreatDoorG14
import Derived.Test.YtnpkdoggfnlapaaGreatDoorG12
import Derived.Shelf.Lays2
import Derived.Ground.Names2Prog
import Derived.Test.YtnpkdoggfnlapaaGreatDoorProg
set_option linter.unusedSimpArgs false
set_option linter.unusedVariables false
namespace Go.Proofs.YtnpkdoggfnlapaaGreatDoor
set_option maxRecDepth 100000
open Go.RowKit Go.Lib Go.Sort Go.MapKept Go.Shelf
theorem flatPt_get : ∀ (ss : List Pt) (i j : Nat), j < 9 → (flatPt ss)[i * 9 + j]? = (ss[i]?).bind fun x => x.cells[j]?
  | [], i, j, _ => by simp [flatPt]
  | x :: r, 0, j, hj => by
    simp only [flatPt, List.flatMap_cons, Nat.zero_mul, Nat.zero_add, List.getElem?_cons_zero, Option.bind_some]
    rw [List.getElem?_append_left (by simpa [Pt.cells] using hj)]
  | x :: r, i + 1, j, hj => by
    have := flatPt_get r i j hj
    simp only [flatPt] at this ⊢
    simp only [List.flatMap_cons, List.getElem?_cons_succ]
    rw [List.getElem?_append_right (by simp [Pt.cells]; omega), ← this]
    congr 1
    simp [Pt.cells]; omega
theorem pt_len (x : Pt) : x.cells.length = 9 := rfl
theorem flatK_pt (ss : List Pt) : (flatK Pt.cells 9 ss.toArray).toList = flatPt ss := by
  apply List.ext_getElem?
  intro t
  by_cases ht : t < ss.length * 9
  · have h1 : t / 9 < ss.length := by omega
    have h2 : t % 9 < 9 := Nat.mod_lt _ (by omega)
    have h3 : t = t / 9 * 9 + t % 9 := by omega
    have hs : t < (flatK Pt.cells 9 ss.toArray).size := by simpa using ht
    have e := get_flatK Pt.cells 9 ss.toArray t (by simpa using ht)
    rw [getElem!_pos _ t hs] at e
    rw [Array.getElem?_toList, Array.getElem?_eq_getElem hs, e]
    conv => rhs; rw [h3]
    rw [flatPt_get ss _ _ h2]
    have e2 : ss.toArray[t / 9]! = ss[t / 9] := by simp [h1]
    rw [e2, List.getElem?_eq_getElem h1, Option.bind_some]
    rw [getElem!_pos _ _ (by rw [pt_len]; exact h2), List.getElem?_eq_getElem]
  · rw [List.getElem?_eq_none (by simp; omega), List.getElem?_eq_none (by rw [flatPt_len]; omega)]
theorem holdsK_of_block {w : World} {g : Nat} {cur : Array Value} {e : TypeId} {ss : List Pt} (hb : w.heap[g]? = some (.cells cur e (0, 0))) (ht : cur.toList.take (ss.length * 9) = flatPt ss) : HoldsK Pt.cells 9 w g 0 ss.toArray := by
  intro j hj
  have hj' : j < ss.length * 9 := by simpa using hj
  refine ⟨?_, by simp [World.frozen?, hb]⟩
  have h1 : (cur.toList.take (ss.length * 9))[j]? = (flatPt ss)[j]? := by rw [ht]
  rw [List.getElem?_take_of_lt hj'] at h1
  simp only [World.cell?, hb, Nat.zero_add]
  simp only [Option.isSome_none, Bool.false_eq_true, if_false]
  rw [← Array.getElem?_toList, h1, ← flatK_pt, Array.getElem?_toList, Array.getElem?_eq_getElem hj, getElem!_pos _ j hj]
  rfl
theorem heap_sortedK {w : World} {g n : Nat} {os : Array Obj} {cur : Array Value} {e : TypeId} {fr : Nat × Nat} (d : Array Pt) (hb : w.heap[g]? = some (.cells cur e fr)) :
    (sortWorldK Pt.cells 9 w g 0 n d os).heap[g]? = some (.cells (putCells id 0 (flatK Pt.cells 9 d) cur) e fr) := by
  have hg : g < w.heap.size := (Array.getElem?_eq_some_iff.1 hb).1
  unfold sortWorldK putRowK
  rw [heap_grow_old _ _ (by simpa using hg)]
  simp [putRow, mapBlock, Sort.ahead, Array.getElem?_modify, hb, onCells]
theorem grownBy_sortedK {w : World} {g n : Nat} {os : Array Obj} (d : Array Pt) : w.grownBy (sortWorldK Pt.cells 9 w g 0 n d os) (some g) := by
  unfold sortWorldK putRowK
  refine ⟨rfl, rfl, rfl, by simp, fun k hk hne => ?_⟩
  rw [heap_grow_old _ _ (by simpa using hk)]
  have : g ≠ k := fun e => hne (by rw [e])
  simp [putRow, mapBlock, Sort.ahead, Array.getElem?_modify, this]
theorem take_putCellsK (cur : Array Value) (ts : List Pt) (h : ts.length * 9 ≤ cur.size) : (putCells id 0 (flatK Pt.cells 9 ts.toArray) cur).toList.take (ts.length * 9) = flatPt ts := by
  rw [← flatK_pt]
  apply List.ext_getElem?
  intro j
  by_cases hj : j < ts.length * 9
  · have hs : j < (flatK Pt.cells 9 ts.toArray).size := by simpa using hj
    rw [List.getElem?_take_of_lt hj, Array.getElem?_toList, Array.getElem?_toList]
    simp [putCells, hj, show j < cur.size by omega]
  · rw [List.getElem?_take_eq_none (by omega), List.getElem?_eq_none (by simp; omega)]
theorem ownsRow_sortedK {w : World} {base g cap n : Nat} {e : TypeId} {os : Array Obj} {cur : Array Value} {ss ts : List Pt} (hl : ts.length = ss.length) (hbase : base ≤ g) (hb : w.heap[g]? = some (.cells cur e (0, 0)))
    (h1 : ss.length ≤ cap) (h2 : cap ≤ maxLen) (h3 : cur.size = cap * 9) :
    (sortWorldK Pt.cells 9 w g 0 n ts.toArray os).ownsRow base e 9 (.slice (some ⟨g, 0, none⟩) ss.length cap) ss.length (flatPt ts) :=
  ⟨by rw [flatPt_len, hl], .inr ⟨g, cap, _, rfl, hbase, heap_sortedK _ hb, h1, h2, by simp [putCells, h3], by rw [← hl]; exact take_putCellsK cur ts (by omega)⟩⟩
theorem pt_agg : ∀ w, (isAgg 65).run Tryz.prog w = .ok true w := Tryz.isAgg65
theorem pt_size : ∀ w, (Go.sizeOf 65).run Tryz.prog w = .ok 9 w := Tryz.sizeOf65
theorem cmpInt_calls (x y : Int) (w : World) : Calls Tryz.prog 175 #[.int .i64 x, .int .i64 y] w fun e w' => e = .returned (.int .i64 (compareInt x y)) ∧ w' = w := AnyG.cmp_Compare_int Tryz.cmpInt x y w
theorem sortPts_calls (ss : List Pt) (blk cap : Nat) (w : World) (hH : HoldsK Pt.cells 9 w blk 0 ss.toArray) (hblk : blk < w.heap.size) (hsz : ss.length < 4611686018427387904) :
    Calls Tryz.prog 172 #[.slice (some ⟨blk, 0, none⟩) ss.length cap, .func (.func 133) #[] #[]] w fun e w' => e = .returned (.tuple #[]) ∧ ∃ n os, w' = sortWorldK Pt.cells 9 w blk 0 n (sortPts ss).toArray os := by
  have eg : ∀ args w, (callFunc 133 args).run Tryz.prog w = .ok (.enter 133 args) w := enters_of Tryz.func133 (by kernel_rfl) rfl
  have h := AnyQ.slices_SortFunc_total Tryz.sortPt 9 pt_agg pt_size Pt.cells pt_len (fun x u hu => by simp [Pt.cells] at hu; rcases hu with rfl | rfl | rfl | rfl | rfl | rfl | rfl | rfl | rfl <;> rfl) ordI (by rw [ltOf_ord]; exact ltPt_swo) 133 #[] blk 0 cap ss.toArray w eg
    (fun m os dk _ x y => order_calls cmpInt_calls x y _) hH hblk (by simpa using hsz) (by rw [ltOf_ord]; exact ltPt_total)
  rw [ltOf_ord] at h
  exact h
theorem sortedFunc_calls (Bm b : Nat) (es : Array MapEntry) (clock : Nat) (hst : Stamped es clock) (pc : List (Pt × Coin)) (hpc : es.toList.map (fun e => (e.key, e.val)) = pc.map fun x => (x.1.v, x.2.v)) (hN : pc.length * 16 ≤ 140737488355328)
    (w : World) (hBm : Bm < w.heap.size) (hm : w.cell? ⟨Bm, 0, none⟩ = some (.map (some b))) (hb : w.heap[b]? = some (.map es clock)) :
    Calls Tryz.prog 131 #[.func (.func 173) #[] #[.pointer (some ⟨Bm, 0, none⟩)], .func (.func 133) #[] #[]] w fun e w' => ∃ v, e = .returned v ∧ w'.ownsRow w.heap.size 65 9 v pc.length (flatPt (sortPts (pc.map (·.1)))) ∧ (v = .slice none 0 0 ↔ pc = []) ∧ Below w.heap.size w w' := by
  have hmax : (140737488355328 : Nat) ≤ maxLen := by decide
  have eg : ∀ args w, (callFunc 173 args).run Tryz.prog w = .ok (.enter 173 args) w := enters_of Tryz.func173 (by kernel_rfl) rfl
  have hseq := ptKeys_gives Fence.wide 1 trivial rfl (Nat.le_refl _) Bm b es clock hst pc hpc w hBm hm hb
  have hcol := callsIn_wide.1 (collect_in Fence.wide 3 trivial trivial rfl (Nat.le_refl _) 173 #[.pointer (some ⟨Bm, 0, none⟩)] trivial eg _ pc.length (by omega) hN w hseq)
  go_enter Tryz.func131, Tryz.ntmps131
  go_wp2_with (go_at_call 171; refine hcol.mono ?_; rintro e W ⟨v, ss, rfl, hS, hrow, hnil, hbe⟩)
  have hlen : ss.length = pc.length := by have := hS.length_eq; simpa using this
  have hsp : sortPts (pc.map (·.1)) = sortPts ss := (sortPts_of_perm hS).symm
  have hsl : (sortPts ss).length = ss.length := (sortPts_perm ss).length_eq
  rcases hrow.2 with ⟨rfl, hz⟩ | ⟨gb, cap, cur, rfl, hbase, hgb, r1, r2, r3, r4⟩
  · have hss : ss = [] := List.eq_nil_of_length_eq_zero hz
    subst hss
    have hpn : pc = [] := List.eq_nil_of_length_eq_zero (by simpa using hlen.symm)
    have hs0 := AnyF.slices_SortFunc_none (P := Tryz.prog) (ρ := Tryz.sortPt_ren) { Tryz.sortPt with } none 0 (.func (.func 133) #[] #[]) W
    change Calls Tryz.prog 172 _ _ _ at hs0
    go_wp2_with (go_at_call 172; refine hs0.mono ?_; rintro e w' ⟨rfl, rfl⟩)
    go_ret
    subst hpn
    exact ⟨_, rfl, by simpa [sortPts] using hrow, by simp, hbe⟩
  · have hH : HoldsK Pt.cells 9 W gb 0 ss.toArray := holdsK_of_block hgb r4
    have hgl : gb < W.heap.size := (Array.getElem?_eq_some_iff.1 hgb).1
    have cS := sortPts_calls ss gb cap W hH hgl (by omega)
    go_wp2_with (go_at_call 172; refine cS.mono ?_; rintro e w' ⟨rfl, nn, os, hw'⟩)
    go_ret
    refine ⟨_, rfl, ?_, ⟨fun e => (by cases e), fun e => ?_⟩, ?_⟩
    · rw [hsp, ← hlen]
      have hz := ownsRow_sortedK (n := nn) (os := os) hsl hbase hgb r1 r2 r3
      exact hz
    · subst e
      simp at hlen
      exact absurd (hnil.2 hlen) (by simp)
    · exact hbe.grown (grownBy_sortedK _) hbe.size (fun j hj => by cases hj; exact hbase)
theorem points_calls (s b : Nat) (es : Array MapEntry) (clock : Nat) (hst : Stamped es clock) (pc : List (Pt × Coin)) (hpc : es.toList.map (fun e => (e.key, e.val)) = pc.map fun x => (x.1.v, x.2.v)) (hN : pc.length * 16 ≤ 140737488355328)
    (w : World) (hm : w.cell? ⟨s, 0, none⟩ = some (.map (some b))) (hb : w.heap[b]? = some (.map es clock)) :
    Calls Tryz.prog 79 #[.pointer (some ⟨s, 0, none⟩)] w fun e w' => ∃ v, e = .returned v ∧ w'.ownsRow w.heap.size 65 9 v pc.length (flatPt (sortPts (pc.map (·.1)))) ∧ (v = .slice none 0 0 ↔ pc = []) ∧ Below w.heap.size w w' := by
  have hk := fun W => callsIn_wide.1 (ptKeys_in Fence.wide 1 trivial rfl (some b) W)
  have hbl : b < w.heap.size := (Array.getElem?_eq_some_iff.1 hb).1
  have hs := sortedFunc_calls w.heap.size b es clock hst pc hpc hN (w.alloc (.cells #[.map (some b)] 128)) (by simp) (by simp only [World.cell?, alloc_new]; rfl) ((Below.heap_alloc _ _ _ hbl).trans hb)
  have hbe : Below w.heap.size w (w.alloc (.cells #[.map (some b)] 128)) := (Below.refl _ w).alloc (Nat.le_refl _) _
  go_enter Tryz.func79, Tryz.ntmps79
  go_wp2_with (first
    | (go_at_call 132; refine (hk _).mono ?_; rintro e w' ⟨rfl, rfl⟩)
    | (go_at_call 131; refine hs.mono ?_; rintro e w' ⟨v, rfl, hrow, hnil, hb2⟩))
  go_ret
  exact ⟨v, rfl, ownsRow_base_a hrow (by simp), hnil, hbe.trans (hb2.mono (by simp))⟩
end Go.Proofs.YtnpkdoggfnlapaaGreatDoor
namespace Go.Proofs.YtnpkdoggfnlapaaGreatDoor
set_option maxRecDepth 100000
open Go.Sx
theorem flatPt_as (l : List Pt) (n : Nat) (hn : l.length = n) : FlatAs 9 n (fun i => (l.getD i default).cells) (flatPt l) := by
  intro i hi
  refine ⟨rfl, fun j v hj => ?_⟩
  have hjl : j < 9 := by have := (List.getElem?_eq_some_iff.1 hj).1; simpa [Pt.cells] using this
  rw [flatPt_get l i j hjl]
  have hil : i < l.length := by omega
  dsimp only at hj
  rw [List.getD_eq_getElem?_getD] at hj
  rw [List.getElem?_eq_getElem hil] at hj ⊢
  exact hj
theorem USet.at {β : Nat → Sx.Loc} {ow : Nat → Option Nat} {w : World} {c : Nat} {S : USet} (h : Holds β ow w c (.abs (usetP S))) : (β c).base = 0 ∧ ∃ b es clock, w.cell? ⟨(β c).blk, 0, none⟩ = some (.map (some b)) ∧ w.heap[b]? = some (.map es clock) ∧ MapKept.Stamped es clock ∧
    es.toList.map (fun e => (e.key, e.val)) = S.coins.map fun x => (x.1.v, x.2.v) := by
  obtain ⟨_, hb, _, _, β', ow', hw, e1, e2, e3, _, _, hall⟩ := h
  have h0 := hall 0 _ rfl
  have h1 := hall 1 _ rfl
  obtain ⟨_, _, _, arr, ha, hrel⟩ := h0
  obtain ⟨_, _, _, es, clock, hm, hs, hl⟩ := h1
  refine ⟨hb, (β' 1).blk, es, clock, ?_, hm, hs, hl⟩
  obtain ⟨v, r, hv, hv1, _⟩ := hrel
  simp only [SV.rel] at hv1
  subst hv1
  rw [← e1]
  simp only [World.cell?, ha]
  have : arr.toList[0]? = some (.map (some (β' 1).blk)) := by rw [hv]; rfl
  simpa using this
def USet.points (S : USet) : List Pt := sortPts (S.coins.map (·.1))
theorem USet.points_len (S : USet) : S.points.length = S.coins.length := by rw [USet.points, (sortPts_perm _).length_eq]; simp
theorem points_spec (S : USet) (hN : S.coins.length * 16 ≤ 140737488355328) {M : Mem} {c0 d : Nat} (hM : M.get c0 = some (.abs (usetP S))) :
    CallSpec Tryz.prog 79 [.one (.ptr c0 0 0 0)] M d { v := XV.sv (.slc d 9 0 S.coins.length), upd := [(d, .vec 65 9 S.coins.length fun i => (S.points.getD i default).cells)] } [c0] := by
  refine row_spec fun β ow w vs hw hvs hr => ?_
  have h := hr c0 (by simp) _ hM
  obtain ⟨hb, b, es, clock, h1, h2, h3, h4⟩ := USet.at h
  obtain ⟨v, r, rfl, hv, rfl⟩ := hvs
  simp only [CV.rel, SV.rel, Sx.Loc.addr, hb] at hv
  subst hv
  refine (points_calls (β c0).blk b es clock h3 S.coins h4 hN w h1 h2).mono ?_
  rintro e w' ⟨v, rfl, hrow, _, hbe⟩
  exact ⟨v, _, rfl, hrow, flatPt_as S.points _ S.points_len, hbe⟩
end Go.Proofs.YtnpkdoggfnlapaaGreatDoor
namespace Go.Proofs.YtnpkdoggfnlapaaGreatDoor
set_option maxRecDepth 100000
open Go.Sx
theorem points_mem {S : USet} (p : Pt) : p ∈ S.points ↔ S.has p = true := by
  rw [USet.points, (sortPts_perm _).mem_iff]
  constructor
  · intro h
    obtain ⟨x, hx, rfl⟩ := List.mem_map.1 h
    cases hh : S.has x.1 with
    | true => rfl
    | false => exact absurd rfl (mget_key hh x hx)
  · intro h
    exact List.mem_map.2 ⟨_, mget_mem (has_get h), rfl⟩
def USet.pt (S : USet) (i : Nat) : Pt := S.points.getD i default
theorem pt_eq {S : USet} {i : Nat} (hi : i < S.coins.length) : S.points[i]? = some (S.pt i) := by
  have : i < S.points.length := by rw [S.points_len]; exact hi
  rw [USet.pt, List.getD_eq_getElem?_getD, List.getElem?_eq_getElem this]; rfl
theorem pt_has {S : USet} {i : Nat} (hi : i < S.coins.length) : S.has (S.pt i) = true := (points_mem _).1 (List.mem_of_getElem? (pt_eq hi))
section
variable {S : USet} {R : RC} {zs : List (Pt × Coin)}
theorem TwinZ.points (h : TwinZ S R zs) : S.points = R.P := by
  rw [h.P]
  refine sorted_one ((sortPts_perm _).trans (h.perm.map _).symm) (sortPts_sorted _) ?_
  rw [List.pairwise_map]
  exact h.srt.imp fun {a b} hab => by rw [ltPt_asymm hab]; rfl
end
theorem get_there (S : USet) (p : Pt) (hp : S.has p = true) {M : Mem} {c0 d : Nat} (hM : M.get c0 = some (.abs (usetP S))) (hd : Nat.beq d c0 = false) : CallSpec Tryz.prog 21 [.one (.ptr c0 0 0 0), p.cv] M d { v := .tup [(S.get p).cv, .one (.raw (.bool true))], upd := [(c0, .abs (usetP S))], wr := [c0] } [c0] := by
  have h := get_spec S p hM hd
  rw [hp] at h
  exact h
theorem spec_obj2 {P : Program} {T : TyTab} {f : FuncId} {fn : Func} {c : Code} (hT : TabOK P T) (hf : P.funcs[f]? = some fn) (hb : fn.body = some c) {A B A' B' : AbsP} (X : XV) (hX : X.ok (fun _ => false) = true)
    {M : Mem} {c0 c1 d : Nat} (h0 : M.get c0 = some (.abs A)) (h1 : M.get c1 = some (.abs B)) (hne : (Nat.beq c0 c1 || Nat.beq d c0 || Nat.beq d c1) = false)
    (h : ∀ C : Ctx, C.n0 = 2 → Tri P C c ⟨slots0 fn.ntmps [.cv (.one (.ptr 0 0 0 0)), .cv (.one (.ptr 1 0 0 0))], [(0, .abs A), (1, .abs B)], 2⟩ (Sx.Ends C T fn.results.toList 2 2 ⟨X, [(0, .abs A'), (1, .abs B')], none⟩)) :
    CallSpec P f [.one (.ptr c0 0 0 0), .one (.ptr c1 0 0 0)] M d { v := X, upd := [(c0, .abs A'), (c1, .abs B')], wr := [c0, c1] } [c0, c1] := by
  simp only [Bool.or_eq_false_iff, nbeq, decide_eq_false_iff_not] at hne
  obtain ⟨⟨n1, n2⟩, n3⟩ := hne
  have get2 : ∀ (i : Nat) (x y ch : Chunk), Mem.get [(0, x), (1, y)] i = some ch → (i = 0 ∧ ch = x) ∨ (i = 1 ∧ ch = y) := by
    intro i x y ch hi
    simp only [Mem.get, nbeq] at hi
    by_cases e0 : 0 = i
    · subst e0; simp at hi; exact .inl ⟨rfl, hi.symm⟩
    · by_cases e1 : 1 = i
      · subst e1; simp at hi; exact .inr ⟨rfl, hi.symm⟩
      · simp [e0, e1] at hi
  refine spec_of_text (ids := [c0, c1]) (rids := []) (Xl := [.one (.ptr 0 0 0 0), .one (.ptr 1 0 0 0)]) (M0 := [(0, .abs A), (1, .abs B)]) (out := ⟨X, [(0, .abs A'), (1, .abs B')], none⟩) (k1 := 2) (n0 := 2) hT hf hb (by simp [n1]) rfl rfl (by simp [n2, n3]) rfl (fun i ch hi => ?_) (fun i ch hi => ?_) (fun i ch hi => by cases hi) (XV.ok_mono (fun _ h => by cases h) hX) h rfl (XV.ren_closed hX).symm rfl (fun q ch hq => ?_)
  · rcases get2 _ _ _ _ hi with ⟨rfl, rfl⟩ | ⟨rfl, rfl⟩
    · exact ⟨by decide, rfl, fun h => by omega, fun ci hci => by simp at hci; subst hci; exact h0⟩
    · exact ⟨by decide, rfl, fun h => by omega, fun ci hci => by simp at hci; subst hci; exact h1⟩
  · rcases get2 _ _ _ _ hi with ⟨rfl, rfl⟩ | ⟨rfl, rfl⟩ <;> exact ⟨rfl, rfl⟩
  · simp only [Mem.get, nbeq] at hq
    by_cases e0 : c0 = q
    · subst e0; simp at hq; subst hq; exact .inl ⟨0, rfl, rfl⟩
    · by_cases e1 : c1 = q
      · subst e1; simp [e0] at hq; subst hq; exact .inl ⟨1, rfl, rfl⟩
      · simp [e0, e1] at hq
def sameSt (S : USet) (R : RC) (i : Nat) : St :=
  ⟨[some (XV.sv (.ptr 0 0 0 0)), some (XV.sv (.ptr 1 0 0 0)), none, none, some (XV.bool false), some (XV.sv (.slc 2 9 0 S.coins.length)), some (XV.int .i64 i)] ++ List.replicate 72 none,
   [(0, .abs (usetP S)), (1, R.root 3 4), (2, .vec 65 9 S.coins.length fun i => (S.points.getD i default).cells), (3, R.vecP), (4, R.vecC)], 5⟩
set_option maxHeartbeats 4000000 in
set_option maxRecDepth 100000 in
theorem same_spec (S : USet) (R : RC) (hT : Twin S R) (hlen : S.coins.length ≤ 1000) {M : Mem} {c0 c1 d : Nat} (h0 : M.get c0 = some (.abs (usetP S))) (h1 : M.get c1 = some (.abs (rcP R))) (hne : (Nat.beq c0 c1 || Nat.beq d c0 || Nat.beq d c1) = false) :
    CallSpec Tryz.prog 41 [.one (.ptr c0 0 0 0), .one (.ptr c1 0 0 0)] M d { v := XV.bool true, upd := [(c0, .abs (usetP S)), (c1, .abs (rcP R))], wr := [c0, c1] } [c0, c1] := by
  obtain ⟨zs, hz⟩ := hT
  have hzl : zs.length = S.coins.length := hz.perm.length_eq
  have hPl : R.P.length = S.coins.length := by rw [hz.len.1, hzl]
  have hCl : R.C.length = S.coins.length := by rw [hz.len.2, hzl]
  refine spec_obj2 Tryz.T_ok Tryz.func41 rfl _ rfl h0 h1 hne (fun C hC => ?_)
  have hC0 : ∀ ids : List Nat, ids[0]? = some 0 → ids[1]? = some 1 → ∀ i, i < C.n0 → ids[i]? = some i := fun ids e0 e1 i hi => by
    rw [hC] at hi
    match i, hi with
    | 0, _ => exact e0
    | 1, _ => exact e1
  (refine Tri.cut 2 Tryz.mixed Tryz.T_ok ?_; refine xZ ?_)
  (apply wP; exact (call_op rfl (entersB_of Tryz.func79 (by kernel_rfl)) rfl (points_spec S (by omega) rfl)); refine xZ ?_)
  refine wD <| cutG ?_
  refine RC.opens R 1 rfl ?_
  (refine Tri.cut 1 Tryz.mixed Tryz.T_ok ?_; refine xZ ?_)
  refine wC (fun h => absurd h (by rw [hPl]; simp)) (fun _ => ?_)
  (refine xG ?_)
  (apply wP; exact (call_op rfl (entersB_of Tryz.func25 (by kernel_rfl)) rfl (len_spec S rfl rfl)); refine xZ ?_)
  refine wC (fun h => absurd h (by rw [hPl]; simp)) (fun _ => ?_)
  (refine xG ?_)
  (apply wP; exact (call_op rfl (entersB_of Tryz.func23 (by kernel_rfl)) rfl (total_spec S rfl rfl)); refine xZ ?_)
  (apply wP; exact (call_op rfl (entersB_of Tryz.func80 (by kernel_rfl)) rfl (rcTotal_spec R (by omega) (i1 := 7) (i2 := 8) rfl rfl rfl rfl rfl)); refine xZ ?_)
  refine wC (fun h => absurd h (by rw [hz.sum]; simp)) (fun _ => ?_)
  (refine xG ?_)
  refine wD <| cutG <| Tri.seq ?_
  (refine Tri.cut 1 Tryz.mixed Tryz.T_ok ?_; refine xZ ?_)
  refine wD <| cutG <| Tri.block ?_
  refine Tri.loop (α := { i : Nat // i ≤ S.coins.length }) (fun i => sameSt S R i.1) (fun i => S.coins.length - i.1) ⟨0, Nat.zero_le _⟩ ?_ ?_
  · exact Ent.ren [0, 1, 4, 7, 8] (by decide) rfl (hC0 _ rfl rfl) (by rw [hC]; decide) rfl ⟨rfl, rfl, rfl, rfl, rfl, trivial⟩ ⟨⟨_, rfl, rfl⟩, ⟨_, rfl, rfl, rfl⟩, ⟨_, rfl, rfl, rfl, Nat.le_refl _, fun _ _ => rfl⟩, ⟨_, rfl, rfl, rfl, Nat.le_refl _, fun _ _ => rfl⟩, ⟨_, rfl, rfl, rfl, Nat.le_refl _, fun _ _ => rfl⟩, trivial⟩
  rintro ⟨i, hi⟩
  dsimp only
  (refine Tri.cut 1 Tryz.mixed Tryz.T_ok ?_; refine xZ ?_)
  refine wC (fun h3 => ?_) (fun h3 => ?_)
  case refine_2 =>
    (refine xG ?_)
    refine wD <| cutE <| loopX <| blockX <| cutG <| Tri.of Tryz.mixed Tryz.T_ok ?_
    (refine xB ?_)
    refine wD ⟨.inr rfl, _, RC.shuts R 1 rfl rfl rfl rfl rfl rfl (Nat.le_refl _) (Nat.le_refl _) (fun _ _ => rfl) (fun _ _ => rfl), rfl, fun j ch hj => ?_, fun j ch hj => by cases hj⟩
    simp only [Mem.get, nbeq] at hj
    by_cases e0 : 0 = j
    · subst e0; simp at hj; subst hj; exact ⟨by decide, rfl⟩
    · by_cases e1 : 1 = j
      · subst e1; simp at hj; subst hj; exact ⟨by decide, rfl⟩
      · simp [e0, e1] at hj
  (refine xG ?_)
  have h3' : i < S.coins.length := by simp only [decide_eq_true_eq] at h3; omega
  have hwi : IntKind.i64.wrap ((i : Int) + 1) = ((i + 1 : Nat) : Int) := by rw [wrap_i64 (by omega) (by omega)]; omega
  have hgi : S.points.getD (0 + ((i : Nat) : Int).toNat) default = S.pt i := by simp [USet.pt]
  have hp : S.has (S.points.getD (0 + ((i : Nat) : Int).toNat) default) = true := by rw [hgi]; exact pt_has h3'
  have hPi : R.P.getD (0 + ((i : Nat) : Int).toNat) default = S.points.getD (0 + ((i : Nat) : Int).toNat) default := by rw [hz.points]
  have hCi : R.C.getD (0 + ((i : Nat) : Int).toNat) default = S.get (S.points.getD (0 + ((i : Nat) : Int).toNat) default) := by
    have ha := hz.at (i := i) (by omega)
    have e : (0 + ((i : Nat) : Int).toNat) = i := by omega
    rw [← hPi, e]
    unfold USet.get
    rw [ha.1, ha.2.2, ha.2.1]
    rfl
  refine wD <| cutG <| Tri.seq <| Tri.block <| Tri.of Tryz.mixed Tryz.T_ok ?_
  (refine xB ?_)
  refine wN ⟨by omega, by omega⟩ ?_
  (refine xG ?_)
  refine wN (by omega) ?_
  (refine xG ?_)
  (apply wP; exact (call_op rfl (entersB_of Tryz.func21 (by kernel_rfl)) rfl (get_there S (S.points.getD (0 + ((i : Nat) : Int).toNat) default) hp rfl rfl)); refine xZ ?_)
  refine wN ⟨by omega, by omega⟩ ?_
  (refine xG ?_)
  refine wN (by omega) ?_
  (refine xG ?_)
  refine wN ⟨by omega, by omega⟩ ?_
  (refine xG ?_)
  refine wN (by omega) ?_
  (refine xG ?_)
  (refine wP _ _ (neq_op ptE rfl (S.points.getD (0 + ((i : Nat) : Int).toNat) default) (R.P.getD (0 + ((i : Nat) : Int).toNat) default) rfl rfl) ?_; refine xZ ?_)
  refine wC (fun h => absurd h (by rw [hPi]; simp)) (fun _ => ?_)
  (refine xG ?_)
  refine wN ⟨by omega, by omega⟩ ?_
  (refine xG ?_)
  refine wN (by omega) ?_
  (refine xG ?_)
  (apply wP; exact (call_op rfl (entersB_of Tryz.func81 (by kernel_rfl)) rfl (lawCoin_spec (R.C.getD (0 + ((i : Nat) : Int).toNat) default) _ _)); refine xZ ?_)
  (refine wP _ _ (neq_op coinE rfl (S.get (S.points.getD (0 + ((i : Nat) : Int).toNat) default)) (R.C.getD (0 + ((i : Nat) : Int).toNat) default) rfl rfl) ?_; refine xZ ?_)
  refine wC (fun h => absurd h (by rw [hCi]; simp)) (fun _ => ?_)
  (refine xG ?_)
  refine wD <| blockN <| Tri.of Tryz.mixed Tryz.T_ok ?_
  (refine xB ?_)
  refine wD <| loopN ⟨⟨i + 1, h3'⟩, by simp only; omega, ?_⟩
  exact Ent.ren [0, 1, 2, 3, 4] (by decide) rfl (hC0 _ rfl rfl) (by rw [hC]; decide) rfl ⟨rfl, rfl, rfl, rfl, congrArg (fun n : Int => some (XV.int .i64 n)) hwi, trivial⟩ ⟨⟨_, rfl, rfl⟩, ⟨_, rfl, rfl, rfl⟩, ⟨_, rfl, rfl, rfl, Nat.le_refl _, fun _ _ => rfl⟩, ⟨_, rfl, rfl, rfl, Nat.le_refl _, fun _ _ => rfl⟩, ⟨_, rfl, rfl, rfl, Nat.le_refl _, fun _ _ => rfl⟩, trivial⟩
end Go.Proofs.YtnpkdoggfnlapaaGreatDoor
namespace Go.Proofs
open Go.Shelf
def Tryz.insInt_ren : Go.Shelf.Ren := ⟨fun | 21 => 54 | 27 => 102 | 28 => 103 | 35 => 157 | 39 => 192 | n => n, fun | 22 => 66 | 3 => 3 | 4 => 4 | 0 => 0 | n => n, fun | n => n⟩
theorem Tryz.insInt : Go.Proofs.Lays2.n21 Tryz.prog Tryz.insInt_ren := {
  mixed := by kernel_rfl
  f21 := Tryz.func54.trans (congrArg some (by kernel_rfl))
  f27 := Tryz.func102.trans (congrArg some (by kernel_rfl))
  f28 := Tryz.func103.trans (congrArg some (by kernel_rfl))
  f35 := Tryz.func157.trans (congrArg some (by kernel_rfl))
  f39 := Tryz.func192.trans (congrArg some (by kernel_rfl))
  t0 := Tryz.underlying0
  a0 := Tryz.isAgg0
  z0 := Tryz.sizeOf0
  v0 := Tryz.zeroValue0
  t3 := Tryz.underlying3
  a3 := Tryz.isAgg3
  z3 := Tryz.sizeOf3
  v3 := Tryz.zeroValue3
  t4 := Tryz.underlying4
  a4 := Tryz.isAgg4
  z4 := Tryz.sizeOf4
  v4 := Tryz.zeroValue4
  t22 := Tryz.underlying66
  a22 := Tryz.isAgg66
  z22 := Tryz.sizeOf66
  v22 := Tryz.zeroValue66
  i3 := by kernel_rfl }
end Go.Proofs
namespace Go.Proofs.YtnpkdoggfnlapaaGreatDoor
set_option maxRecDepth 100000
open Go.Sx
theorem range_all_succ (p : Nat → Bool) (i : Nat) : (List.range (i + 1)).all p = ((List.range i).all p && p i) := by rw [List.range_succ, List.all_append]; simp
theorem range_all_false {p : Nat → Bool} {n i : Nat} (hi : i < n) (h : p i = false) : (List.range n).all p = false := by
  rw [List.all_eq_false]
  exact ⟨i, List.mem_range.2 hi, by rw [h]; simp⟩
theorem getD_take {E : Type} [Inhabited E] {l : List E} {i j : Nat} (h : j < i) : (l.take i).getD j default = l.getD j default := by
  rw [List.getD_eq_getElem?_getD, List.getD_eq_getElem?_getD, List.getElem?_take_of_lt h]
theorem LendsC.all_raw {M : Mem} {rd : List Nat} : ∀ vs : List Value, LendsC M rd (vs.map .raw) (vs.map .raw)
  | [] => trivial
  | _ :: vs => ⟨rfl, LendsC.all_raw vs⟩
def parCells (p : ParM) (s : SV) : List SV := .raw (.int .i64 p.len) :: .raw (.int .i64 p.win) :: .raw (.int .i64 p.need) :: [s]
def certCells (c : CertM) (s1 s2 : SV) : List SV := .raw (.int .i64 c.side) :: .raw (.int .i64 c.ep) :: .raw (.int .i64 c.qual) :: (c.fin.cells.map .raw ++ (c.root.cells.map .raw ++ [s1, s2]))
def txCells (t : TxM) (s1 s2 s3 s4 s5 s6 : SV) : List SV := .raw (.int .i64 t.kind) :: .raw (.int .i64 t.height) :: s1 :: s2 :: s3 :: (parCells t.par s4 ++ (certCells t.cert s5 s6 ++ t.claim.cells.map .raw))
theorem lend_cert_cells {M : Mem} {rd : List Nat} {c : CertM} {s1 s2 : SV} {r : List SV} {l : List AC} (h1 : Lends M rd (.one s1) (.row 9 c.outs.length (outsF c.outs))) (h2 : Lends M rd (.one s2) (.row 282 c.sigs.length (sgdsF c.sigs))) (h : LendsC M rd r l) : LendsC M rd (certCells c s1 s2 ++ r) (c.ac ++ l) := by
  refine ⟨rfl, rfl, rfl, ?_⟩
  show LendsC M rd ((c.fin.cells.map .raw ++ (c.root.cells.map .raw ++ [s1, s2])) ++ r) ((rC c.fin.cells ++ (rC c.root.cells ++ [AC.row 9 c.outs.length (outsF c.outs), .row 282 c.sigs.length (sgdsF c.sigs)])) ++ l)
  rw [List.append_assoc, List.append_assoc, List.append_assoc, List.append_assoc]
  refine LendsC.raws ?_ _
  refine LendsC.raws ?_ _
  exact ⟨h1, h2, h⟩
theorem lend_tx {M : Mem} {rd : List Nat} {t : TxM} {s1 s2 s3 s4 s5 s6 : SV} (h1 : Lends M rd (.one s1) (.row 298 t.ins.length (insF t.ins))) (h2 : Lends M rd (.one s2) (.row 9 t.outs.length (outsF t.outs))) (h3 : Lends M rd (.one s3) (.row 11 t.fwds.length (fwdsF t.fwds)))
    (h4 : Lends M rd (.one s4) (.row 8 t.par.keys.length (keysF t.par.keys))) (h5 : Lends M rd (.one s5) (.row 9 t.cert.outs.length (outsF t.cert.outs))) (h6 : Lends M rd (.one s6) (.row 282 t.cert.sigs.length (sgdsF t.cert.sigs))) : Lends M rd (.agg (txCells t s1 s2 s3 s4 s5 s6)) (.box t.ac) :=
  lend_box ⟨rfl, rfl, h1, h2, h3, rfl, rfl, rfl, h4, lend_cert_cells h5 h6 (LendsC.all_raw _)⟩
def parZ (p : ParM) : Bool := p.len == 0 && (p.win == 0 && (p.need == 0 && (p.keys.length : Int) == 0))
def certZ (c : CertM) : Bool := c.side == 0 && (c.ep == 0 && (c.qual == 0 && (zeroB c.fin && (zeroB c.root && ((c.outs.length + c.sigs.length : Nat) : Int) == 0))))
def emptyB (t : TxM) : Bool := t.height == 0 && (((t.ins.length + t.outs.length + t.fwds.length : Nat) : Int) == 0 && (parZ t.par && certZ t.cert))
structure Sized (t : TxM) : Prop where
  ins : t.ins.length ≤ 1000000000
  outs : t.outs.length ≤ 1000000000
  fwds : t.fwds.length ≤ 1000000000
  keys : t.par.keys.length ≤ 1000000000
  couts : t.cert.outs.length ≤ 1000000000
  sigs : t.cert.sigs.length ≤ 1000000000
def TxM.cs (t : TxM) : List SV := boxC 0 t.ac
def emptyM (t : TxM) : Mem := [(6, .cells 48 t.cs)]
def certCs (t : TxM) : List SV := boxC 4 t.cert.ac
def emptySt2 (t : TxM) : St := ⟨[none, some (XV.sv (.ptr 6 0 0 0)), none, none, some (XV.sv (.ptr 7 0 0 0)), some (XV.bool (parZ t.par))] ++ List.replicate 86 none, emptyM t ++ [(7, .cells 43 (certCs t))], 8⟩
def emptySt3 (t : TxM) : St := ⟨[none, some (XV.sv (.ptr 6 0 0 0)), none, none, none, some (XV.bool (parZ t.par)), some (XV.bool (certZ t.cert))] ++ List.replicate 85 none, emptyM t, 7⟩
def claimK : List Kd := [.int .i64, .int .i64] ++ (hashKinds ++ ([.int .i64, .int .i64] ++ (List.replicate 16 hashKinds).flatten))
theorem claim_deep : Tryz.prog.keyTypeAt 8 46 = true := by kernel_rfl
theorem claim_keyT : Tryz.prog.keyType 46 = true := by kernel_rfl
theorem claim_row : (46 : TypeId) < Tryz.prog.types.size := of_decide_eq_true (by kernel_rfl)
theorem claim_law : WideMaps.KeyLaw Tryz.prog 46 := deep_law_laid laid (m := 8) (by omega) claim_row claim_deep (by rw [Tryz.underlying46])
theorem claim_cells : claimK.length = Tryz.prog.cellsOf 46 := by kernel_rfl
theorem claim_noguard : Tryz.prog.eqGuardType Tryz.prog.depth 46 = false := by kernel_rfl
def ClaimV := { cs : List Value // Fits claimK cs }
noncomputable instance : DecidableEq ClaimV := fun _ _ => Classical.propDecidable _
def ClaimV.v (c : ClaimV) : Value := .agg c.1.toArray
theorem ClaimV.inj (a b : ClaimV) (h : a.v = b.v) : a = b := by
  apply Subtype.ext
  have := congrArg (fun v => v.cells.toList) h
  simpa [ClaimV.v, Value.cells] using this
theorem claim_key (h : ClaimV) : ∃ l, keyOf Tryz.prog 46 h.v = some l := keyOf_fits Tryz.T_ok (f := 8) (ks := claimK) rfl claim_deep claim_keyT types_many (by rw [Tryz.underlying46]) h.2 claim_cells
theorem claimE : EqK Tryz.prog 46 ClaimV.v := EqK.of (m := 8) claim_law (by omega) claim_deep (by rw [Tryz.underlying46]) claim_key ClaimV.inj claim_noguard (fun a => ⟨_, rfl⟩)
theorem hashes_fits : ∀ (n : Nat) (f : Nat → H8) (i : Nat), Fits ((List.replicate n hashKinds).flatten) (tabF (hashF f) i n)
  | 0, _, _ => rfl
  | n + 1, f, i => by rw [List.replicate_succ, List.flatten_cons]; exact Fits.append (hash_fits (f i)) (hashes_fits n f (i + 1))
def inI64 (n : Int) : Prop := (Lit.int .i64 n).wf = true
structure ClaimM.Wf (c : ClaimM) : Prop where
  side : inI64 c.side
  acct : inI64 c.acct
  amt : inI64 c.st.amt
  nonce : inI64 c.st.nonce
theorem ClaimM.fits {c : ClaimM} (h : c.Wf) : Fits claimK c.cells := by
  refine ⟨_, _, rfl, ⟨_, rfl, h.side⟩, _, _, rfl, ⟨_, rfl, h.acct⟩, ?_⟩
  have e : c.st.cells ++ tabF (hashF c.proof) 0 16 = c.st.owner.cells ++ ([.int .i64 c.st.amt, .int .i64 c.st.nonce] ++ tabF (hashF c.proof) 0 16) := by simp [AccM.cells]
  rw [e]
  show Fits (hashKinds ++ ([.int .i64, .int .i64] ++ (List.replicate 16 hashKinds).flatten)) _
  exact Fits.append (hash_fits _) (Fits.append ⟨_, _, rfl, ⟨_, rfl, h.amt⟩, _, _, rfl, ⟨_, rfl, h.nonce⟩, rfl⟩ (hashes_fits 16 _ 0))
theorem claim0_wf : claim0.Wf := ⟨rfl, rfl, rfl, rfl⟩
def ClaimM.cv (c : ClaimM) (h : c.Wf) : ClaimV := ⟨c.cells, c.fits h⟩
noncomputable def claimZ (c : ClaimM) (h : c.Wf) : Bool := decide (c.cv h = claim0.cv claim0_wf)
theorem claimZ_zero (h : claim0.Wf) : claimZ claim0 h = true := decide_eq_true rfl
set_option maxHeartbeats 4000000 in
theorem empty_can (t : TxM) (hs : Sized t) (hc : t.claim.Wf) : Reads Tryz.prog 140 [.box t.ac] [] (XV.bool (emptyB t && claimZ t.claim hc)) := by
  have hi := hs.ins
  have ho := hs.outs
  have hf := hs.fwds
  have hco := hs.couts
  have hcs := hs.sigs
  refine Reads.of Tryz.T_ok Tryz.func140 rfl _ _ _ rfl rfl (fun C hC => ?_)
  (replace hC : C.n0 = 6 := hC; change Tri _ _ _ ⟨_, _, 6⟩ _)
  (refine Tri.cut 2 Tryz.mixed Tryz.T_ok ?_; refine xZ ?_)
  refine wD <| cutG <| Tri.merge (emptySt2 t) (Tri.of Tryz.mixed Tryz.T_ok ?_) ?_
  · (refine xB ?_)
    refine wC (fun h1 => ?_) (fun h1 => ?_)
    · (refine xG ?_)
      refine wC (fun h2 => ?_) (fun h2 => ?_)
      · (refine xG ?_)
        refine wC (fun h3 => ?_) (fun h3 => ?_)
        · (refine xG ?_)
          refine wD ⟨rfl, ?_⟩
          unfold emptySt2
          rw [show parZ t.par = ((t.par.keys.length : Int) == 0) by rw [parZ, h1, h2, h3]; rfl]
          ((try dsimp only); refine Ent.renC [0, 1, 2, 3, 4, 5, 6, 13] hC ?_ ?_ <;> repeat' (first | exact trivial | exact rfl | exact ⟨_, rfl, rfl, rfl, Nat.le_refl _, fun _ _ => rfl⟩ | exact ⟨_, rfl, rfl, rfl, fun _ _ => rfl⟩ | exact ⟨_, rfl, rfl, rfl⟩ | exact ⟨_, rfl, rfl⟩ | refine ⟨_, rfl, rfl, rfl, by omega, fun k hk => ?_⟩ | refine ⟨?_, ?_⟩ | fail))
        · (refine xG ?_)
          refine wD ⟨rfl, ?_⟩
          unfold emptySt2
          rw [show parZ t.par = false by rw [parZ, h1, h2, h3]; rfl]
          ((try dsimp only); refine Ent.renC [0, 1, 2, 3, 4, 5, 6, 13] hC ?_ ?_ <;> repeat' (first | exact trivial | exact rfl | exact ⟨_, rfl, rfl, rfl, Nat.le_refl _, fun _ _ => rfl⟩ | exact ⟨_, rfl, rfl, rfl, fun _ _ => rfl⟩ | exact ⟨_, rfl, rfl, rfl⟩ | exact ⟨_, rfl, rfl⟩ | refine ⟨_, rfl, rfl, rfl, by omega, fun k hk => ?_⟩ | refine ⟨?_, ?_⟩ | fail))
      · (refine xG ?_)
        refine wD ⟨rfl, ?_⟩
        unfold emptySt2
        rw [show parZ t.par = false by rw [parZ, h1, h2]; rfl]
        ((try dsimp only); refine Ent.renC [0, 1, 2, 3, 4, 5, 6, 13] hC ?_ ?_ <;> repeat' (first | exact trivial | exact rfl | exact ⟨_, rfl, rfl, rfl, Nat.le_refl _, fun _ _ => rfl⟩ | exact ⟨_, rfl, rfl, rfl, fun _ _ => rfl⟩ | exact ⟨_, rfl, rfl, rfl⟩ | exact ⟨_, rfl, rfl⟩ | refine ⟨_, rfl, rfl, rfl, by omega, fun k hk => ?_⟩ | refine ⟨?_, ?_⟩ | fail))
    · (refine xG ?_)
      refine wD ⟨rfl, ?_⟩
      unfold emptySt2
      rw [show parZ t.par = false by rw [parZ, h1]; rfl]
      ((try dsimp only); refine Ent.renC [0, 1, 2, 3, 4, 5, 6, 13] hC ?_ ?_ <;> repeat' (first | exact trivial | exact rfl | exact ⟨_, rfl, rfl, rfl, Nat.le_refl _, fun _ _ => rfl⟩ | exact ⟨_, rfl, rfl, rfl, fun _ _ => rfl⟩ | exact ⟨_, rfl, rfl, rfl⟩ | exact ⟨_, rfl, rfl⟩ | refine ⟨_, rfl, rfl, rfl, by omega, fun k hk => ?_⟩ | refine ⟨?_, ?_⟩ | fail))
  refine Tri.merge (emptySt3 t) (Tri.of Tryz.mixed Tryz.T_ok ?_) (Tri.of Tryz.mixed Tryz.T_ok ?_)
  · (refine xB ?_)
    have fin : ∀ {S : St} {b : Bool}, b = certZ t.cert → Ent C S ⟨(emptySt3 t).slots.set 6 (some (XV.bool b)), (emptySt3 t).mem, 7⟩ → Ent C S (emptySt3 t) := by
      intro S b hb h; subst hb; exact h
    refine wC (fun h1 => ?_) (fun h1 => ?_)
    · (refine xG ?_)
      refine wC (fun h2 => ?_) (fun h2 => ?_)
      · (refine xG ?_)
        refine wC (fun h3 => ?_) (fun h3 => ?_)
        · (refine xG ?_)
          (apply wP; exact (call_op rfl (entersB_of Tryz.func145 (by kernel_rfl)) rfl ((zero_can t.cert.fin).at [] ⟨lend_plain rfl, trivial⟩ trivial)); refine xZ ?_)
          refine wC (fun h4 => ?_) (fun h4 => ?_)
          · (refine xG ?_)
            (apply wP; exact (call_op rfl (entersB_of Tryz.func145 (by kernel_rfl)) rfl ((zero_can t.cert.root).at [] ⟨lend_plain rfl, trivial⟩ trivial)); refine xZ ?_)
            refine wC (fun h5 => ?_) (fun h5 => ?_)
            · (refine xG ?_)
              have e : IntKind.i64.wrap ((t.cert.outs.length : Int) + (t.cert.sigs.length : Int)) = ((t.cert.outs.length + t.cert.sigs.length : Nat) : Int) := xW
              rw [e]
              refine wD ⟨rfl, fin (b := (((t.cert.outs.length + t.cert.sigs.length : Nat) : Int) == 0)) (by rw [certZ, h1, h2, h3, h4, h5]; rfl) ?_⟩
              ((try dsimp only); refine Ent.renC [0, 1, 2, 3, 4, 5, 6] hC ?_ ?_ <;> repeat' (first | exact trivial | exact rfl | exact ⟨_, rfl, rfl, rfl, Nat.le_refl _, fun _ _ => rfl⟩ | exact ⟨_, rfl, rfl, rfl, fun _ _ => rfl⟩ | exact ⟨_, rfl, rfl, rfl⟩ | exact ⟨_, rfl, rfl⟩ | refine ⟨_, rfl, rfl, rfl, by omega, fun k hk => ?_⟩ | refine ⟨?_, ?_⟩ | fail))
            · (refine xG ?_)
              refine wD ⟨rfl, fin (b := false) (by rw [certZ, h1, h2, h3, h4, h5]; rfl) ?_⟩
              ((try dsimp only); refine Ent.renC [0, 1, 2, 3, 4, 5, 6] hC ?_ ?_ <;> repeat' (first | exact trivial | exact rfl | exact ⟨_, rfl, rfl, rfl, Nat.le_refl _, fun _ _ => rfl⟩ | exact ⟨_, rfl, rfl, rfl, fun _ _ => rfl⟩ | exact ⟨_, rfl, rfl, rfl⟩ | exact ⟨_, rfl, rfl⟩ | refine ⟨_, rfl, rfl, rfl, by omega, fun k hk => ?_⟩ | refine ⟨?_, ?_⟩ | fail))
          · (refine xG ?_)
            refine wD ⟨rfl, fin (b := false) (by rw [certZ, h1, h2, h3, h4]; rfl) ?_⟩
            ((try dsimp only); refine Ent.renC [0, 1, 2, 3, 4, 5, 6] hC ?_ ?_ <;> repeat' (first | exact trivial | exact rfl | exact ⟨_, rfl, rfl, rfl, Nat.le_refl _, fun _ _ => rfl⟩ | exact ⟨_, rfl, rfl, rfl, fun _ _ => rfl⟩ | exact ⟨_, rfl, rfl, rfl⟩ | exact ⟨_, rfl, rfl⟩ | refine ⟨_, rfl, rfl, rfl, by omega, fun k hk => ?_⟩ | refine ⟨?_, ?_⟩ | fail))
        · (refine xG ?_)
          refine wD ⟨rfl, fin (b := false) (by rw [certZ, h1, h2, h3]; rfl) ?_⟩
          ((try dsimp only); refine Ent.renC [0, 1, 2, 3, 4, 5, 6] hC ?_ ?_ <;> repeat' (first | exact trivial | exact rfl | exact ⟨_, rfl, rfl, rfl, Nat.le_refl _, fun _ _ => rfl⟩ | exact ⟨_, rfl, rfl, rfl, fun _ _ => rfl⟩ | exact ⟨_, rfl, rfl, rfl⟩ | exact ⟨_, rfl, rfl⟩ | refine ⟨_, rfl, rfl, rfl, by omega, fun k hk => ?_⟩ | refine ⟨?_, ?_⟩ | fail))
      · (refine xG ?_)
        refine wD ⟨rfl, fin (b := false) (by rw [certZ, h1, h2]; rfl) ?_⟩
        ((try dsimp only); refine Ent.renC [0, 1, 2, 3, 4, 5, 6] hC ?_ ?_ <;> repeat' (first | exact trivial | exact rfl | exact ⟨_, rfl, rfl, rfl, Nat.le_refl _, fun _ _ => rfl⟩ | exact ⟨_, rfl, rfl, rfl, fun _ _ => rfl⟩ | exact ⟨_, rfl, rfl, rfl⟩ | exact ⟨_, rfl, rfl⟩ | refine ⟨_, rfl, rfl, rfl, by omega, fun k hk => ?_⟩ | refine ⟨?_, ?_⟩ | fail))
    · (refine xG ?_)
      refine wD ⟨rfl, fin (b := false) (by rw [certZ, h1]; rfl) ?_⟩
      ((try dsimp only); refine Ent.renC [0, 1, 2, 3, 4, 5, 6] hC ?_ ?_ <;> repeat' (first | exact trivial | exact rfl | exact ⟨_, rfl, rfl, rfl, Nat.le_refl _, fun _ _ => rfl⟩ | exact ⟨_, rfl, rfl, rfl, fun _ _ => rfl⟩ | exact ⟨_, rfl, rfl, rfl⟩ | exact ⟨_, rfl, rfl⟩ | refine ⟨_, rfl, rfl, rfl, by omega, fun k hk => ?_⟩ | refine ⟨?_, ?_⟩ | fail))
  · (refine xB ?_)
    refine wC (fun h1 => ?_) (fun h1 => ?_)
    · (refine xG ?_)
      have e1 : IntKind.i64.wrap ((t.ins.length : Int) + (t.outs.length : Int)) = ((t.ins.length + t.outs.length : Nat) : Int) := xW
      have e2 : IntKind.i64.wrap (((t.ins.length + t.outs.length : Nat) : Int) + (t.fwds.length : Int)) = ((t.ins.length + t.outs.length + t.fwds.length : Nat) : Int) := xW
      simp only [e1, e2]
      refine wC (fun h2 => ?_) (fun h2 => ?_)
      · (refine xG ?_)
        refine wC (fun h3 => ?_) (fun h3 => ?_)
        · (refine xG ?_)
          refine wC (fun h4 => ?_) (fun h4 => ?_)
          · (refine xG ?_)
            (refine wP _ _ (eq_op claimE rfl (t.claim.cv hc) (claim0.cv claim0_wf) rfl rfl) ?_; refine xZ ?_)
            refine wD (Ends.plain (.inr rfl) rfl ?_)
            rw [emptyB, h1, h2, h3, h4]; rfl
          · (refine xG ?_)
            refine wD (Ends.plain (.inr rfl) rfl ?_)
            rw [emptyB, h1, h2, h3, h4]; rfl
        · (refine xG ?_)
          refine wD (Ends.plain (.inr rfl) rfl ?_)
          rw [emptyB, h1, h2, h3]; rfl
      · (refine xG ?_)
        refine wD (Ends.plain (.inr rfl) rfl ?_)
        rw [emptyB, h1, h2]; rfl
    · (refine xG ?_)
      refine wD (Ends.plain (.inr rfl) rfl ?_)
      rw [emptyB, h1]; rfl
end Go.Proofs.YtnpkdoggfnlapaaGreatDoor
namespace Go.Proofs.YtnpkdoggfnlapaaGreatDoor
set_option maxRecDepth 100000
open Go.Sx
def idxG {E : Type} (q : E → Bool) (l : List E) : Int := if l.any q = true then ((l.findIdx q : Nat) : Int) else -1
theorem idxG_none {E : Type} {q : E → Bool} {l : List E} (h : l.any q = false) : idxG q l = -1 := by rw [idxG, if_neg (by rw [h]; simp)]
theorem idxG_at {E : Type} [Inhabited E] {q : E → Bool} {l : List E} {i : Nat} (hi : i < l.length) (h : (l.take i).any q = false) (hq : q (l.getD i default) = true) : idxG q l = (i : Int) := by
  have hm : l.getD i default ∈ l := by rw [List.getD_eq_getElem?_getD, List.getElem?_eq_getElem hi]; exact List.getElem_mem hi
  have h1 : l.any q = true := List.any_eq_true.2 ⟨_, hm, hq⟩
  rw [idxG, if_pos h1]
  congr 1
  refine (List.findIdx_eq hi).2 ⟨?_, fun j hj => ?_⟩
  · rw [List.getD_eq_getElem?_getD, List.getElem?_eq_getElem hi] at hq; exact hq
  · have : l[j] ∈ l.take i := by rw [List.mem_take_iff_getElem]; exact ⟨j, by omega, rfl⟩
    have := List.any_eq_false.1 h _ this
    simpa using this
theorem idxG_ge {E : Type} (q : E → Bool) (l : List E) : decide ((0 : Int) ≤ idxG q l) = l.any q := by
  unfold idxG
  cases h : l.any q with
  | true => rw [if_pos rfl]; simp
  | false => rw [if_neg (by simp)]; rfl
theorem any_take_succ' {E : Type} [Inhabited E] {p : E → Bool} {l : List E} {i : Nat} (hi : i < l.length) : (l.take (i + 1)).any p = ((l.take i).any p || p (l.getD i default)) := by
  rw [List.take_add_one, List.any_append]
  have : l[i]?.toList = [l.getD i default] := by rw [List.getElem?_eq_getElem hi, List.getD_eq_getElem?_getD, List.getElem?_eq_getElem hi]; rfl
  rw [this]; simp
def intsF (l : List Int) : Nat → List Value := fun i => [.int .i64 (l.getD i 0)]
def eqI (a x : Int) : Bool := a == x
theorem indexI_can (a : Int) (l : List Int) (hl : l.length ≤ 1000000000) : Reads Tryz.prog 141 [.row 1 l.length (intsF l), .plain (.one (.raw (.int .i64 a)))] [] (XV.int .i64 (idxG (eqI a) l)) := by
  refine Reads.of Tryz.T_ok Tryz.func141 rfl _ _ _ rfl rfl (fun C hC => ?_)
  (replace hC : C.n0 = 2 := hC; change Tri _ _ _ ⟨_, _, 2⟩ _)
  (refine Tri.cut 1 Tryz.mixed Tryz.T_ok ?_; refine xZ ?_)
  refine wD <| cutG <| Tri.seq ?_
  (refine Tri.cut 1 Tryz.mixed Tryz.T_ok ?_; refine xZ ?_)
  refine wD <| cutG <| Tri.block ?_
  refine Tri.loop (α := { i : Nat // i ≤ l.length ∧ (l.take i).any (eqI a) = false }) (fun i => ⟨[some (XV.sv (.slc 0 1 0 l.length)), some (XV.int .i64 a), none, none, none, none, none, some (XV.int .i64 l.length), some (XV.int .i64 i.1)] ++ List.replicate 10 none, [(0, .ro 1 l.length (intsF l))], 2⟩) (fun i => l.length - i.1) ⟨0, Nat.zero_le _, by simp⟩ ?_ ?_
  · ((try dsimp only); refine Ent.renC [0, 1] hC ?_ ?_ <;> repeat' (first | exact trivial | exact rfl | exact ⟨_, rfl, rfl, rfl, Nat.le_refl _, fun _ _ => rfl⟩ | exact ⟨_, rfl, rfl, rfl, fun _ _ => rfl⟩ | exact ⟨_, rfl, rfl, rfl⟩ | exact ⟨_, rfl, rfl⟩ | refine ⟨_, rfl, rfl, rfl, by omega, fun k hk => ?_⟩ | refine ⟨?_, ?_⟩ | fail))
  rintro ⟨i, hi, ha⟩
  dsimp only
  (refine Tri.cut 2 Tryz.mixed Tryz.T_ok ?_; refine xZ ?_)
  refine wC (fun h1 => ?_) (fun h1 => ?_)
  · (refine xG ?_)
    have h1' : i < l.length := xW
    have hs := any_take_succ' (p := eqI a) h1'
    have hw : IntKind.i64.wrap ((i : Int) + 1) = ((i + 1 : Nat) : Int) := xW
    refine wD <| cutG <| Tri.seq <| Tri.block <| Tri.of Tryz.mixed Tryz.T_ok ?_
    (refine xB ?_)
    (repeat (refine wN ?_ ?_; exact xW; refine xG ?_))
    simp only [Nat.zero_add, Int.toNat_natCast]
    refine wC (fun h2 => ?_) (fun h2 => ?_)
    · (refine xG ?_)
      refine wD <| blockR <| cutR <| loopR <| blockR <| cutR <| Ends.plain (.inr rfl) rfl ?_
      rw [idxG_at h1' ha (by simpa [eqI] using h2)]
    · (refine xG ?_)
      refine wD <| blockN <| cutG <| Tri.of Tryz.mixed Tryz.T_ok ?_
      (refine xB ?_)
      refine wD <| loopN ⟨⟨i + 1, h1', by rw [hs, ha, Bool.false_or]; simpa [eqI] using h2⟩, by dsimp only; omega, ?_⟩
      rw [hw]
      ((try dsimp only); refine Ent.renC [0, 1] hC ?_ ?_ <;> repeat' (first | exact trivial | exact rfl | exact ⟨_, rfl, rfl, rfl, Nat.le_refl _, fun _ _ => rfl⟩ | exact ⟨_, rfl, rfl, rfl, fun _ _ => rfl⟩ | exact ⟨_, rfl, rfl, rfl⟩ | exact ⟨_, rfl, rfl⟩ | refine ⟨_, rfl, rfl, rfl, by omega, fun k hk => ?_⟩ | refine ⟨?_, ?_⟩ | fail))
  · (refine xG ?_)
    have h1' : i = l.length := xW
    subst h1'
    rw [List.take_length] at ha
    refine wD <| cutE <| loopX <| blockX <| cutG <| Tri.of Tryz.mixed Tryz.T_ok ?_
    (refine xB ?_)
    exact wD (Ends.plain (.inr rfl) rfl (by rw [idxG_none ha]))
theorem containsI_can (a : Int) (l : List Int) (hl : l.length ≤ 1000000000) : Reads Tryz.prog 83 [.row 1 l.length (intsF l), .plain (.one (.raw (.int .i64 a)))] [] (XV.bool (l.any (eqI a))) := by
  refine Reads.of Tryz.T_ok Tryz.func83 rfl _ _ _ rfl rfl (fun C hC => ?_)
  (replace hC : C.n0 = 2 := hC; change Tri _ _ _ ⟨_, _, 2⟩ _)
  refine Tri.of Tryz.mixed Tryz.T_ok ?_
  (refine xB ?_)
  (apply wP; exact (call_op rfl (entersB_of Tryz.func141 (by kernel_rfl)) rfl ((indexI_can a l hl).at [0] ⟨lend_ro0 rfl rfl, lend_plain rfl, trivial⟩ trivial)); refine xZ ?_)
  exact wD (Ends.plain (.inr rfl) rfl (by rw [← idxG_ge]))
def eqH (a x : H8) : Bool := decide (a = x)
theorem indexH_can (a : H8) (l : List H8) (hl : l.length ≤ 1000000000) : Reads Tryz.prog 194 [.row 8 l.length (keysF l), .plain a.x] [] (XV.int .i64 (idxG (eqH a) l)) := by
  refine Reads.of Tryz.T_ok Tryz.func194 rfl _ _ _ rfl rfl (fun C hC => ?_)
  (replace hC : C.n0 = 2 := hC; change Tri _ _ _ ⟨_, _, 2⟩ _)
  (refine Tri.cut 1 Tryz.mixed Tryz.T_ok ?_; refine xZ ?_)
  refine wD <| cutG <| Tri.seq ?_
  (refine Tri.cut 1 Tryz.mixed Tryz.T_ok ?_; refine xZ ?_)
  refine wD <| cutG <| Tri.block ?_
  refine Tri.loop (α := { i : Nat // i ≤ l.length ∧ (l.take i).any (eqH a) = false }) (fun i => ⟨[some (XV.sv (.slc 0 8 0 l.length)), none, none, some (XV.sv (.ptr 2 0 0 0)), none, none, none, some (XV.int .i64 l.length), some (XV.int .i64 i.1)] ++ List.replicate 10 none, [(0, .ro 8 l.length (keysF l)), (2, .cells 29 (a.cells.map .raw))], 3⟩) (fun i => l.length - i.1) ⟨0, Nat.zero_le _, by simp⟩ ?_ ?_
  · ((try dsimp only); refine Ent.renC [0, 1, 2] hC ?_ ?_ <;> repeat' (first | exact trivial | exact rfl | exact ⟨_, rfl, rfl, rfl, Nat.le_refl _, fun _ _ => rfl⟩ | exact ⟨_, rfl, rfl, rfl, fun _ _ => rfl⟩ | exact ⟨_, rfl, rfl, rfl⟩ | exact ⟨_, rfl, rfl⟩ | refine ⟨_, rfl, rfl, rfl, by omega, fun k hk => ?_⟩ | refine ⟨?_, ?_⟩ | fail))
  rintro ⟨i, hi, ha⟩
  dsimp only
  (refine Tri.cut 2 Tryz.mixed Tryz.T_ok ?_; refine xZ ?_)
  refine wC (fun h1 => ?_) (fun h1 => ?_)
  · (refine xG ?_)
    have h1' : i < l.length := xW
    have hs := any_take_succ' (p := eqH a) h1'
    have hw : IntKind.i64.wrap ((i : Int) + 1) = ((i + 1 : Nat) : Int) := xW
    refine wD <| cutG <| Tri.seq <| Tri.block <| Tri.of Tryz.mixed Tryz.T_ok ?_
    (refine xB ?_)
    (repeat (refine wN ?_ ?_; exact xW; refine xG ?_))
    simp only [Nat.zero_add, Int.toNat_natCast]
    (refine wP _ _ (eq_op hashE rfl a (l.getD i default) rfl rfl) ?_; refine xZ ?_)
    refine wC (fun h2 => ?_) (fun h2 => ?_)
    · (refine xG ?_)
      refine wD <| blockR <| cutR <| loopR <| blockR <| cutR <| Ends.plain (.inr rfl) rfl ?_
      rw [idxG_at h1' ha h2]
    · (refine xG ?_)
      refine wD <| blockN <| cutG <| Tri.of Tryz.mixed Tryz.T_ok ?_
      (refine xB ?_)
      refine wD <| loopN ⟨⟨i + 1, h1', by rw [hs, ha, Bool.false_or]; exact h2⟩, by dsimp only; omega, ?_⟩
      rw [hw]
      ((try dsimp only); refine Ent.renC [0, 1, 2] hC ?_ ?_ <;> repeat' (first | exact trivial | exact rfl | exact ⟨_, rfl, rfl, rfl, Nat.le_refl _, fun _ _ => rfl⟩ | exact ⟨_, rfl, rfl, rfl, fun _ _ => rfl⟩ | exact ⟨_, rfl, rfl, rfl⟩ | exact ⟨_, rfl, rfl⟩ | refine ⟨_, rfl, rfl, rfl, by omega, fun k hk => ?_⟩ | refine ⟨?_, ?_⟩ | fail))
  · (refine xG ?_)
    have h1' : i = l.length := xW
    subst h1'
    rw [List.take_length] at ha
    refine wD <| cutE <| loopX <| blockX <| cutG <| Tri.of Tryz.mixed Tryz.T_ok ?_
    (refine xB ?_)
    exact wD (Ends.plain (.inr rfl) rfl (by rw [idxG_none ha]))
theorem containsH_can (a : H8) (l : List H8) (hl : l.length ≤ 1000000000) : Reads Tryz.prog 160 [.row 8 l.length (keysF l), .plain a.x] [] (XV.bool (l.any (eqH a))) := by
  refine Reads.of Tryz.T_ok Tryz.func160 rfl _ _ _ rfl rfl (fun C hC => ?_)
  (replace hC : C.n0 = 2 := hC; change Tri _ _ _ ⟨_, _, 2⟩ _)
  refine Tri.of Tryz.mixed Tryz.T_ok ?_
  (refine xB ?_)
  (apply wP; exact (call_op rfl (entersB_of Tryz.func194 (by kernel_rfl)) rfl ((indexH_can a l hl).at [0] ⟨lend_ro0 rfl rfl, lend_plain rfl, trivial⟩ trivial)); refine xZ ?_)
  exact wD (Ends.plain (.inr rfl) rfl (by rw [← idxG_ge]))
def keyAt (l : List H8) (i : Nat) : Bool := !(zeroB (l.getD i default)) && !((l.take i).any (eqH (l.getD i default)))
def keysOK (l : List H8) : Bool := (List.range l.length).all (keyAt l)
def parN (p : ParM) : Bool := !(decide ((p.keys.length : Int) < 1)) && (!(decide (5 < (p.keys.length : Int))) && (!(decide (p.need < 1)) && !(decide ((p.keys.length : Int) < p.need))))
def parT (p : ParM) : Bool := decide (2 ≤ p.len) && (decide (p.len ≤ 64) && (decide (1 ≤ p.win) && decide (p.win ≤ p.len)))
def parB (p : ParM) : Bool := parN p && (keysOK p.keys && parT p)
def parV (p : ParM) : List SV := .raw (.int .i64 p.len) :: .raw (.int .i64 p.win) :: .raw (.int .i64 p.need) :: [.slc 0 8 0 p.keys.length]
def qmayM (p : ParM) : Mem := [(0, .ro 8 p.keys.length (keysF p.keys)), (1, .cells 40 (parV p))]
set_option maxHeartbeats 2000000 in
theorem qmay_can (p : ParM) (hl : p.keys.length ≤ 1000000000) : Reads Tryz.prog 116 [.box p.ac] [] (XV.bool (parB p)) := by
  refine Reads.of Tryz.T_ok Tryz.func116 rfl _ _ _ rfl rfl (fun C hC => ?_)
  (replace hC : C.n0 = 1 := hC; change Tri _ _ _ ⟨_, _, 1⟩ _)
  (refine Tri.cut 3 Tryz.mixed Tryz.T_ok ?_; refine xZ ?_)
  have no : parN p = false → XV.bool false = XV.bool (parB p) := fun h => by rw [parB, h, Bool.false_and]
  refine wC (fun h1 => ?_) (fun h1 => ?_)
  · (refine xG ?_)
    exact wD <| cutR <| Ends.plain (.inr rfl) rfl (no (by rw [parN, h1]; rfl))
  (refine xG ?_)
  refine wC (fun h2 => ?_) (fun h2 => ?_)
  · (refine xG ?_)
    exact wD <| cutR <| Ends.plain (.inr rfl) rfl (no (by rw [parN, h1, h2]; rfl))
  (refine xG ?_)
  refine wC (fun h3 => ?_) (fun h3 => ?_)
  · (refine xG ?_)
    exact wD <| cutR <| Ends.plain (.inr rfl) rfl (no (by rw [parN, h1, h2, h3]; rfl))
  (refine xG ?_)
  refine wC (fun h4 => ?_) (fun h4 => ?_)
  · (refine xG ?_)
    exact wD <| cutR <| Ends.plain (.inr rfl) rfl (no (by rw [parN, h1, h2, h3, h4]; rfl))
  have hN : parN p = true := by rw [parN, h1, h2, h3, h4]; rfl
  (refine xG ?_)
  refine wD <| cutG <| Tri.seq ?_
  (refine Tri.cut 1 Tryz.mixed Tryz.T_ok ?_; refine xZ ?_)
  refine wD <| cutG <| Tri.block ?_
  refine Tri.loop (α := { i : Nat // i ≤ p.keys.length ∧ (List.range i).all (keyAt p.keys) = true }) (fun i => ⟨[none, some (XV.sv (.ptr 1 0 0 0))] ++ List.replicate 25 none ++ [some (XV.sv (.slc 0 8 0 p.keys.length)), some (XV.int .i64 p.keys.length), some (XV.int .i64 i.1)] ++ List.replicate 35 none, qmayM p, 2⟩) (fun i => p.keys.length - i.1) ⟨0, Nat.zero_le _, rfl⟩ ?_ ?_
  · unfold qmayM
    ((try dsimp only); refine Ent.renC [0, 1] hC ?_ ?_ <;> repeat' (first | exact trivial | exact rfl | exact ⟨_, rfl, rfl, rfl, Nat.le_refl _, fun _ _ => rfl⟩ | exact ⟨_, rfl, rfl, rfl, fun _ _ => rfl⟩ | exact ⟨_, rfl, rfl, rfl⟩ | exact ⟨_, rfl, rfl⟩ | refine ⟨_, rfl, rfl, rfl, by omega, fun k hk => ?_⟩ | refine ⟨?_, ?_⟩ | fail))
  rintro ⟨i, hi, ha⟩
  dsimp only
  unfold qmayM
  (refine Tri.cut 2 Tryz.mixed Tryz.T_ok ?_; refine xZ ?_)
  refine wC (fun h5 => ?_) (fun h5 => ?_)
  · (refine xG ?_)
    have h1' : i < p.keys.length := xW
    have hs := range_all_succ (keyAt p.keys) i
    have hw : IntKind.i64.wrap ((i : Int) + 1) = ((i + 1 : Nat) : Int) := xW
    have hlen : (p.keys.take i).length = i := by rw [List.length_take]; omega
    have bad : keyAt p.keys i = false → parB p = false := fun h => by rw [parB, hN, keysOK, range_all_false h1' h]; rfl
    refine wD <| cutG <| Tri.seq <| Tri.block <| Tri.of Tryz.mixed Tryz.T_ok ?_
    (refine xB ?_)
    (repeat (refine wN ?_ ?_; exact xW; refine xG ?_))
    simp only [Nat.zero_add, Int.toNat_natCast]
    (apply wP; exact (call_op rfl (entersB_of Tryz.func145 (by kernel_rfl)) rfl ((zero_can (p.keys.getD i default)).at [] ⟨lend_plain rfl, trivial⟩ trivial)); refine xZ ?_)
    refine wC (fun h2 => ?_) (fun h2 => ?_)
    · (refine xG ?_)
      refine wD <| blockR <| cutR <| loopR <| blockR <| cutR <| Ends.plain (.inr rfl) rfl ?_
      rw [bad (by rw [keyAt, h2]; rfl)]
    (refine xG ?_)
    (repeat (refine wN ?_ ?_; exact xW; refine xG ?_))
    simp only [Nat.zero_add, Int.toNat_natCast]
    (apply wP; exact (call_op rfl (entersB_of Tryz.func160 (by kernel_rfl)) rfl ((containsH_can (p.keys.getD i default) (p.keys.take i) (by rw [hlen]; omega)).at [0] ⟨by rw [hlen]; exact lend_ro rfl rfl (by omega) (fun j hj => by rw [Nat.zero_add]; exact congrArg H8.cells (getD_take hj)), lend_plain rfl, trivial⟩ trivial)); refine xZ ?_)
    refine wC (fun h3 => ?_) (fun h3 => ?_)
    · (refine xG ?_)
      refine wD <| blockR <| cutR <| loopR <| blockR <| cutR <| Ends.plain (.inr rfl) rfl ?_
      rw [bad (by rw [keyAt, h2, h3]; rfl)]
    · (refine xG ?_)
      refine wD <| blockN <| cutG <| Tri.of Tryz.mixed Tryz.T_ok ?_
      (refine xB ?_)
      refine wD <| loopN ⟨⟨i + 1, h1', by rw [hs, ha, keyAt, h2, h3]; rfl⟩, by dsimp only; omega, ?_⟩
      rw [hw]
      ((try dsimp only); refine Ent.renC [0, 1] hC ?_ ?_ <;> repeat' (first | exact trivial | exact rfl | exact ⟨_, rfl, rfl, rfl, Nat.le_refl _, fun _ _ => rfl⟩ | exact ⟨_, rfl, rfl, rfl, fun _ _ => rfl⟩ | exact ⟨_, rfl, rfl, rfl⟩ | exact ⟨_, rfl, rfl⟩ | refine ⟨_, rfl, rfl, rfl, by omega, fun k hk => ?_⟩ | refine ⟨?_, ?_⟩ | fail))
  · (refine xG ?_)
    have h1' : i = p.keys.length := xW
    subst h1'
    have hk : parB p = parT p := by rw [parB, hN, keysOK, ha, Bool.true_and, Bool.true_and]
    refine wD <| cutE <| loopX <| blockX <| cutG <| Tri.of Tryz.mixed Tryz.T_ok ?_
    rw [hk]
    (refine xB ?_)
    refine wC (fun k1 => ?_) (fun k1 => ?_)
    · (refine xG ?_)
      refine wC (fun k2 => ?_) (fun k2 => ?_)
      · (refine xG ?_)
        refine wC (fun k3 => ?_) (fun k3 => ?_)
        · (refine xG ?_)
          exact wD (Ends.plain (.inr rfl) rfl (by rw [parT, k1, k2, k3]; rfl))
        · (refine xG ?_)
          exact wD (Ends.plain (.inr rfl) rfl (by rw [parT, k1, k2, k3]; rfl))
      · (refine xG ?_)
        exact wD (Ends.plain (.inr rfl) rfl (by rw [parT, k1, k2]; rfl))
    · (refine xG ?_)
      exact wD (Ends.plain (.inr rfl) rfl (by rw [parT, k1]; rfl))
end Go.Proofs.YtnpkdoggfnlapaaGreatDoor
namespace Go.Proofs.YtnpkdoggfnlapaaGreatDoor
set_option maxRecDepth 100000
open Go.Sx
structure SideM where
  par : ParM
  made : Int
  bal : Int
  fwd : Int
  mat : Int
  clm : Int
  ceased : Bool
  hgt : Int
  root : H8
  pend : Bool
  cert : CertM
  used : List Int
def side0 : SideM := ⟨par0, 0, 0, 0, 0, 0, false, 0, zeroH, false, cert0, []⟩
instance : Inhabited SideM := ⟨side0⟩
def SideM.ac (x : SideM) : List AC := x.par.ac ++ (iC x.made :: iC x.bal :: iC x.fwd :: iC x.mat :: iC x.clm :: .raw (.bool x.ceased) :: iC x.hgt :: (rC x.root.cells ++ (.raw (.bool x.pend) :: (x.cert.ac ++ [.row 1 x.used.length (intsF x.used)]))))
def sideCells (x : SideM) (k o s u : SV) : List SV := parCells x.par k ++ (.raw (.int .i64 x.made) :: .raw (.int .i64 x.bal) :: .raw (.int .i64 x.fwd) :: .raw (.int .i64 x.mat) :: .raw (.int .i64 x.clm) :: .raw (.bool x.ceased) :: .raw (.int .i64 x.hgt) :: (x.root.cells.map .raw ++ (.raw (.bool x.pend) :: (certCells x.cert o s ++ [u]))))
theorem lend_side {M : Mem} {rd : List Nat} {x : SideM} {k o s u : SV} (h1 : Lends M rd (.one k) (.row 8 x.par.keys.length (keysF x.par.keys))) (h2 : Lends M rd (.one o) (.row 9 x.cert.outs.length (outsF x.cert.outs))) (h3 : Lends M rd (.one s) (.row 282 x.cert.sigs.length (sgdsF x.cert.sigs)))
    (h4 : Lends M rd (.one u) (.row 1 x.used.length (intsF x.used))) : Lends M rd (.agg (sideCells x k o s u)) (.box x.ac) := by
  refine lend_box ⟨rfl, rfl, rfl, h1, rfl, rfl, rfl, rfl, rfl, rfl, rfl, ?_⟩
  refine LendsC.raws ?_ _
  refine ⟨rfl, ?_⟩
  exact lend_cert_cells h2 h3 ⟨h4, trivial⟩
structure SideM.Sized (x : SideM) : Prop where
  keys : x.par.keys.length ≤ 1000000
  outs : x.cert.outs.length ≤ 1000000
  sigs : x.cert.sigs.length ≤ 1000000
  used : x.used.length ≤ 1000000
theorem SideM.ac_len (x : SideM) : x.ac.length = 42 := rfl
theorem SideM.ac_one (x : SideM) : x.ac.all AC.one = true := rfl
theorem boxed_append {p : Nat} {l : List Chunk} : ∀ {a : List SV} {b : List AC} {a' : List SV} {b' : List AC}, Boxed p l a b → Boxed p l a' b' → Boxed p l (a ++ a') (b ++ b')
  | [], [], _, _, _, h => h
  | _ :: _, .raw _ :: _, _, _, ⟨h1, h2⟩, h => ⟨h1, boxed_append h2 h⟩
  | _ :: _, .row _ _ _ :: _, _, _, ⟨h1, h2⟩, h => ⟨h1, boxed_append h2 h⟩
  | [], _ :: _, _, _, h, _ => h.elim
  | _ :: _, [], _, _, h, _ => h.elim
theorem boxed_raws {p : Nat} {l : List Chunk} : ∀ vs : List Value, Boxed p l (vs.map .raw) (rC vs)
  | [] => trivial
  | _ :: vs => ⟨rfl, boxed_raws vs⟩
theorem boxed_side {p : Nat} {l : List Chunk} {x : SideM} {k o s u : SV} (hk : Boxed p l [k] [.row 8 x.par.keys.length (keysF x.par.keys)]) (ho : Boxed p l [o] [.row 9 x.cert.outs.length (outsF x.cert.outs)]) (hs : Boxed p l [s] [.row 282 x.cert.sigs.length (sgdsF x.cert.sigs)])
    (hu : Boxed p l [u] [.row 1 x.used.length (intsF x.used)]) : Boxed p l (sideCells x k o s u) x.ac := by
  refine ⟨rfl, rfl, rfl, hk.1, rfl, rfl, rfl, rfl, rfl, rfl, rfl, ?_⟩
  refine boxed_append (boxed_raws _) ?_
  refine ⟨rfl, rfl, rfl, rfl, ?_⟩
  show Boxed p l ((x.cert.fin.cells.map .raw ++ (x.cert.root.cells.map .raw ++ [o, s])) ++ [u]) ((rC x.cert.fin.cells ++ (rC x.cert.root.cells ++ [AC.row 9 x.cert.outs.length (outsF x.cert.outs), .row 282 x.cert.sigs.length (sgdsF x.cert.sigs)])) ++ [AC.row 1 x.used.length (intsF x.used)])
  rw [List.append_assoc, List.append_assoc, List.append_assoc, List.append_assoc]
  exact boxed_append (boxed_raws _) (boxed_append (boxed_raws _) ⟨ho.1, hs.1, hu.1, trivial⟩)
end Go.Proofs.YtnpkdoggfnlapaaGreatDoor
