/- Parts Vb Vc Vd Vs Ve Vf. -/
import Derived.Test.YtmoohekgheoliaaGreatDoorG24
import Derived.Test.YtmoohekgheoliaaGreatDoorG23
import Derived.Test.YtmoohekgheoliaaGreatDoorG07
import Derived.RangeFuncGives
import Derived.Sort.MapsRangeIn
import Derived.WalkKit
import Derived.OwnWalkIn
import Derived.TacticsInMore
import Derived.RegionIn
import Derived.LoopNIn
import Derived.LoopIn
import Derived.RangeFuncBound
import Derived.Maps.AppendAt
import Derived.Shelf.SlIter.Collect
import Derived.Sort.Statements
import Derived.Shelf.SlSortCmp.Insertion
import Derived.Shelf.SlSortCmp.WholeK
import Derived.Shelf.SlSortCmp.NoneTotal
import Derived.Shelf.SlicesG.Cmp
import Derived.Shelf.SlGeneric
import Derived.Ground.SlsfProg
import Derived.Ground.SlgcProg
import Derived.Test.YtmoohekgheoliaaGreatDoorProg
set_option linter.unusedSimpArgs false
set_option linter.unusedVariables false
namespace Go.Proofs.YtmoohekgheoliaaGreatDoor
set_option maxRecDepth 100000
open Go.RowKit Go.Lib Go.Sort Go.MapKept
theorem inj_of_nodup {α β : Type} (f : α → β) : ∀ {l : List α}, (l.map f).Nodup → ∀ x ∈ l, ∀ y ∈ l, f x = f y → x = y
  | [], _, x, hx, _, _, _ => by cases hx
  | a :: l, h, x, hx, y, hy, e => by
    rw [List.map_cons, List.nodup_cons] at h
    rcases List.mem_cons.1 hx with rfl | hx' <;> rcases List.mem_cons.1 hy with rfl | hy'
    · rfl
    · exact absurd (List.mem_map.2 ⟨y, hy', e.symm⟩) h.1
    · exact absurd (List.mem_map.2 ⟨x, hx', e⟩) h.1
    · exact inj_of_nodup f h.2 x hx' y hy' e
section
variable {F : Fence} {n : Nat} {P : Program} (w : World) {ops : Array Oper} {rest : List Oper} {o : Oper} {a : Act} {Q : Exit → Act → World → Prop}
structure Walk (w : World) (b r : Nat) (es : Array MapEntry) (clock : Nat) (done : List MapEntry) : Prop where
  ne : r ≠ b
  map : w.heap[b]? = some (.map es clock)
  it : ∃ since seen c0, w.heap[r]? = some (.mapIter (some b) since seen c0) ∧ (∀ x ∈ es.toList, x.born < since) ∧ since ≤ c0 ∧ since ≤ clock ∧ seen.toList = done.map (·.born)
  sub : ∀ e ∈ done, e ∈ es.toList
  nodup : (done.map (·.born)).Nodup
theorem Walk.of_walks {w w' : World} {b r : Nat} {es : Array MapEntry} {clock : Nat} {done : List MapEntry} (h : Walk w b r es clock done) (hk : KeepsWalks w w') : Walk w' b r es clock done := by
  obtain ⟨h0, h1, ⟨since, seen, c0, h2, h3⟩, h4, h5⟩ := h
  exact ⟨h0, hk.same b _ h1 rfl, ⟨since, seen, c0, hk.same r _ h2 rfl, h3⟩, h4, h5⟩
theorem Walk.iter {w : World} {b r : Nat} {es : Array MapEntry} {clock : Nat} {done : List MapEntry} (h : Walk w b r es clock done) : ∃ o : Obj, w.heap[r]? = some o ∧ o.isWalk = true := by
  obtain ⟨_, _, ⟨since, seen, c0, h2, _⟩, _, _⟩ := h
  exact ⟨_, h2, rfl⟩
theorem Walk.left_eq {w : World} {b r : Nat} {es : Array MapEntry} {clock : Nat} {done : List MapEntry} (h : Walk w b r es clock done) {since c0 : Nat} {seen : Array Nat} (h2 : w.heap[r]? = some (.mapIter (some b) since seen c0)) : w.rangeLeft b r = (leftOf es seen).size := by
  simp [World.rangeLeft, h.map, h2]
theorem Walk.left_walks {w w' : World} {b r : Nat} {es : Array MapEntry} {clock : Nat} {done : List MapEntry} (h : Walk w b r es clock done) (hk : KeepsWalks w w') : w'.rangeLeft b r = w.rangeLeft b r := by
  obtain ⟨h0, h1, ⟨since, seen, c0, h2, h3⟩, h4, h5⟩ := h
  simp [World.rangeLeft, h1, h2, hk.same b _ h1 rfl, hk.same r _ h2 rfl]
theorem wpListIn_range_raw (hg : o.guard = none) (m : Operand) (t : TypeId) (hop : o.op = Op.range t m) (k e : TypeId) (ht : P.underlying t = some (.map k e)) (b : Nat) (es : Array MapEntry) (clock : Nat)
    (hm : a.eval m = .map (some b)) (hb : w.heap[b]? = some (.map es clock)) (hst : Stamped es clock)
    (hK : ∀ w', Walk w' b w.heap.size es clock [] → w.grownBy w' none → w'.heap.size = w.heap.size + 1 → wpListIn F n P ops Q rest (a.put o.dst (.pointer (some ⟨w.heap.size, 0, none⟩))) w') :
    wpListIn F n P ops Q (o :: rest) a w := by
  refine wpListIn_plain hg fun K' hK' => ?_
  have hrun := run_range_map (P := P) w t k e b es clock ht hb
  have hlt : b < w.heap.size := (Array.getElem?_eq_some_iff.1 hb).1
  unfold Oper.wpIn
  refine ⟨?_, ?_⟩
  · simp [Oper.about, hop]
  · rw [Oper.semAt_plain F _ _ (by rw [hop]; intro c hc'; cases hc')]
    simp [execOp, hop, hm, hrun, Result.andThen]
    refine hK' _ _ (hK _ ⟨by omega, (Below.heap_alloc _ _ _ hlt).trans hb, ⟨clock, #[], clock, alloc_new _ _, ((stamped_iff es clock).1 hst).1, Nat.le_refl _, Nat.le_refl _, rfl⟩, by simp, by simp⟩ (World.grownBy_alloc w _ none) (by simp))
theorem wpListIn_next_raw (hg : o.guard = none) (it : Operand) (hop : o.op = Op.next it false) (b r : Nat) (es : Array MapEntry) (clock : Nat) (done : List MapEntry) (hst : Stamped es clock)
    (hit : a.eval it = .pointer (some ⟨r, 0, none⟩)) (h : Walk w b r es clock done)
    (hDone : (∀ e ∈ es.toList, e ∈ done) → wpListIn F n P ops Q rest (a.put o.dst (.tuple #[.bool false])) w)
    (hMore : ∀ (e : MapEntry) (w' : World), e ∈ es.toList → e ∉ done → Walk w' b r es clock (done ++ [e]) → w'.rangeLeft b r < w.rangeLeft b r → w.grownBy w' (some r) → w'.heap.size = w.heap.size →
      (Instr.entry (.pointer (some ⟨r, 0, none⟩))).run P w' = .ok (.tuple #[e.key, e.val]) w' → wpListIn F n P ops Q rest (a.put o.dst (.tuple #[.bool true, e.key, e.val])) w') :
    wpListIn F n P ops Q (o :: rest) a w := by
  refine wpListIn_plain hg fun K' hK' => ?_
  unfold Oper.wpIn
  refine ⟨by simp [Oper.about, hop], ?_⟩
  rw [Oper.semAt_plain F _ _ (by rw [hop]; intro c hc'; cases hc')]
  have hborn := ((stamped_iff es clock).1 hst).2.1
  have hW := h
  obtain ⟨hne, hb, ⟨since, seen, c0, hr, hold, hsc, hsk, hseen⟩, hsub, hnd⟩ := h
  have hcont : ∀ x, seen.contains x = true ↔ x ∈ done.map (·.born) := fun x => by rw [Array.contains_iff_mem, ← Array.mem_toList_iff, hseen]
  have hinj : ∀ x ∈ es.toList, ∀ y ∈ es.toList, x.born = y.born → x = y := inj_of_nodup _ hborn
  rcases run_next_at (P := P) w o.type r b since c0 seen es clock hr hb hold hsc with ⟨h0, hrun⟩ | ⟨e, he, w1, hal, hrun⟩
  · simp [execOp, hop, hit, hrun, Result.andThen]
    refine hK' _ _ (hDone fun e he => ?_)
    have := (hcont _).1 (all_seen es seen h0 e he)
    obtain ⟨d, hd, hde⟩ := List.mem_map.1 this
    exact hinj d (hsub d hd) e he hde ▸ hd
  · obtain ⟨hem, hes⟩ := mem_left he
    have hr1 : w1.heap[r]? = some (.mapIter (some b) since seen c0) := by rcases hal with rfl | rfl <;> exact hr
    have hb1 : w1.heap[b]? = some (.map es clock) := by rcases hal with rfl | rfl <;> exact hb
    have hset := heap_set (o' := .mapIter (some b) since (seen.push e.born) clock) hr1
    have hb' := (hset.2 b (fun e1 => hne e1.symm)).trans hb1
    have hnew : e.born ∉ done.map (·.born) := fun hx => by rw [(hcont _).2 hx] at hes; cases hes
    have hwalk : Walk (Go.ChangeMaps.setBlock w1 r (.mapIter (some b) since (seen.push e.born) clock)) b r es clock (done ++ [e]) := by
      refine ⟨hne, hb', ⟨since, seen.push e.born, clock, hset.1, hold, hsk, hsk, by simp [hseen]⟩, fun x hx => ?_, ?_⟩
      · rcases List.mem_append.1 hx with hx | hx
        · exact hsub x hx
        · simp at hx; subst hx; exact hem
      · rw [List.map_append]
        refine List.nodup_append.2 ⟨hnd, by simp, fun x hx y hy => ?_⟩
        simp at hy; subst hy
        exact fun e => hnew (e ▸ hx)
    simp [execOp, hop, hit, hrun, Result.andThen]
    refine hK' _ _ (hMore e _ hem (fun hx => hnew (List.mem_map.2 ⟨e, hx, rfl⟩)) hwalk ?_ ?_ ?_ (run_entry_at _ r b since seen es clock e hset.1 hb' hem hborn))
    · rw [hwalk.left_eq hset.1, hW.left_eq hr]; exact left_shrinks es seen e he
    · rcases hal with rfl | rfl <;> exact ⟨rfl, rfl, rfl, by simp [Go.ChangeMaps.setBlock], fun i _ hi => hset.2 i (fun e1 => hi (by rw [e1]))⟩
    · rcases hal with rfl | rfl <;> simp [Go.ChangeMaps.setBlock]
end
theorem len_le {α : Type} [DecidableEq α] : ∀ {l l' : List α}, l.Nodup → (∀ x ∈ l, x ∈ l') → l.length ≤ l'.length
  | [], _, _, _ => Nat.zero_le _
  | a :: r, l', h, hs => by
    rw [List.nodup_cons] at h
    have ha := hs a (by simp)
    have := len_le (l := r) (l' := l'.erase a) h.2 (fun x hx => (List.mem_erase_of_ne (fun (e : x = a) => h.1 (e ▸ hx))).2 (hs x (by simp [hx])))
    rw [List.length_erase_of_mem ha] at this
    have : 0 < l'.length := List.length_pos_of_mem ha
    simp; omega
theorem nodup_of_map {α β : Type} (f : α → β) : ∀ {l : List α}, (l.map f).Nodup → l.Nodup
  | [], _ => List.nodup_nil
  | a :: r, h => by
    rw [List.map_cons, List.nodup_cons] at h
    exact List.nodup_cons.2 ⟨fun hx => h.1 (List.mem_map.2 ⟨a, hx, rfl⟩), nodup_of_map f h.2⟩
theorem came_perm {es : List MapEntry} {pc : List (Pt × Coin)} {done : List MapEntry} {ss : List Pt} (hb : (es.map (·.born)).Nodup) (hk : (es.map (·.key)).Nodup) (hpc : es.map (fun e => (e.key, e.val)) = pc.map fun x => (x.1.v, x.2.v))
    (hsub : ∀ e ∈ done, e ∈ es) (hnd : (done.map (·.born)).Nodup) (hds : done.map (·.key) = ss.map Pt.v) (hall : ∀ e ∈ es, e ∈ done) : ss.Perm (pc.map (·.1)) := by
  have h1 : done.Perm es := (List.perm_ext_iff_of_nodup (nodup_of_map _ hnd) (nodup_of_map _ hb)).2 fun e => ⟨hsub e, hall e⟩
  have h2 : es.map (·.key) = (pc.map (·.1)).map Pt.v := by
    have := congrArg (List.map Prod.fst) hpc
    simpa [List.map_map, Function.comp_def] using this
  have h3 : (ss.map Pt.v).Perm ((pc.map (·.1)).map Pt.v) := by rw [← hds, ← h2]; exact h1.map _
  have h4 : (ss.map Pt.v).Nodup := by rw [← hds]; exact (h1.map _).nodup_iff.2 hk
  have h5 : ((pc.map (·.1)).map Pt.v).Nodup := by rw [← h2]; exact hk
  refine (List.perm_ext_iff_of_nodup (nodup_of_map _ h4) (nodup_of_map _ h5)).2 fun p => ?_
  have h6 : ∀ l : List Pt, p ∈ l ↔ p.v ∈ l.map Pt.v := fun l => ⟨fun h => List.mem_map.2 ⟨p, h, rfl⟩, fun h => by obtain ⟨q, hq, e⟩ := List.mem_map.1 h; exact Pt.inj _ _ e ▸ hq⟩
  rw [h6, h6, h3.mem_iff]
set_option maxRecDepth 100000 in
set_option maxHeartbeats 2000000 in
theorem ptKeys1_in (F : Fence) (n : Nat) (h39 : F.fn 116) (hro : F.round = none) (hn : 1 ≤ n) (l Bm b : Nat) (es : Array MapEntry) (clock : Nat) (hst : Stamped es clock) (pc : List (Pt × Coin))
    (hpc : es.toList.map (fun e => (e.key, e.val)) = pc.map fun x => (x.1.v, x.2.v)) (J : List Pt → World → Prop)
    (hY : ∀ pre x W, J pre W → pre.length < pc.length → YieldAt F (n - 1) Tryz.prog l #[x.v] W fun e W' => e = .returned (.bool true) ∧ J (pre ++ [x]) W' ∧ KeepsWalks W W')
    (W : World) (hJ : AbidesFrom W.heap.size J) (hm : W.cell? ⟨Bm, 0, none⟩ = some (.map (some b))) (hb : W.heap[b]? = some (.map es clock)) (h0 : J [] W) :
    CallsIn F n Tryz.prog 116 #[.func (.yield l) #[] #[], .pointer (some ⟨Bm, 0, none⟩)] W fun e W' => (∃ v, e = .returned v) ∧ ∃ ss : List Pt, ss.Perm (pc.map (·.1)) ∧ J ss W' := by
  have hkeys : ∀ e ∈ es.toList, ∃ x ∈ pc, e.key = x.1.v ∧ e.val = x.2.v := fun e he => by
    have : (e.key, e.val) ∈ es.toList.map (fun e => (e.key, e.val)) := List.mem_map.2 ⟨e, he, rfl⟩
    rw [hpc] at this
    obtain ⟨x, hx, e1⟩ := List.mem_map.1 this
    simp only [Prod.mk.injEq] at e1
    exact ⟨x, hx, e1.1.symm, e1.2.symm⟩
  have hlen : es.toList.length = pc.length := by have := congrArg List.length hpc; simpa using this
  have hst' := (stamped_iff es clock).1 hst
  refine callsIn_of_wp Tryz.func116 rfl h39 ?_ hro
  simp only [Tryz.ntmps116, List.size_toArray, List.length_cons, List.length_nil, Nat.reduceAdd, Nat.reduceSub, Array.replicate_succ, Array.replicate_zero, List.push_toArray, List.append_toArray, List.nil_append, List.cons_append]
  gi_wp2_with (first
    | (gi_at_range; refine wpListIn_range_raw _ rfl _ 102 rfl 60 69 coin_map b es clock rfl hb hst ?_; intro w0 hrg0 hg0 hs0)
    | gi_in)
  go_frame
  gi_loopw [3] (fun _ wr => ∃ (done : List MapEntry) (ss : List Pt), Walk wr b W.heap.size es clock done ∧ done.map (·.key) = ss.map Pt.v ∧ J ss wr)
    (fun _ wr => wr.rangeLeft b W.heap.size)
  case atStart =>
    exact ⟨[], [], hrg0, rfl, hJ [] W w0 none h0 hg0 (fun r e => by cases e)⟩
  case round =>
    obtain ⟨done, ss, hrg, hds, hJs⟩ := hrel
    gi_wp2_with (first
      | (gi_at_next; refine wpListIn_next_raw _ rfl _ rfl b W.heap.size es clock done hst rfl hrg ?_ ?_)
      | gi_in)
    · intro hall
      gi_wp2
      go_end0
      have hkn : (es.toList.map (·.key)).Nodup := List.pairwise_map.2 hst'.2.2
      exact ⟨⟨_, rfl⟩, ss, came_perm hst'.2.1 hkn hpc hrg.sub hrg.nodup hds (by simpa using hall), hJs⟩
    · intro e w2 hem hnew hrg2 hlt hg2 hs2 hen
      have hem' : e ∈ es.toList := by simpa using hem
      obtain ⟨⟨p, c⟩, hx, ek, ev⟩ := hkeys e hem'
      have hll : (done ++ [e]).length ≤ es.toList.length := by
        have := len_le (l := (done ++ [e]).map (·.born)) (l' := es.toList.map (·.born)) hrg2.nodup (fun x hx => by obtain ⟨y, hy, rfl⟩ := List.mem_map.1 hx; exact List.mem_map.2 ⟨y, hrg2.sub y hy, rfl⟩)
        simpa using this
      have hsl : ss.length < pc.length := by
        have := congrArg List.length hds
        simp at this hll
        simp at hlen
        omega
      have hds2 : (done ++ [e]).map (·.key) = (ss ++ [p]).map Pt.v := by simp [hds, ek]
      have hJ2 : J ss w2 := hJ ss wr w2 (some W.heap.size) hJs hg2 (fun r e => by cases e; exact ⟨Nat.le_refl _, hrg.iter⟩)
      have hJ3 : J ss (w2.alloc (.cells p.cells.toArray 60)) := hJ ss w2 _ none hJ2 (World.grownBy_alloc w2 _ none) (fun r e => by cases e)
      have hk3 : KeepsWalks w2 (w2.alloc (.cells p.cells.toArray 60)) := KeepsWalks.alloc _ _
      have hrg3 := hrg2.of_walks hk3
      obtain ⟨fn, tmps, assign, body, hy, hR⟩ := hY ss p _ hJ3 hsl
      simp only [ek, ev] at hen ⊢
      have hlt3 : (w2.alloc (.cells p.cells.toArray 60)).rangeLeft b W.heap.size < wr.rangeLeft b W.heap.size := by rw [hrg2.left_walks hk3]; exact hlt
      clear hs2 hk3 hJ3 hkeys hx hlt hrg2
      generalize hq : ss ++ [p] = ssp at *
      generalize c.v = cv at *
      obtain ⟨⟨x0, x1, x2, x3, x4, x5, x6, x7⟩, xn⟩ := p
      dsimp only [Pt.v, Pt.cells, YtmoohekgheoliaaGreatDoor.u8, i64] at *
      gi_wp2
      refine hR.mono ?_
      rintro e W3 ⟨rfl, hJ3, hk3⟩
      gi_wp2
      have hlt4 := hrg3.left_walks hk3
      have hrg4 := hrg3.of_walks hk3
      go_roundw
      case rel => exact ⟨_, ssp, hrg4, hds2, hJ3⟩
      case measure => rw [hlt4]; exact hlt3
theorem ptKeys_in (F : Fence) (n : Nat) (h31 : F.fn 87) (hro : F.round = none) (mb : Option Nat) (w : World) :
    CallsIn F n Tryz.prog 87 #[.map mb] w fun e w' => e = .returned (.func (.func 116) #[] #[.pointer (some ⟨w.heap.size, 0, none⟩)]) ∧ w' = w.alloc (.cells #[.map mb] 102) := by
  refine callsIn_of_wp Tryz.func87 rfl h31 ?_ hro
  simp only [Tryz.ntmps87, List.size_toArray, List.length_cons, List.length_nil, Nat.reduceAdd, Nat.reduceSub, Array.replicate_succ, Array.replicate_zero, List.push_toArray, List.append_toArray, List.nil_append, List.cons_append]
  gi_wp2
  go_ret
  exact ⟨rfl, rfl⟩
theorem ptKeys_gives (F : Fence) (n : Nat) (h39 : F.fn 116) (hro : F.round = none) (hn : 1 ≤ n) (Bm b : Nat) (es : Array MapEntry) (clock : Nat) (hst : Stamped es clock) (pc : List (Pt × Coin))
    (hpc : es.toList.map (fun e => (e.key, e.val)) = pc.map fun x => (x.1.v, x.2.v)) (w : World) (hBm : Bm < w.heap.size) (hm : w.cell? ⟨Bm, 0, none⟩ = some (.map (some b))) (hb : w.heap[b]? = some (.map es clock)) :
    SeqGives F n Tryz.prog 116 #[.pointer (some ⟨Bm, 0, none⟩)] Pt.v (fun ss => ss.Perm (pc.map (·.1))) pc.length w := fun l J W hW hJ hY h0 =>
  ptKeys1_in F n h39 hro hn l Bm b es clock hst pc hpc J hY W hJ ((hW.cell (p := ⟨Bm, 0, none⟩) hBm).trans hm) ((hW.block b (Array.getElem?_eq_some_iff.1 hb).1).trans hb) h0
end Go.Proofs.YtmoohekgheoliaaGreatDoor
namespace Go.Proofs.YtmoohekgheoliaaGreatDoor
set_option maxRecDepth 100000
open Go.RowKit Go.Lib Go.Sort Go.MapKept
def loopOf : Code → Option (Code × Code)
  | .rangeFunc _ _ a b => some (a, b)
  | .block _ c => loopOf c
  | .seq a b => match loopOf a with | some x => some x | none => loopOf b
  | _ => none
def apRec (A B : Code) (fn : FuncId) (sv : Value) (Bs D : Nat) (st : LoopState) (pend : Option Code) : Loop :=
  { state := st, pending := pend, fn, tmps := #[.slice none 0 0, sv, .pointer (some ⟨Bs, 0, none⟩), undef, .slice none 0 0, undef, sv, undef, undef, undef, undef, undef, undef], params := #[7], assign := A, body := B, defers := D }
def flatPt (ss : List Pt) : List Value := ss.flatMap Pt.cells
theorem flatPt_len (ss : List Pt) : (flatPt ss).length = ss.length * 9 := by
  induction ss with
  | nil => rfl
  | cons x r ih => simp only [flatPt, List.flatMap_cons, List.length_append, List.length_cons] at ih ⊢; rw [ih]; simp [Pt.cells]; omega
structure ApAt (A B : Code) (w0 : World) (fn : FuncId) (sv : Value) (Bs l D : Nat) (ss : List Pt) (W : World) : Prop where
  box : ∃ v, W.heap[Bs]? = some (.cells #[v] 72 (0, 0)) ∧ W.ownsRow w0.heap.size 60 9 v ss.length (flatPt ss) ∧ (v = .slice none 0 0 ↔ ss = [])
  L : W.heap[l]? = some (.loop (apRec A B fn sv Bs D .ready none))
  K : W.heap[D]? = some (.deferred (some []))
  below : Below w0.heap.size w0 W
theorem ap_abides (A B : Code) (w0 : World) (fn : FuncId) (sv : Value) (Bs l D b : Nat) (hB : w0.heap.size ≤ b) : AbidesFrom b (ApAt A B w0 fn sv Bs l D) := fun s W W' row h hg hrow => by
  have hrow' : ∀ r, row = some r → ∃ o : Obj, W.heap[r]? = some o ∧ o.isWalk = true := fun r e => (hrow r e).2
  obtain ⟨v, hv, hr, hn⟩ := h.box
  exact ⟨⟨v, (grownBy_keeps hg hrow' hv rfl).trans hv, ownsRow_abides_a hr hg hrow', hn⟩, (grownBy_keeps hg hrow' h.L rfl).trans h.L, (grownBy_keeps hg hrow' h.K rfl).trans h.K,
    h.below.grown hg h.below.size (fun k e => Nat.le_trans hB (hrow k e).1)⟩
theorem ap_ne : ((72 : TypeId) ≠ 60) := by decide
theorem ap_under : Tryz.prog.underlying 72 = some (.slice 60) := Tryz.underlying72
theorem ap_info : (Tryz.prog.info? 60).map (fun i => (i.zero, i.size, i.bytes)) = some (some (Pt.v default), 9, 16) := by kernel_rfl
theorem cells_new (W : World) (cs : List Value) (t : TypeId) (j : Nat) (u : Value) (h : cs[j]? = some u) : (W.alloc (.cells cs.toArray t)).cell? ((⟨W.heap.size, 0, none⟩ : Addr).add j) = some u := by
  rw [addr_add]
  simp only [World.cell?, alloc_new]
  simpa using h
set_option maxRecDepth 100000 in
set_option maxHeartbeats 4000000 in
theorem apYield {A B : Code} (hAB : Tryz.f138.body.bind loopOf = some (A, B)) (F : Fence) (m : Nat) (w0 : World) (fn : FuncId) (hfn : F.fn fn) (sv : Value) (Bs l D : Nat) (hBl : Bs ≠ l) (hDl : D ≠ l) (hDB : D ≠ Bs) (h0B : w0.heap.size ≤ Bs) (h0l : w0.heap.size ≤ l)
    (N : Nat) (hN : N ≤ maxLen) (hNb : N * 16 ≤ 140737488355328) (ss : List Pt) (x : Pt) (W : World) (h : ApAt A B w0 fn sv Bs l D ss W) (hlen : ss.length < N) :
    YieldAt F m Tryz.prog l #[x.v] W fun e W' => e = .returned (.bool true) ∧ ApAt A B w0 fn sv Bs l D (ss ++ [x]) W' ∧ KeepsWalks W W' := by
  obtain ⟨i0, hi, hz0, hz1, hz2⟩ := info_parts ap_info
  obtain ⟨v, hv, hrow, _⟩ := h.box
  refine ⟨fn, #[.slice none 0 0, sv, .pointer (some ⟨Bs, 0, none⟩), undef, .slice none 0 0, undef, sv, x.v, undef, undef, undef, undef, undef], A, B, by simpa [apRec] using run_yield (P := Tryz.prog) (args := #[x.v]) h.L rfl, roundIn_of_wpIn hfn ?_⟩
  have hl : l < W.heap.size := (Array.getElem?_eq_some_iff.1 h.L).1
  -- the variable's own block
  obtain ⟨W1, hW1⟩ : ∃ W1, W.alloc (.cells x.cells.toArray 60) = W1 := ⟨_, rfl⟩
  have hg1 : W.grownBy W1 none := by rw [← hW1]; exact World.grownBy_alloc W _ none
  have hk1 : KeepsWalks W W1 := by rw [← hW1]; exact KeepsWalks.alloc _ _
  have hx1 : W1.heap[W.heap.size]? = some (.cells x.cells.toArray 60 (0, 0)) := by rw [← hW1]; exact alloc_new _ _
  have hold1 : ∀ (k : Nat) (o : Obj), W.heap[k]? = some o → W1.heap[k]? = some o := fun k o hk => (hg1.block k (Array.getElem?_eq_some_iff.1 hk).1 (by simp)).trans hk
  have hrow1 : W1.ownsRow w0.heap.size 60 9 v ss.length (flatPt ss) := by rw [← hW1]; exact hrow.alloc _
  have hL1 := hold1 _ _ h.L
  have hbr := run_beginRound (P := Tryz.prog) hL1 rfl
  obtain ⟨W2, hW2⟩ : ∃ W2, W1.putObj l (.loop { apRec A B fn sv Bs D .ready none with state := .busy }) = W2 := ⟨_, rfl⟩
  rw [hW2] at hbr
  have hg2 : W1.grownBy W2 (some l) := by rw [← hW2]; exact grownBy_putObj_a _ _ _
  have hk2 : KeepsWalks W W2 := hk1.trans (by rw [← hW2]; exact KeepsWalks.putObj _ hL1 rfl)
  have hv2 : W2.heap[Bs]? = some (.cells #[v] 72 (0, 0)) := by rw [← hW2]; exact (World.putObj_heap_other hBl).trans (hold1 _ _ hv)
  have hK2 : W2.heap[D]? = some (.deferred (some [])) := by rw [← hW2]; exact (World.putObj_heap_other hDl).trans (hold1 _ _ h.K)
  have hl1 : l < W1.heap.size := (Array.getElem?_eq_some_iff.1 hL1).1
  have hx2 : W2.heap[W.heap.size]? = some (.cells x.cells.toArray 60 (0, 0)) := by rw [← hW2]; exact (World.putObj_heap_other (by omega)).trans hx1
  have hL2 : W2.heap[l]? = some (.loop { apRec A B fn sv Bs D .ready none with state := .busy }) := by rw [← hW2]; exact World.putObj_heap_same hl1
  have hrow2 : W2.ownsRow w0.heap.size 60 9 v ss.length (flatPt ss) := hrow1.kept hg2 (ownsRow_ne_a hrow1 hL1 (fun cur e => by first | cases e | exact ap_ne (Obj.cells.inj e).2.1))
  have hb1 : Below w0.heap.size w0 W1 := by rw [← hW1]; exact h.below.alloc h.below.size _
  have hb2 : Below w0.heap.size w0 W2 := hb1.grown hg2 hb1.size (fun k e => by cases e; exact h0l)
  obtain ⟨hc2, hf2⟩ := cell_of_box_a hv2
  have hBlt : Bs < W2.heap.size := (Array.getElem?_eq_some_iff.1 hv2).1
  have hl2 : l < W2.heap.size := (Array.getElem?_eq_some_iff.1 hL2).1
  have hDlt : D < W2.heap.size := (Array.getElem?_eq_some_iff.1 hK2).1
  have ne_of : ∀ {j : Nat} {o : Obj}, W2.heap[j]? = some o → (∀ cur, o ≠ .cells cur 60 (0, 0)) → some j ≠ v.ownBlock := fun hj hno => by
    rcases ownsRow_ne_a hrow2 hj hno with e | e
    · rw [e]; simp
    · exact fun e' => e e'.symm
  have hxc : ∀ j u, x.cells[j]? = some u → W2.cell? ⟨W.heap.size, j, none⟩ = some u := fun j u hj => by simp only [World.cell?, hx2]; simpa using hj
  have hx0 := hxc 0 _ rfl
  have hxa := hxc 1 _ rfl
  have hxb := hxc 2 _ rfl
  have hxd := hxc 3 _ rfl
  have hxe := hxc 4 _ rfl
  have hxf := hxc 5 _ rfl
  have hxg := hxc 6 _ rfl
  have hxh := hxc 7 _ rfl
  have hxi := hxc 8 _ rfl
  have hnew := cells_new W2 x.cells 60
  have hone : ∀ u ∈ x.cells, u.oneCell' = true := fun u hu => by simp [Pt.cells] at hu; rcases hu with rfl | rfl | rfl | rfl | rfl | rfl | rfl | rfl | rfl <;> rfl
  have hflat : flatPt (ss ++ [x]) = flatPt ss ++ x.cells := by simp [flatPt]
  have hss : (ss ++ [x]).length = ss.length + 1 := by simp
  have hnil : ss ++ [x] ≠ [] := by simp
  rw [← hW1] at hbr
  have hendR : ∀ W', W'.heap[l]? = some (.loop { apRec A B fn sv Bs D .ready none with state := .busy }) → (Instr.endRound l none).run Tryz.prog W' = .ok (.bool true) (W'.putObj l (.loop (apRec A B fn sv Bs D .ready none))) := fun W' h' => run_endRound none h'
  have hmk : ∀ W' v', W'.heap[Bs]? = some (.cells #[v'] 72 (0, 0)) → W'.ownsRow w0.heap.size 60 9 v' (ss.length + 1) (flatPt ss ++ x.cells) → v' ≠ .slice none 0 0 → W'.heap[l]? = some (.loop (apRec A B fn sv Bs D .ready none)) → W'.heap[D]? = some (.deferred (some [])) → Below w0.heap.size w0 W' → ApAt A B w0 fn sv Bs l D (ss ++ [x]) W' :=
    fun W' v' q1 q2 q3 q4 q5 q6 => ⟨⟨v', q1, by rw [hss, hflat]; exact q2, ⟨fun e => absurd e q3, fun e => absurd e hnil⟩⟩, q4, q5, q6⟩
  have hoB : ∀ cur t, (Obj.loop { apRec A B fn sv Bs D .ready none with state := .busy }) ≠ .cells cur t (0, 0) := fun _ _ e => by cases e
  have hwB : (Obj.loop { apRec A B fn sv Bs D .ready none with state := .busy }).isWalk = false := rfl
  clear hW2 hW1 hxc hx1 hx2 hL1 hold1 hflat hss
  generalize (Obj.loop { apRec A B fn sv Bs D .ready none with state := .busy }) = oB at *
  generalize (Obj.loop (apRec A B fn sv Bs D .ready none)) = oR at *
  generalize ApAt A B w0 fn sv Bs l D (ss ++ [x]) = PA at *
  clear h
  obtain ⟨⟨x0, x1, x2, x3, x4, x5, x6, x7⟩, xn⟩ := x
  dsimp only [Pt.v, Pt.cells, YtmoohekgheoliaaGreatDoor.u8, i64] at *
  simp only [Tryz.f138, Option.bind_some, loopOf, Option.some.injEq, Prod.mk.injEq] at hAB
  obtain ⟨rfl, rfl⟩ := hAB
  gi_wp2_with gi_round_op_a
  refine ⟨W2, hbr, ?_⟩
  gi_wp2_with (first
    | (gi_at_builtin; refine wpListIn_append_own _ rfl _ _ 72 rfl w0.heap.size 60 i0 _ 9 16 ap_under hi hz0 hz1 hz2 rfl (by decide) _ _ _ rfl (hrow2.alloc _) ⟨W2.heap.size, 0, none⟩ 1 1 [.int .u8 x0.toNat, .int .u8 x1.toNat, .int .u8 x2.toNat, .int .u8 x3.toNat, .int .u8 x4.toNat, .int .u8 x5.toNat, .int .u8 x6.toNat, .int .u8 x7.toNat, .int .i64 xn.toInt] rfl rfl hnew hone (by omega) (by omega) (by have := hb2.size; simp; omega) ?_; intro v' w3 hown' hg3 hnil3
       have hv3 : w3.heap[Bs]? = some (.cells #[v] 72 (0, 0)) := (hg3.block Bs (by simp; omega) (ne_of hv2 (fun cur e => by first | cases e | exact ap_ne (Obj.cells.inj e).2.1))).trans ((Below.heap_alloc _ _ Bs hBlt).trans hv2)
       obtain ⟨hc3, hf3⟩ := cell_of_box_a hv3
       obtain ⟨g', cap', cur', rfl, hbase', hgb', hr1, hr2, hr3, hr4⟩ : ∃ g' cap' cur', v' = .slice (some ⟨g', 0, none⟩) (ss.length + 1) cap' ∧ w0.heap.size ≤ g' ∧ w3.heap[g']? = some (.cells cur' 60 (0, 0)) ∧ ss.length + 1 ≤ cap' ∧ cap' ≤ maxLen ∧ cur'.size = cap' * 9 ∧ cur'.toList.take ((ss.length + 1) * 9) = flatPt ss ++ [.int .u8 x0.toNat, .int .u8 x1.toNat, .int .u8 x2.toNat, .int .u8 x3.toNat, .int .u8 x4.toNat, .int .u8 x5.toNat, .int .u8 x6.toNat, .int .u8 x7.toNat, .int .i64 xn.toInt] := by
         rcases hown'.2 with ⟨_, h0⟩ | h'
         · exact absurd h0 (by omega)
         · exact h'
       go_frame)
    | gi_round_op_a)
  have hg3' : W2.grownBy w3 v.ownBlock := (World.grownBy_alloc W2 _ _).trans hg3
  have hL3 : w3.heap[l]? = some oB := (hg3'.block l hl2 (ne_of hL2 (fun cur => hoB cur _))).trans hL2
  have hK3 : w3.heap[D]? = some (.deferred (some [])) := (hg3'.block D hDlt (ne_of hK2 (fun cur e => by cases e))).trans hK2
  have hk3 : KeepsWalks W2 w3 := KeepsWalks.of_grownBy hg3' (ownsRow_not_walk_a hrow2)
  have hb3 : Below w0.heap.size w0 w3 := hb2.grown hg3' hb2.size (fun k e => (hrow2.lt k e).1)
  obtain ⟨w4, hw4⟩ : ∃ w4, w3.setCell ⟨Bs, 0, none⟩ (.slice (some ⟨g', 0, none⟩) (ss.length + 1) cap') = w4 := ⟨_, rfl⟩
  rw [hw4]
  have hg4 : w3.grownBy w4 (some Bs) := by rw [← hw4]; exact grownBy_setCell0_a _ _ _
  have hv4 : w4.heap[Bs]? = some (.cells #[.slice (some ⟨g', 0, none⟩) (ss.length + 1) cap'] 72 (0, 0)) := by rw [← hw4]; exact heap_setCell_box_a _ hv3
  have hL4 : w4.heap[l]? = some oB := (hg4.block l (Array.getElem?_eq_some_iff.1 hL3).1 (fun e => hBl (by cases e; rfl))).trans hL3
  have hK4 : w4.heap[D]? = some (.deferred (some [])) := (hg4.block D (Array.getElem?_eq_some_iff.1 hK3).1 (fun e => hDB (by cases e; rfl))).trans hK3
  have hrow4 := hown'.kept hg4 (ownsRow_ne_a hown' hv3 (fun cur e => by first | cases e | exact ap_ne (Obj.cells.inj e).2.1))
  have hl4 : l < w4.heap.size := (Array.getElem?_eq_some_iff.1 hL4).1
  have hb4 : Below w0.heap.size w0 w4 := hb3.grown hg4 hb3.size (fun k e => by cases e; exact h0B)
  have hk4 : KeepsWalks W w4 := (hk2.trans hk3).trans (by rw [← hw4]; exact KeepsWalks.setCell _ _ _)
  clear hw4
  refine ⟨_, _, hendR _ hL4, rfl, hmk _ _ ((World.putObj_heap_other hBl).trans hv4) ?_ (by simp) (World.putObj_heap_same hl4) ((World.putObj_heap_other hDl).trans hK4) (hb4.grown (grownBy_putObj_a _ _ _) hb4.size (fun k e => by cases e; exact h0l)), hk4.trans (KeepsWalks.putObj _ hL4 hwB)⟩
  exact hrow4.kept (grownBy_putObj_a w4 l oR) (ownsRow_ne_a hrow4 hL4 (fun cur => hoB cur _))
set_option maxRecDepth 100000 in
set_option maxHeartbeats 4000000 in
theorem appendSeq_in (F : Fence) (n : Nat) (h44 : F.fn 138) (hro : F.round = none) (hn : 2 ≤ n) (g : Nat) (lb : Array Value) (hFg : F.fn g) (eg : ∀ args w, (callFunc g args).run Tryz.prog w = .ok (.enter g args) w)
    (S : List Pt → Prop) (N : Nat) (hN : N ≤ maxLen) (hNb : N * 16 ≤ 140737488355328) (w : World) (hseq : SeqGives F (n - 1) Tryz.prog g lb Pt.v S N w) :
    CallsIn F n Tryz.prog 138 #[.slice none 0 0, .func (.func g) #[] lb] w fun e w' => ∃ (v : Value) (ss : List Pt), e = .returned v ∧ S ss ∧ w'.ownsRow w.heap.size 60 9 v ss.length (flatPt ss) ∧ (v = .slice none 0 0 ↔ ss = []) ∧ Below w.heap.size w w' := by
  have h1 : 1 ≤ n := by omega
  obtain ⟨A, B, hAB⟩ : ∃ A B, Tryz.f138.body.bind loopOf = some (A, B) := ⟨_, _, rfl⟩
  have hAB' := hAB
  simp only [Tryz.f138, Option.bind_some, loopOf, Option.some.injEq, Prod.mk.injEq] at hAB'
  obtain ⟨hA, hB⟩ := hAB'
  refine callsIn_of_wp_marks Tryz.func138 rfl h44 ?_ hro
  simp only [Tryz.ntmps138, List.size_toArray, List.length_cons, List.length_nil, Nat.reduceAdd, Nat.reduceSub, Array.replicate_succ, Array.replicate_zero, List.push_toArray, List.append_toArray, List.nil_append, List.cons_append]
  gi_wp2
  refine wpIn_rangeFunc ?_
  intro fn hfn
  rw [hro, hA, hB]
  clear hA hB
  obtain ⟨W0, hW0⟩ : ∃ W0, w.alloc (.cells #[.slice none 0 0] 72) = W0 := ⟨_, rfl⟩
  have hs0 : W0.heap.size = w.heap.size + 1 := by rw [← hW0]; simp
  have hv0 : W0.heap[w.heap.size]? = some (.cells #[.slice none 0 0] 72 (0, 0)) := by rw [← hW0]; exact alloc_new w _
  have hb0 : Below w.heap.size w W0 := by rw [← hW0]; exact (Below.refl _ w).alloc (Nat.le_refl _) _
  rw [hW0]
  obtain ⟨W1, hW1⟩ : ∃ W1, (W0.alloc (.deferred (some []))).alloc (.loop (apRec A B fn (.func (.func g) #[] lb) w.heap.size W0.heap.size .ready none)) = W1 := ⟨_, rfl⟩
  have hold : ∀ k, k < W0.heap.size → W1.heap[k]? = W0.heap[k]? := fun k hk => by
    rw [← hW1]; exact (Below.heap_alloc _ _ k (by simp; omega)).trans (Below.heap_alloc _ _ k hk)
  have hb1 : Below w.heap.size w W1 := by rw [← hW1]; exact (hb0.alloc hb0.size _).alloc (by have := hb0.size; simp; omega) _
  have hs1 : W1.heap.size = W0.heap.size + 2 := by rw [← hW1]; simp
  have hM : ApAt A B w fn (.func (.func g) #[] lb) w.heap.size (W0.heap.size + 1) W0.heap.size [] W1 :=
    ⟨⟨_, (hold w.heap.size (by omega)).trans hv0, ⟨rfl, .inl ⟨rfl, rfl⟩⟩, by simp⟩,
     by rw [← hW1]; have := alloc_new (W0.alloc (.deferred (some []))) (.loop (apRec A B fn (.func (.func g) #[] lb) w.heap.size W0.heap.size .ready none)); rwa [World.size_alloc] at this,
     by rw [← hW1]; exact (Below.heap_alloc _ _ _ (by simp)).trans (alloc_new W0 _), hb1⟩
  refine ⟨W0.heap.size + 1, [{ target := .collected W0.heap.size, args := #[] }], W1, { target := .fn (.func g) lb, args := #[.func (.yield (W0.heap.size + 1)) #[] #[]] }, W1, g,
    #[.func (.yield (W0.heap.size + 1)) #[] #[]] ++ lb, W1, ?_, ?_, ?_, ?_, fun _ => h1, ?_⟩
  · rw [← hW1]; exact run_enterLoop_outer _ _ _ _ _
  · simp [resolve, go_sem]
  · intro f' hf'; simp [Target.leads] at hf'; subst hf'; exact hFg
  · simp [invoke, go_sem, eg]
  · refine (hseq (W0.heap.size + 1) (ApAt A B w fn (.func (.func g) #[] lb) w.heap.size (W0.heap.size + 1) W0.heap.size) W1 hb1 (ap_abides A B _ _ _ _ _ _ _ hb1.size)
      (fun pre x W hJ hl => apYield hAB F (n - 1 - 1) w fn hfn _ w.heap.size (W0.heap.size + 1) W0.heap.size (by omega) (by omega) (by omega) (Nat.le_refl _) (by omega) N hN hNb pre x W hJ hl) hM).mono ?_
    rintro e W2 ⟨⟨v0, rfl⟩, ss, hS, h2⟩
    obtain ⟨v, hv, hrow, hnil⟩ := h2.box
    have hend := run_endLoop (P := Tryz.prog) h2.L (by simp [apRec])
    obtain ⟨W3, hW3⟩ : ∃ W3, W2.putObj (W0.heap.size + 1) (.loop { apRec A B fn (.func (.func g) #[] lb) w.heap.size W0.heap.size .ready none with state := .exhausted }) = W3 := ⟨_, rfl⟩
    rw [hW3] at hend
    have hg3 : W2.grownBy W3 (some (W0.heap.size + 1)) := by rw [← hW3]; exact grownBy_putObj_a _ _ _
    have hv3 : W3.heap[w.heap.size]? = some (.cells #[v] 72 (0, 0)) := by rw [← hW3]; exact (World.putObj_heap_other (by omega)).trans hv
    have hK3 : W3.heap[W0.heap.size]? = some (.deferred (some [])) := by rw [← hW3]; exact (World.putObj_heap_other (by omega)).trans h2.K
    have hrow3 := hrow.kept hg3 (ownsRow_ne_a hrow h2.L (fun cur e => by cases e))
    have hb3 : Below w.heap.size w W3 := h2.below.grown hg3 h2.below.size (fun k e => by cases e; omega)
    obtain ⟨hc3, hf3⟩ := cell_of_box_a hv3
    clear hW3
    refine ⟨none, W3, hend, ?_⟩
    gi_wp2
    rw [← hs0]
    refine ⟨by simp, .inl ⟨_, _, rfl, run_takeDeferred hK3, ?_⟩⟩
    exact ⟨_, results_tmp rfl _ _ _, v, ss, rfl, hS, hrow3.kept (grownBy_putObj_a _ _ _) (ownsRow_ne_a hrow3 hK3 (fun cur e => by cases e)), hnil, hb3.grown (grownBy_putObj_a _ _ _) hb3.size (fun k e => by cases e; omega)⟩
set_option maxHeartbeats 1000000 in
theorem collect_in (F : Fence) (n : Nat) (h37 : F.fn 114) (h44 : F.fn 138) (hro : F.round = none) (hn : 3 ≤ n) (g : Nat) (lb : Array Value) (hFg : F.fn g) (eg : ∀ args w, (callFunc g args).run Tryz.prog w = .ok (.enter g args) w)
    (S : List Pt → Prop) (N : Nat) (hN : N ≤ maxLen) (hNb : N * 16 ≤ 140737488355328) (w : World) (hseq : SeqGives F (n - 1 - 1) Tryz.prog g lb Pt.v S N w) :
    CallsIn F n Tryz.prog 114 #[.func (.func g) #[] lb] w fun e w' => ∃ (v : Value) (ss : List Pt), e = .returned v ∧ S ss ∧ w'.ownsRow w.heap.size 60 9 v ss.length (flatPt ss) ∧ (v = .slice none 0 0 ↔ ss = []) ∧ Below w.heap.size w w' := by
  have h1 : 1 ≤ n := by omega
  refine callsIn_of_wp Tryz.func114 rfl h37 ?_ hro
  simp only [Tryz.ntmps114, List.size_toArray, List.length_cons, List.length_nil, Nat.reduceAdd, Nat.reduceSub, Array.replicate_succ, Array.replicate_zero, List.push_toArray, List.append_toArray, List.nil_append, List.cons_append]
  gi_wp2_with (gi_at_call 138; refine (appendSeq_in F (n - 1) h44 hro (by omega) g lb hFg eg S N hN hNb _ hseq).mono ?_; rintro e w' ⟨v, ss, rfl, hS, hrow, hnil, hb⟩)
  go_ret
  exact ⟨v, ss, rfl, hS, hrow, hnil, hb⟩
end Go.Proofs.YtmoohekgheoliaaGreatDoor
namespace Go.Proofs.YtmoohekgheoliaaGreatDoor
set_option maxRecDepth 100000
open Go.Lib Go.Sort
theorem cmpB_num : ∀ {a b : List UInt8}, a.length = b.length → (compareBytes a b < 0 ↔ bigL a < bigL b)
  | [], [], _ => by simp [compareBytes, bigL]
  | x :: a, y :: b, hl => by
    have hl' : a.length = b.length := by simpa using hl
    have h := (num_step x y _ _ _ (hl' ▸ bigL_lt a) (bigL_lt b)).1
    simp only [compareBytes, bigL, hl', h, UInt8.lt_iff_toNat_lt]
    by_cases e : x = y
    · subst e; simp [cmpB_num hl']
    · have hne : x.toNat ≠ y.toNat := fun h => e (UInt8.toNat_inj.1 h)
      rcases Nat.lt_or_gt_of_ne hne with h1 | h1
      · simp [h1]
      · have h2 : ¬ x.toNat < y.toNat := by omega
        simp [h1, h2, e]
theorem compareInt_neg (x y : Int) : compareInt x y < 0 ↔ x < y := by
  unfold compareInt
  by_cases h1 : x < y
  · simp [h1]
  · by_cases h2 : y < x <;> simp [h1, h2]
theorem ordI_neg (p q : Pt) : ordI p q < 0 ↔ ltPt p q = true := by
  rw [ltPt_num]
  unfold ordI
  simp only [cmpB_num (a := p.tx.l) (b := q.tx.l) rfl, cmpB_num (a := q.tx.l) (b := p.tx.l) rfl]
  show (if p.num < q.num then (-1 : Int) else if q.num < p.num then 1 else compareInt p.no.toInt q.no.toInt) < 0 ↔ _
  by_cases h1 : p.num < q.num
  · simp [h1]
  · by_cases h2 : q.num < p.num
    · simp [h1, h2]; omega
    · have h3 : p.num = q.num := by omega
      simp [h3, compareInt_neg]
theorem ltOf_ord : ltOf ordI = ltPt := by
  funext p q
  unfold ltOf
  cases h : ltPt p q
  · simp only [decide_eq_false_iff_not, ordI_neg, h]; simp
  · simp only [decide_eq_true_eq, ordI_neg, h]
end Go.Proofs.YtmoohekgheoliaaGreatDoor
namespace Go.Proofs
open Go.Shelf
def Tryz.sortPt_ren : Go.Shelf.Ren := ⟨fun | 6 => 115 | 15 => 140 | 14 => 139 | 28 => 161 | 29 => 162 | 20 => 153 | 21 => 154 | 22 => 155 | 23 => 156 | 24 => 157 | 25 => 158 | 26 => 159 | 27 => 160 | 46 => 166 | 47 => 167 | 48 => 168 | 49 => 169 | 50 => 170 | 57 => 172 | n => n, fun | 22 => 72 | 24 => 60 | 25 => 157 | 3 => 3 | 39 => 118 | 0 => 0 | 53 => 168 | 55 => 172 | 4 => 4 | 46 => 225 | 45 => 224 | 50 => 112 | 5 => 5 | 9 => 9 | 66 => 236 | 70 => 240 | 76 => 242 | 77 => 81 | n => n, fun | n => n⟩
theorem Tryz.sortPt : Go.Proofs.SlLaysF0.n6 Tryz.prog Tryz.sortPt_ren := {
  mixed := by kernel_rfl
  f6 := ⟨Tryz.f115.name, by decide, Tryz.func115.trans (congrArg some (by kernel_rfl))⟩
  f14 := ⟨Tryz.f139.name, by decide, Tryz.func139.trans (congrArg some (by kernel_rfl))⟩
  f15 := Tryz.func140.trans (congrArg some (by kernel_rfl))
  f20 := ⟨Tryz.f153.name, by decide, Tryz.func153.trans (congrArg some (by kernel_rfl))⟩
  f21 := ⟨Tryz.f154.name, by decide, Tryz.func154.trans (congrArg some (by kernel_rfl))⟩
  f22 := ⟨Tryz.f155.name, by decide, Tryz.func155.trans (congrArg some (by kernel_rfl))⟩
  f23 := ⟨Tryz.f156.name, by decide, Tryz.func156.trans (congrArg some (by kernel_rfl))⟩
  f24 := ⟨Tryz.f157.name, by decide, Tryz.func157.trans (congrArg some (by kernel_rfl))⟩
  f25 := ⟨Tryz.f158.name, by decide, Tryz.func158.trans (congrArg some (by kernel_rfl))⟩
  f26 := ⟨Tryz.f159.name, by decide, Tryz.func159.trans (congrArg some (by kernel_rfl))⟩
  f27 := ⟨Tryz.f160.name, by decide, Tryz.func160.trans (congrArg some (by kernel_rfl))⟩
  f28 := Tryz.func161.trans (congrArg some (by kernel_rfl))
  f29 := Tryz.func162.trans (congrArg some (by kernel_rfl))
  f46 := ⟨Tryz.f166.name, by decide, Tryz.func166.trans (congrArg some (by kernel_rfl))⟩
  f47 := Tryz.func167.trans (congrArg some (by kernel_rfl))
  f48 := Tryz.func168.trans (congrArg some (by kernel_rfl))
  f49 := ⟨Tryz.f169.name, by decide, Tryz.func169.trans (congrArg some (by kernel_rfl))⟩
  f50 := ⟨Tryz.f170.name, by decide, Tryz.func170.trans (congrArg some (by kernel_rfl))⟩
  f57 := ⟨Tryz.f172.name, by decide, Tryz.func172.trans (congrArg some (by kernel_rfl))⟩
  t0 := Tryz.underlying0
  a0 := Tryz.isAgg0
  z0 := Tryz.sizeOf0
  v0 := Tryz.zeroValue0
  t3 := Tryz.underlying3
  a3 := Tryz.isAgg3
  z3 := Tryz.sizeOf3
  v3 := Tryz.zeroValue3
  t4 := Tryz.underlying4
  a4 := Tryz.isAgg4
  z4 := Tryz.sizeOf4
  v4 := Tryz.zeroValue4
  t5 := Tryz.underlying5
  a5 := Tryz.isAgg5
  z5 := Tryz.sizeOf5
  v5 := Tryz.zeroValue5
  t9 := Tryz.underlying9
  a9 := Tryz.isAgg9
  z9 := Tryz.sizeOf9
  v9 := Tryz.zeroValue9
  t22 := Tryz.underlying72
  a22 := Tryz.isAgg72
  z22 := Tryz.sizeOf72
  v22 := Tryz.zeroValue72
  t25 := Tryz.underlying157
  a25 := Tryz.isAgg157
  z25 := Tryz.sizeOf157
  v25 := Tryz.zeroValue157
  t39 := Tryz.underlying118
  a39 := Tryz.isAgg118
  z39 := Tryz.sizeOf118
  v39 := Tryz.zeroValue118
  t45 := Tryz.underlying224
  a45 := Tryz.isAgg224
  z45 := Tryz.sizeOf224
  v45 := Tryz.zeroValue224
  t46 := Tryz.underlying225
  a46 := Tryz.isAgg225
  z46 := Tryz.sizeOf225
  v46 := Tryz.zeroValue225
  t50 := Tryz.underlying112
  a50 := Tryz.isAgg112
  z50 := Tryz.sizeOf112
  v50 := Tryz.zeroValue112
  t53 := Tryz.underlying168
  a53 := Tryz.isAgg168
  z53 := Tryz.sizeOf168
  v53 := Tryz.zeroValue168
  t55 := Tryz.underlying172
  a55 := Tryz.isAgg172
  z55 := Tryz.sizeOf172
  v55 := Tryz.zeroValue172
  t66 := Tryz.underlying236
  a66 := Tryz.isAgg236
  z66 := Tryz.sizeOf236
  v66 := Tryz.zeroValue236
  t70 := Tryz.underlying240
  a70 := Tryz.isAgg240
  z70 := Tryz.sizeOf240
  v70 := Tryz.zeroValue240
  t76 := Tryz.underlying242
  a76 := Tryz.isAgg242
  z76 := Tryz.sizeOf242
  v76 := Tryz.zeroValue242
  t77 := Tryz.underlying81
  a77 := Tryz.isAgg81
  z77 := Tryz.sizeOf81
  v77 := Tryz.zeroValue81 }
def Tryz.cmpInt_ren : Go.Shelf.Ren := ⟨fun | 5 => 118 | 7 => 142 | n => n, fun | 22 => 3 | 3 => 3 | 4 => 4 | n => n, fun | n => n⟩
theorem Tryz.cmpInt : Go.Proofs.SlLaysC2.n5 Tryz.prog Tryz.cmpInt_ren := {
  mixed := by kernel_rfl
  f5 := ⟨Tryz.f118.name, by decide, Tryz.func118.trans (congrArg some (by kernel_rfl))⟩
  f7 := ⟨Tryz.f142.name, by decide, Tryz.func142.trans (congrArg some (by kernel_rfl))⟩
  t3 := Tryz.underlying3
  a3 := Tryz.isAgg3
  z3 := Tryz.sizeOf3
  v3 := Tryz.zeroValue3
  t4 := Tryz.underlying4
  a4 := Tryz.isAgg4
  z4 := Tryz.sizeOf4
  v4 := Tryz.zeroValue4
  t22 := Tryz.underlying3
  a22 := Tryz.isAgg3
  z22 := Tryz.sizeOf3
  v22 := Tryz.zeroValue3 }
end Go.Proofs
namespace Go.Proofs.YtmoohekgheoliaaGreatDoor
set_option maxRecDepth 100000
open Go.RowKit Go.Lib Go.Sort Go.MapKept Go.Shelf
theorem flatPt_get : ∀ (ss : List Pt) (i j : Nat), j < 9 → (flatPt ss)[i * 9 + j]? = (ss[i]?).bind fun x => x.cells[j]?
  | [], i, j, _ => by simp [flatPt]
  | x :: r, 0, j, hj => by
    simp only [flatPt, List.flatMap_cons, Nat.zero_mul, Nat.zero_add, List.getElem?_cons_zero, Option.bind_some]
    rw [List.getElem?_append_left (by simpa [Pt.cells] using hj)]
  | x :: r, i + 1, j, hj => by
    have := flatPt_get r i j hj
    simp only [flatPt] at this ⊢
    simp only [List.flatMap_cons, List.getElem?_cons_succ]
    rw [List.getElem?_append_right (by simp [Pt.cells]; omega), ← this]
    congr 1
    simp [Pt.cells]; omega
theorem pt_len (x : Pt) : x.cells.length = 9 := rfl
theorem flatK_pt (ss : List Pt) : (flatK Pt.cells 9 ss.toArray).toList = flatPt ss := by
  apply List.ext_getElem?
  intro t
  by_cases ht : t < ss.length * 9
  · have h1 : t / 9 < ss.length := by omega
    have h2 : t % 9 < 9 := Nat.mod_lt _ (by omega)
    have h3 : t = t / 9 * 9 + t % 9 := by omega
    have hs : t < (flatK Pt.cells 9 ss.toArray).size := by simpa using ht
    have e := get_flatK Pt.cells 9 ss.toArray t (by simpa using ht)
    rw [getElem!_pos _ t hs] at e
    rw [Array.getElem?_toList, Array.getElem?_eq_getElem hs, e]
    conv => rhs; rw [h3]
    rw [flatPt_get ss _ _ h2]
    have e2 : ss.toArray[t / 9]! = ss[t / 9] := by simp [h1]
    rw [e2, List.getElem?_eq_getElem h1, Option.bind_some]
    rw [getElem!_pos _ _ (by rw [pt_len]; exact h2), List.getElem?_eq_getElem]
  · rw [List.getElem?_eq_none (by simp; omega), List.getElem?_eq_none (by rw [flatPt_len]; omega)]
theorem holdsK_of_block {w : World} {g : Nat} {cur : Array Value} {e : TypeId} {ss : List Pt} (hb : w.heap[g]? = some (.cells cur e (0, 0))) (ht : cur.toList.take (ss.length * 9) = flatPt ss) : HoldsK Pt.cells 9 w g 0 ss.toArray := by
  intro j hj
  have hj' : j < ss.length * 9 := by simpa using hj
  refine ⟨?_, by simp [World.frozen?, hb]⟩
  have h1 : (cur.toList.take (ss.length * 9))[j]? = (flatPt ss)[j]? := by rw [ht]
  rw [List.getElem?_take_of_lt hj'] at h1
  simp only [World.cell?, hb, Nat.zero_add]
  simp only [Option.isSome_none, Bool.false_eq_true, if_false]
  rw [← Array.getElem?_toList, h1, ← flatK_pt, Array.getElem?_toList, Array.getElem?_eq_getElem hj, getElem!_pos _ j hj]
  rfl
theorem heap_sortedK {w : World} {g n : Nat} {os : Array Obj} {cur : Array Value} {e : TypeId} {fr : Nat × Nat} (d : Array Pt) (hb : w.heap[g]? = some (.cells cur e fr)) :
    (sortWorldK Pt.cells 9 w g 0 n d os).heap[g]? = some (.cells (putCells id 0 (flatK Pt.cells 9 d) cur) e fr) := by
  have hg : g < w.heap.size := (Array.getElem?_eq_some_iff.1 hb).1
  unfold sortWorldK putRowK
  rw [heap_grow_old _ _ (by simpa using hg)]
  simp [putRow, mapBlock, Sort.ahead, Array.getElem?_modify, hb, onCells]
theorem grownBy_sortedK {w : World} {g n : Nat} {os : Array Obj} (d : Array Pt) : w.grownBy (sortWorldK Pt.cells 9 w g 0 n d os) (some g) := by
  unfold sortWorldK putRowK
  refine ⟨rfl, rfl, rfl, by simp, fun k hk hne => ?_⟩
  rw [heap_grow_old _ _ (by simpa using hk)]
  have : g ≠ k := fun e => hne (by rw [e])
  simp [putRow, mapBlock, Sort.ahead, Array.getElem?_modify, this]
theorem take_putCellsK (cur : Array Value) (ts : List Pt) (h : ts.length * 9 ≤ cur.size) : (putCells id 0 (flatK Pt.cells 9 ts.toArray) cur).toList.take (ts.length * 9) = flatPt ts := by
  rw [← flatK_pt]
  apply List.ext_getElem?
  intro j
  by_cases hj : j < ts.length * 9
  · have hs : j < (flatK Pt.cells 9 ts.toArray).size := by simpa using hj
    rw [List.getElem?_take_of_lt hj, Array.getElem?_toList, Array.getElem?_toList]
    simp [putCells, hj, show j < cur.size by omega]
  · rw [List.getElem?_take_eq_none (by omega), List.getElem?_eq_none (by simp; omega)]
theorem ownsRow_sortedK {w : World} {base g cap n : Nat} {e : TypeId} {os : Array Obj} {cur : Array Value} {ss ts : List Pt} (hl : ts.length = ss.length) (hbase : base ≤ g) (hb : w.heap[g]? = some (.cells cur e (0, 0)))
    (h1 : ss.length ≤ cap) (h2 : cap ≤ maxLen) (h3 : cur.size = cap * 9) :
    (sortWorldK Pt.cells 9 w g 0 n ts.toArray os).ownsRow base e 9 (.slice (some ⟨g, 0, none⟩) ss.length cap) ss.length (flatPt ts) :=
  ⟨by rw [flatPt_len, hl], .inr ⟨g, cap, _, rfl, hbase, heap_sortedK _ hb, h1, h2, by simp [putCells, h3], by rw [← hl]; exact take_putCellsK cur ts (by omega)⟩⟩
theorem pt_agg : ∀ w, (isAgg 60).run Tryz.prog w = .ok true w := Tryz.isAgg60
theorem pt_size : ∀ w, (Go.sizeOf 60).run Tryz.prog w = .ok 9 w := Tryz.sizeOf60
theorem cmpInt_calls (x y : Int) (w : World) : Calls Tryz.prog 118 #[.int .i64 x, .int .i64 y] w fun e w' => e = .returned (.int .i64 (compareInt x y)) ∧ w' = w := AnyG.cmp_Compare_int Tryz.cmpInt x y w
theorem sortPts_calls (ss : List Pt) (blk cap : Nat) (w : World) (hH : HoldsK Pt.cells 9 w blk 0 ss.toArray) (hblk : blk < w.heap.size) (hsz : ss.length < 4611686018427387904) :
    Calls Tryz.prog 115 #[.slice (some ⟨blk, 0, none⟩) ss.length cap, .func (.func 88) #[] #[]] w fun e w' => e = .returned (.tuple #[]) ∧ ∃ n os, w' = sortWorldK Pt.cells 9 w blk 0 n (sortPts ss).toArray os := by
  have eg : ∀ args w, (callFunc 88 args).run Tryz.prog w = .ok (.enter 88 args) w := enters_of Tryz.func88 (by kernel_rfl) rfl
  have h := AnyQ.slices_SortFunc_total Tryz.sortPt 9 pt_agg pt_size Pt.cells pt_len (fun x u hu => by simp [Pt.cells] at hu; rcases hu with rfl | rfl | rfl | rfl | rfl | rfl | rfl | rfl | rfl <;> rfl) ordI (by rw [ltOf_ord]; exact ltPt_swo) 88 #[] blk 0 cap ss.toArray w eg
    (fun m os dk _ x y => order_calls cmpInt_calls x y _) hH hblk (by simpa using hsz) (by rw [ltOf_ord]; exact ltPt_total)
  rw [ltOf_ord] at h
  exact h
theorem sortedFunc_calls (Bm b : Nat) (es : Array MapEntry) (clock : Nat) (hst : Stamped es clock) (pc : List (Pt × Coin)) (hpc : es.toList.map (fun e => (e.key, e.val)) = pc.map fun x => (x.1.v, x.2.v)) (hN : pc.length * 16 ≤ 140737488355328)
    (w : World) (hBm : Bm < w.heap.size) (hm : w.cell? ⟨Bm, 0, none⟩ = some (.map (some b))) (hb : w.heap[b]? = some (.map es clock)) :
    Calls Tryz.prog 86 #[.func (.func 116) #[] #[.pointer (some ⟨Bm, 0, none⟩)], .func (.func 88) #[] #[]] w fun e w' => ∃ v, e = .returned v ∧ w'.ownsRow w.heap.size 60 9 v pc.length (flatPt (sortPts (pc.map (·.1)))) ∧ (v = .slice none 0 0 ↔ pc = []) ∧ Below w.heap.size w w' := by
  have hmax : (140737488355328 : Nat) ≤ maxLen := by decide
  have eg : ∀ args w, (callFunc 116 args).run Tryz.prog w = .ok (.enter 116 args) w := enters_of Tryz.func116 (by kernel_rfl) rfl
  have hseq := ptKeys_gives Fence.wide 1 trivial rfl (Nat.le_refl _) Bm b es clock hst pc hpc w hBm hm hb
  have hcol := callsIn_wide.1 (collect_in Fence.wide 3 trivial trivial rfl (Nat.le_refl _) 116 #[.pointer (some ⟨Bm, 0, none⟩)] trivial eg _ pc.length (by omega) hN w hseq)
  go_enter Tryz.func86, Tryz.ntmps86
  go_wp2_with (go_at_call 114; refine hcol.mono ?_; rintro e W ⟨v, ss, rfl, hS, hrow, hnil, hbe⟩)
  have hlen : ss.length = pc.length := by have := hS.length_eq; simpa using this
  have hsp : sortPts (pc.map (·.1)) = sortPts ss := (sortPts_of_perm hS).symm
  have hsl : (sortPts ss).length = ss.length := (sortPts_perm ss).length_eq
  rcases hrow.2 with ⟨rfl, hz⟩ | ⟨gb, cap, cur, rfl, hbase, hgb, r1, r2, r3, r4⟩
  · have hss : ss = [] := List.eq_nil_of_length_eq_zero hz
    subst hss
    have hpn : pc = [] := List.eq_nil_of_length_eq_zero (by simpa using hlen.symm)
    have hs0 := AnyF.slices_SortFunc_none (P := Tryz.prog) (ρ := Tryz.sortPt_ren) { Tryz.sortPt with } none 0 (.func (.func 88) #[] #[]) W
    change Calls Tryz.prog 115 _ _ _ at hs0
    go_wp2_with (go_at_call 115; refine hs0.mono ?_; rintro e w' ⟨rfl, rfl⟩)
    go_ret
    subst hpn
    exact ⟨_, rfl, by simpa [sortPts] using hrow, by simp, hbe⟩
  · have hH : HoldsK Pt.cells 9 W gb 0 ss.toArray := holdsK_of_block hgb r4
    have hgl : gb < W.heap.size := (Array.getElem?_eq_some_iff.1 hgb).1
    have cS := sortPts_calls ss gb cap W hH hgl (by omega)
    go_wp2_with (go_at_call 115; refine cS.mono ?_; rintro e w' ⟨rfl, nn, os, hw'⟩)
    go_ret
    refine ⟨_, rfl, ?_, ⟨fun e => (by cases e), fun e => ?_⟩, ?_⟩
    · rw [hsp, ← hlen]
      have hz := ownsRow_sortedK (n := nn) (os := os) hsl hbase hgb r1 r2 r3
      exact hz
    · subst e
      simp at hlen
      exact absurd (hnil.2 hlen) (by simp)
    · exact hbe.grown (grownBy_sortedK _) hbe.size (fun j hj => by cases hj; exact hbase)
theorem points_calls (s b : Nat) (es : Array MapEntry) (clock : Nat) (hst : Stamped es clock) (pc : List (Pt × Coin)) (hpc : es.toList.map (fun e => (e.key, e.val)) = pc.map fun x => (x.1.v, x.2.v)) (hN : pc.length * 16 ≤ 140737488355328)
    (w : World) (hm : w.cell? ⟨s, 0, none⟩ = some (.map (some b))) (hb : w.heap[b]? = some (.map es clock)) :
    Calls Tryz.prog 45 #[.pointer (some ⟨s, 0, none⟩)] w fun e w' => ∃ v, e = .returned v ∧ w'.ownsRow w.heap.size 60 9 v pc.length (flatPt (sortPts (pc.map (·.1)))) ∧ (v = .slice none 0 0 ↔ pc = []) ∧ Below w.heap.size w w' := by
  have hk := fun W => callsIn_wide.1 (ptKeys_in Fence.wide 1 trivial rfl (some b) W)
  have hbl : b < w.heap.size := (Array.getElem?_eq_some_iff.1 hb).1
  have hs := sortedFunc_calls w.heap.size b es clock hst pc hpc hN (w.alloc (.cells #[.map (some b)] 102)) (by simp) (by simp only [World.cell?, alloc_new]; rfl) ((Below.heap_alloc _ _ _ hbl).trans hb)
  have hbe : Below w.heap.size w (w.alloc (.cells #[.map (some b)] 102)) := (Below.refl _ w).alloc (Nat.le_refl _) _
  go_enter Tryz.func45, Tryz.ntmps45
  go_wp2_with (first
    | (go_at_call 87; refine (hk _).mono ?_; rintro e w' ⟨rfl, rfl⟩)
    | (go_at_call 86; refine hs.mono ?_; rintro e w' ⟨v, rfl, hrow, hnil, hb2⟩))
  go_ret
  exact ⟨v, rfl, ownsRow_base_a hrow (by simp), hnil, hbe.trans (hb2.mono (by simp))⟩
end Go.Proofs.YtmoohekgheoliaaGreatDoor
namespace Go.Proofs.YtmoohekgheoliaaGreatDoor
set_option maxRecDepth 100000
open Go.Sx
theorem flatPt_as (l : List Pt) (n : Nat) (hn : l.length = n) : FlatAs 9 n (fun i => (l.getD i default).cells) (flatPt l) := by
  intro i hi
  refine ⟨rfl, fun j v hj => ?_⟩
  have hjl : j < 9 := by have := (List.getElem?_eq_some_iff.1 hj).1; simpa [Pt.cells] using this
  rw [flatPt_get l i j hjl]
  have hil : i < l.length := by omega
  dsimp only at hj
  rw [List.getD_eq_getElem?_getD] at hj
  rw [List.getElem?_eq_getElem hil] at hj ⊢
  exact hj
theorem USet.at {β : Nat → Sx.Loc} {ow : Nat → Option Nat} {w : World} {c : Nat} {S : USet} (h : Holds β ow w c (.abs (usetP S))) : (β c).base = 0 ∧ ∃ b es clock, w.cell? ⟨(β c).blk, 0, none⟩ = some (.map (some b)) ∧ w.heap[b]? = some (.map es clock) ∧ MapKept.Stamped es clock ∧
    es.toList.map (fun e => (e.key, e.val)) = S.coins.map fun x => (x.1.v, x.2.v) := by
  obtain ⟨_, hb, _, _, β', ow', hw, e1, e2, e3, _, _, hall⟩ := h
  have h0 := hall 0 _ rfl
  have h1 := hall 1 _ rfl
  obtain ⟨_, _, _, arr, ha, hrel⟩ := h0
  obtain ⟨_, _, _, es, clock, hm, hs, hl⟩ := h1
  refine ⟨hb, (β' 1).blk, es, clock, ?_, hm, hs, hl⟩
  obtain ⟨v, r, hv, hv1, _⟩ := hrel
  simp only [SV.rel] at hv1
  subst hv1
  rw [← e1]
  simp only [World.cell?, ha]
  have : arr.toList[0]? = some (.map (some (β' 1).blk)) := by rw [hv]; rfl
  simpa using this
def USet.points (S : USet) : List Pt := sortPts (S.coins.map (·.1))
theorem USet.points_len (S : USet) : S.points.length = S.coins.length := by rw [USet.points, (sortPts_perm _).length_eq]; simp
theorem points_spec (S : USet) (hN : S.coins.length * 16 ≤ 140737488355328) {M : Mem} {c0 d : Nat} (hM : M.get c0 = some (.abs (usetP S))) :
    CallSpec Tryz.prog 45 [.one (.ptr c0 0 0 0)] M d { v := XV.sv (.slc d 9 0 S.coins.length), upd := [(d, .vec 60 9 S.coins.length fun i => (S.points.getD i default).cells)] } [c0] := by
  refine row_spec fun β ow w vs hw hvs hr => ?_
  have h := hr c0 (by simp) _ hM
  obtain ⟨hb, b, es, clock, h1, h2, h3, h4⟩ := USet.at h
  obtain ⟨v, r, rfl, hv, rfl⟩ := hvs
  simp only [CV.rel, SV.rel, Sx.Loc.addr, hb] at hv
  subst hv
  refine (points_calls (β c0).blk b es clock h3 S.coins h4 hN w h1 h2).mono ?_
  rintro e w' ⟨v, rfl, hrow, _, hbe⟩
  exact ⟨v, _, rfl, hrow, flatPt_as S.points _ S.points_len, hbe⟩
end Go.Proofs.YtmoohekgheoliaaGreatDoor
