/- maps.Keys over a map of coins: what its iterator gives: each point once, in some order. -/
import Derived.Test.YtfdmlpdhngmbiaaVa
import Derived.RangeFuncGives
import Derived.Sort.MapsRangeIn
import Derived.WalkKit
import Derived.OwnWalkIn
import Derived.TacticsInMore
import Derived.RegionIn
import Derived.LoopNIn
import Derived.LoopIn
namespace Go.Proofs.Ytfdmlpdhngmbiaa
open Go.RowKit Go.Lib Go.Sort Go.MapKept

theorem inj_of_nodup {α β : Type} (f : α → β) : ∀ {l : List α}, (l.map f).Nodup → ∀ x ∈ l, ∀ y ∈ l, f x = f y → x = y
  | [], _, x, hx, _, _, _ => by cases hx
  | a :: l, h, x, hx, y, hy, e => by
    rw [List.map_cons, List.nodup_cons] at h
    rcases List.mem_cons.1 hx with rfl | hx' <;> rcases List.mem_cons.1 hy with rfl | hy'
    · rfl
    · exact absurd (List.mem_map.2 ⟨y, hy', e.symm⟩) h.1
    · exact absurd (List.mem_map.2 ⟨x, hx', e⟩) h.1
    · exact inj_of_nodup f h.2 x hx' y hy' e

section
variable {F : Fence} {n : Nat} {P : Program} (w : World) {ops : Array Oper} {rest : List Oper} {o : Oper} {a : Act} {Q : Exit → Act → World → Prop}

/-- A walk over a map: what has come so far, as entries. -/
structure Walk (w : World) (b r : Nat) (es : Array MapEntry) (clock : Nat) (done : List MapEntry) : Prop where
  ne : r ≠ b
  map : w.heap[b]? = some (.map es clock)
  it : ∃ since seen c0, w.heap[r]? = some (.mapIter (some b) since seen c0) ∧ (∀ x ∈ es.toList, x.born < since) ∧ since ≤ c0 ∧ since ≤ clock ∧ seen.toList = done.map (·.born)
  sub : ∀ e ∈ done, e ∈ es.toList
  nodup : (done.map (·.born)).Nodup

theorem Walk.of_walks {w w' : World} {b r : Nat} {es : Array MapEntry} {clock : Nat} {done : List MapEntry} (h : Walk w b r es clock done) (hk : KeepsWalks w w') : Walk w' b r es clock done := by
  obtain ⟨h0, h1, ⟨since, seen, c0, h2, h3⟩, h4, h5⟩ := h
  exact ⟨h0, hk.same b _ h1 rfl, ⟨since, seen, c0, hk.same r _ h2 rfl, h3⟩, h4, h5⟩
theorem Walk.iter {w : World} {b r : Nat} {es : Array MapEntry} {clock : Nat} {done : List MapEntry} (h : Walk w b r es clock done) : ∃ o : Obj, w.heap[r]? = some o ∧ o.isWalk = true := by
  obtain ⟨_, _, ⟨since, seen, c0, h2, _⟩, _, _⟩ := h
  exact ⟨_, h2, rfl⟩
theorem Walk.left_eq {w : World} {b r : Nat} {es : Array MapEntry} {clock : Nat} {done : List MapEntry} (h : Walk w b r es clock done) {since c0 : Nat} {seen : Array Nat} (h2 : w.heap[r]? = some (.mapIter (some b) since seen c0)) : w.rangeLeft b r = (leftOf es seen).size := by
  simp [World.rangeLeft, h.map, h2]

theorem Walk.left_walks {w w' : World} {b r : Nat} {es : Array MapEntry} {clock : Nat} {done : List MapEntry} (h : Walk w b r es clock done) (hk : KeepsWalks w w') : w'.rangeLeft b r = w.rangeLeft b r := by
  obtain ⟨h0, h1, ⟨since, seen, c0, h2, h3⟩, h4, h5⟩ := h
  simp [World.rangeLeft, h1, h2, hk.same b _ h1 rfl, hk.same r _ h2 rfl]

theorem wpListIn_range_raw (hg : o.guard = none) (m : Operand) (t : TypeId) (hop : o.op = Op.range t m) (k e : TypeId) (ht : P.underlying t = some (.map k e)) (b : Nat) (es : Array MapEntry) (clock : Nat)
    (hm : a.eval m = .map (some b)) (hb : w.heap[b]? = some (.map es clock)) (hst : Stamped es clock)
    (hK : ∀ w', Walk w' b w.heap.size es clock [] → w.grownBy w' none → w'.heap.size = w.heap.size + 1 → wpListIn F n P ops Q rest (a.put o.dst (.pointer (some ⟨w.heap.size, 0, none⟩))) w') :
    wpListIn F n P ops Q (o :: rest) a w := by
  refine wpListIn_plain hg fun K' hK' => ?_
  have hrun := run_range_map (P := P) w t k e b es clock ht hb
  have hlt : b < w.heap.size := (Array.getElem?_eq_some_iff.1 hb).1
  unfold Oper.wpIn
  refine ⟨?_, ?_⟩
  · simp [Oper.about, hop]
  · rw [Oper.semAt_plain F _ _ (by rw [hop]; intro c hc'; cases hc')]
    simp [execOp, hop, hm, hrun, Result.andThen]
    refine hK' _ _ (hK _ ⟨by omega, (Below.heap_alloc _ _ _ hlt).trans hb, ⟨clock, #[], clock, alloc_new _ _, ((stamped_iff es clock).1 hst).1, Nat.le_refl _, Nat.le_refl _, rfl⟩, by simp, by simp⟩ (World.grownBy_alloc w _ none) (by simp))

theorem wpListIn_next_raw (hg : o.guard = none) (it : Operand) (hop : o.op = Op.next it false) (b r : Nat) (es : Array MapEntry) (clock : Nat) (done : List MapEntry) (hst : Stamped es clock)
    (hit : a.eval it = .pointer (some ⟨r, 0, none⟩)) (h : Walk w b r es clock done)
    (hDone : (∀ e ∈ es.toList, e ∈ done) → wpListIn F n P ops Q rest (a.put o.dst (.tuple #[.bool false])) w)
    (hMore : ∀ (e : MapEntry) (w' : World), e ∈ es.toList → e ∉ done → Walk w' b r es clock (done ++ [e]) → w'.rangeLeft b r < w.rangeLeft b r → w.grownBy w' (some r) → w'.heap.size = w.heap.size →
      (Instr.entry (.pointer (some ⟨r, 0, none⟩))).run P w' = .ok (.tuple #[e.key, e.val]) w' → wpListIn F n P ops Q rest (a.put o.dst (.tuple #[.bool true, e.key, e.val])) w') :
    wpListIn F n P ops Q (o :: rest) a w := by
  refine wpListIn_plain hg fun K' hK' => ?_
  unfold Oper.wpIn
  refine ⟨by simp [Oper.about, hop], ?_⟩
  rw [Oper.semAt_plain F _ _ (by rw [hop]; intro c hc'; cases hc')]
  have hborn := ((stamped_iff es clock).1 hst).2.1
  have hW := h
  obtain ⟨hne, hb, ⟨since, seen, c0, hr, hold, hsc, hsk, hseen⟩, hsub, hnd⟩ := h
  have hcont : ∀ x, seen.contains x = true ↔ x ∈ done.map (·.born) := fun x => by rw [Array.contains_iff_mem, ← Array.mem_toList_iff, hseen]
  have hinj : ∀ x ∈ es.toList, ∀ y ∈ es.toList, x.born = y.born → x = y := inj_of_nodup _ hborn
  rcases run_next_at (P := P) w o.type r b since c0 seen es clock hr hb hold hsc with ⟨h0, hrun⟩ | ⟨e, he, w1, hal, hrun⟩
  · simp [execOp, hop, hit, hrun, Result.andThen]
    refine hK' _ _ (hDone fun e he => ?_)
    have := (hcont _).1 (all_seen es seen h0 e he)
    obtain ⟨d, hd, hde⟩ := List.mem_map.1 this
    exact hinj d (hsub d hd) e he hde ▸ hd
  · obtain ⟨hem, hes⟩ := mem_left he
    have hr1 : w1.heap[r]? = some (.mapIter (some b) since seen c0) := by rcases hal with rfl | rfl <;> exact hr
    have hb1 : w1.heap[b]? = some (.map es clock) := by rcases hal with rfl | rfl <;> exact hb
    have hset := heap_set (o' := .mapIter (some b) since (seen.push e.born) clock) hr1
    have hb' := (hset.2 b (fun e1 => hne e1.symm)).trans hb1
    have hnew : e.born ∉ done.map (·.born) := fun hx => by rw [(hcont _).2 hx] at hes; cases hes
    have hwalk : Walk (Go.ChangeMaps.setBlock w1 r (.mapIter (some b) since (seen.push e.born) clock)) b r es clock (done ++ [e]) := by
      refine ⟨hne, hb', ⟨since, seen.push e.born, clock, hset.1, hold, hsk, hsk, by simp [hseen]⟩, fun x hx => ?_, ?_⟩
      · rcases List.mem_append.1 hx with hx | hx
        · exact hsub x hx
        · simp at hx; subst hx; exact hem
      · rw [List.map_append]
        refine List.nodup_append.2 ⟨hnd, by simp, fun x hx y hy => ?_⟩
        simp at hy; subst hy
        exact fun e => hnew (e ▸ hx)
    simp [execOp, hop, hit, hrun, Result.andThen]
    refine hK' _ _ (hMore e _ hem (fun hx => hnew (List.mem_map.2 ⟨e, hx, rfl⟩)) hwalk ?_ ?_ ?_ (run_entry_at _ r b since seen es clock e hset.1 hb' hem hborn))
    · rw [hwalk.left_eq hset.1, hW.left_eq hr]; exact left_shrinks es seen e he
    · rcases hal with rfl | rfl <;> exact ⟨rfl, rfl, rfl, by simp [Go.ChangeMaps.setBlock], fun i _ hi => hset.2 i (fun e1 => hi (by rw [e1]))⟩
    · rcases hal with rfl | rfl <;> simp [Go.ChangeMaps.setBlock]
end

theorem len_le {α : Type} [DecidableEq α] : ∀ {l l' : List α}, l.Nodup → (∀ x ∈ l, x ∈ l') → l.length ≤ l'.length
  | [], _, _, _ => Nat.zero_le _
  | a :: r, l', h, hs => by
    rw [List.nodup_cons] at h
    have ha := hs a (by simp)
    have := len_le (l := r) (l' := l'.erase a) h.2 (fun x hx => (List.mem_erase_of_ne (fun (e : x = a) => h.1 (e ▸ hx))).2 (hs x (by simp [hx])))
    rw [List.length_erase_of_mem ha] at this
    have : 0 < l'.length := List.length_pos_of_mem ha
    simp; omega
theorem nodup_of_map {α β : Type} (f : α → β) : ∀ {l : List α}, (l.map f).Nodup → l.Nodup
  | [], _ => List.nodup_nil
  | a :: r, h => by
    rw [List.map_cons, List.nodup_cons] at h
    exact List.nodup_cons.2 ⟨fun hx => h.1 (List.mem_map.2 ⟨a, hx, rfl⟩), nodup_of_map f h.2⟩

theorem came_perm {es : List MapEntry} {pc : List (Pt × Coin)} {done : List MapEntry} {ss : List Pt} (hb : (es.map (·.born)).Nodup) (hk : (es.map (·.key)).Nodup) (hpc : es.map (fun e => (e.key, e.val)) = pc.map fun x => (x.1.v, x.2.v))
    (hsub : ∀ e ∈ done, e ∈ es) (hnd : (done.map (·.born)).Nodup) (hds : done.map (·.key) = ss.map Pt.v) (hall : ∀ e ∈ es, e ∈ done) : ss.Perm (pc.map (·.1)) := by
  have h1 : done.Perm es := (List.perm_ext_iff_of_nodup (nodup_of_map _ hnd) (nodup_of_map _ hb)).2 fun e => ⟨hsub e, hall e⟩
  have h2 : es.map (·.key) = (pc.map (·.1)).map Pt.v := by
    have := congrArg (List.map Prod.fst) hpc
    simpa [List.map_map, Function.comp_def] using this
  have h3 : (ss.map Pt.v).Perm ((pc.map (·.1)).map Pt.v) := by rw [← hds, ← h2]; exact h1.map _
  have h4 : (ss.map Pt.v).Nodup := by rw [← hds]; exact (h1.map _).nodup_iff.2 hk
  have h5 : ((pc.map (·.1)).map Pt.v).Nodup := by rw [← h2]; exact hk
  refine (List.perm_ext_iff_of_nodup (nodup_of_map _ h4) (nodup_of_map _ h5)).2 fun p => ?_
  have h6 : ∀ l : List Pt, p ∈ l ↔ p.v ∈ l.map Pt.v := fun l => ⟨fun h => List.mem_map.2 ⟨p, h, rfl⟩, fun h => by obtain ⟨q, hq, e⟩ := List.mem_map.1 h; exact Pt.inj _ _ e ▸ hq⟩
  rw [h6, h6, h3.mem_iff]

set_option maxRecDepth 100000 in
set_option maxHeartbeats 2000000 in
theorem ptKeys1_in (F : Fence) (n : Nat) (h39 : F.fn 39) (hro : F.round = none) (hn : 1 ≤ n) (l Bm b : Nat) (es : Array MapEntry) (clock : Nat) (hst : Stamped es clock) (pc : List (Pt × Coin))
    (hpc : es.toList.map (fun e => (e.key, e.val)) = pc.map fun x => (x.1.v, x.2.v)) (J : List Pt → World → Prop)
    (hY : ∀ pre x W, J pre W → pre.length < pc.length → YieldAt F (n - 1) Try.prog l #[x.v] W fun e W' => e = .returned (.bool true) ∧ J (pre ++ [x]) W' ∧ KeepsWalks W W')
    (W : World) (hJ : AbidesFrom W.heap.size J) (hm : W.cell? ⟨Bm, 0, none⟩ = some (.map (some b))) (hb : W.heap[b]? = some (.map es clock)) (h0 : J [] W) :
    CallsIn F n Try.prog 39 #[.func (.yield l) #[] #[], .pointer (some ⟨Bm, 0, none⟩)] W fun e W' => (∃ v, e = .returned v) ∧ ∃ ss : List Pt, ss.Perm (pc.map (·.1)) ∧ J ss W' := by
  have hkeys : ∀ e ∈ es.toList, ∃ x ∈ pc, e.key = x.1.v ∧ e.val = x.2.v := fun e he => by
    have : (e.key, e.val) ∈ es.toList.map (fun e => (e.key, e.val)) := List.mem_map.2 ⟨e, he, rfl⟩
    rw [hpc] at this
    obtain ⟨x, hx, e1⟩ := List.mem_map.1 this
    simp only [Prod.mk.injEq] at e1
    exact ⟨x, hx, e1.1.symm, e1.2.symm⟩
  have hlen : es.toList.length = pc.length := by have := congrArg List.length hpc; simpa using this
  have hst' := (stamped_iff es clock).1 hst
  refine callsIn_of_wp Try.func39 rfl h39 ?_ hro
  simp only [Try.ntmps39, List.size_toArray, List.length_cons, List.length_nil, Nat.reduceAdd, Nat.reduceSub, Array.replicate_succ, Array.replicate_zero, List.push_toArray, List.append_toArray, List.nil_append, List.cons_append]
  gi_wp2_with (first
    | (gi_at_range; refine wpListIn_range_raw _ rfl _ 67 rfl 36 44 coin_map b es clock rfl hb hst ?_; intro w0 hrg0 hg0 hs0)
    | gi_in)
  go_frame
  gi_loopw [3] (fun _ wr => ∃ (done : List MapEntry) (ss : List Pt), Walk wr b W.heap.size es clock done ∧ done.map (·.key) = ss.map Pt.v ∧ J ss wr)
    (fun _ wr => wr.rangeLeft b W.heap.size)
  case atStart =>
    exact ⟨[], [], hrg0, rfl, hJ [] W w0 none h0 hg0 (fun r e => by cases e)⟩
  case round =>
    obtain ⟨done, ss, hrg, hds, hJs⟩ := hrel
    gi_wp2_with (first
      | (gi_at_next; refine wpListIn_next_raw _ rfl _ rfl b W.heap.size es clock done hst rfl hrg ?_ ?_)
      | gi_in)
    · intro hall
      gi_wp2
      go_end0
      have hkn : (es.toList.map (·.key)).Nodup := List.pairwise_map.2 hst'.2.2
      exact ⟨⟨_, rfl⟩, ss, came_perm hst'.2.1 hkn hpc hrg.sub hrg.nodup hds (by simpa using hall), hJs⟩
    · intro e w2 hem hnew hrg2 hlt hg2 hs2 hen
      have hem' : e ∈ es.toList := by simpa using hem
      obtain ⟨⟨p, c⟩, hx, ek, ev⟩ := hkeys e hem'
      have hll : (done ++ [e]).length ≤ es.toList.length := by
        have := len_le (l := (done ++ [e]).map (·.born)) (l' := es.toList.map (·.born)) hrg2.nodup (fun x hx => by obtain ⟨y, hy, rfl⟩ := List.mem_map.1 hx; exact List.mem_map.2 ⟨y, hrg2.sub y hy, rfl⟩)
        simpa using this
      have hsl : ss.length < pc.length := by
        have := congrArg List.length hds
        simp at this hll
        simp at hlen
        omega
      have hds2 : (done ++ [e]).map (·.key) = (ss ++ [p]).map Pt.v := by simp [hds, ek]
      have hJ2 : J ss w2 := hJ ss wr w2 (some W.heap.size) hJs hg2 (fun r e => by cases e; exact ⟨Nat.le_refl _, hrg.iter⟩)
      have hJ3 : J ss (w2.alloc (.cells p.cells.toArray 36)) := hJ ss w2 _ none hJ2 (World.grownBy_alloc w2 _ none) (fun r e => by cases e)
      have hk3 : KeepsWalks w2 (w2.alloc (.cells p.cells.toArray 36)) := KeepsWalks.alloc _ _
      have hrg3 := hrg2.of_walks hk3
      obtain ⟨fn, tmps, assign, body, hy, hR⟩ := hY ss p _ hJ3 hsl
      simp only [ek, ev] at hen ⊢
      have hlt3 : (w2.alloc (.cells p.cells.toArray 36)).rangeLeft b W.heap.size < wr.rangeLeft b W.heap.size := by rw [hrg2.left_walks hk3]; exact hlt
      clear hs2 hk3 hJ3 hkeys hx hlt hrg2
      generalize hq : ss ++ [p] = ssp at *
      generalize c.v = cv at *
      obtain ⟨⟨x0, x1, x2, x3, x4, x5, x6, x7⟩, xn⟩ := p
      dsimp only [Pt.v, Pt.cells, Ytfdmlpdhngmbiaa.u8, i64] at *
      gi_wp2
      refine hR.mono ?_
      rintro e W3 ⟨rfl, hJ3, hk3⟩
      gi_wp2
      have hlt4 := hrg3.left_walks hk3
      have hrg4 := hrg3.of_walks hk3
      go_roundw
      case rel => exact ⟨_, ssp, hrg4, hds2, hJ3⟩
      case measure => rw [hlt4]; exact hlt3

/-- maps.Keys: the map is boxed; the function value captures the box. -/
theorem ptKeys_in (F : Fence) (n : Nat) (h31 : F.fn 31) (hro : F.round = none) (mb : Option Nat) (w : World) :
    CallsIn F n Try.prog 31 #[.map mb] w fun e w' => e = .returned (.func (.func 39) #[] #[.pointer (some ⟨w.heap.size, 0, none⟩)]) ∧ w' = w.alloc (.cells #[.map mb] 67) := by
  refine callsIn_of_wp Try.func31 rfl h31 ?_ hro
  simp only [Try.ntmps31, List.size_toArray, List.length_cons, List.length_nil, Nat.reduceAdd, Nat.reduceSub, Array.replicate_succ, Array.replicate_zero, List.push_toArray, List.append_toArray, List.nil_append, List.cons_append]
  gi_wp2
  go_ret
  exact ⟨rfl, rfl⟩

theorem ptKeys_gives (F : Fence) (n : Nat) (h39 : F.fn 39) (hro : F.round = none) (hn : 1 ≤ n) (Bm b : Nat) (es : Array MapEntry) (clock : Nat) (hst : Stamped es clock) (pc : List (Pt × Coin))
    (hpc : es.toList.map (fun e => (e.key, e.val)) = pc.map fun x => (x.1.v, x.2.v)) (w : World) (hBm : Bm < w.heap.size) (hm : w.cell? ⟨Bm, 0, none⟩ = some (.map (some b))) (hb : w.heap[b]? = some (.map es clock)) :
    SeqGives F n Try.prog 39 #[.pointer (some ⟨Bm, 0, none⟩)] Pt.v (fun ss => ss.Perm (pc.map (·.1))) pc.length w := fun l J W hW hJ hY h0 =>
  ptKeys1_in F n h39 hro hn l Bm b es clock hst pc hpc J hY W hJ ((hW.cell (p := ⟨Bm, 0, none⟩) hBm).trans hm) ((hW.block b (Array.getElem?_eq_some_iff.1 hb).1).trans hb) h0
end Go.Proofs.Ytfdmlpdhngmbiaa
