/- Parts Wb Pe Va Vb Vc Vd. -/
import Derived.Test.YtmoohekgheoliaaGreatDoorG23
import Derived.Test.YtmoohekgheoliaaGreatDoorG14
import Derived.Lib.Bytealg
import Derived.Laws.Externs
import Derived.Shelf.GgSortFunc.InsertionK
import Derived.Shelf.SlSortCmp.QuietGrown
import Derived.RangeFuncGives
import Derived.Sort.MapsRangeIn
import Derived.WalkKit
import Derived.OwnWalkIn
import Derived.TacticsInMore
import Derived.RegionIn
import Derived.LoopNIn
import Derived.LoopIn
import Derived.RangeFuncBound
import Derived.Maps.AppendAt
import Derived.Shelf.SlIter.Collect
import Derived.Sort.Statements
import Derived.Shelf.SlSortCmp.Insertion
set_option linter.unusedSimpArgs false
set_option linter.unusedVariables false
namespace Go.Proofs.YtmoohekgheoliaaGreatDoor
set_option maxRecDepth 100000
open Go.Sx
def LCoin.coin (c : LCoin) : Coin := ⟨ownerH c.who.toInt, c.amt, c.height, c.base⟩
structure FillM where
  S : USet
  R : RC
  I : List LCoin
def fillStep (f : FillM) (c : LCoin) : FillM := ⟨f.S.add (ptOf (f.I.length : Int)) c.coin, f.R.add (ptOf (f.I.length : Int)) c.coin, if f.R.okB (ptOf (f.I.length : Int)) c.coin = true then f.I ++ [c] else f.I⟩
def fill0 : FillM := ⟨USet.empty, RC.empty, []⟩
def fillN (l : List LCoin) : Nat → FillM
  | 0 => fill0
  | i + 1 => fillStep (fillN l i) (l.getD i default)
theorem uadd_len (S : USet) (p : Pt) (c : Coin) : (S.add p c).steps.length ≤ S.steps.length + 1 := by
  unfold USet.add
  split
  · simp [USet.add1]
  · omega
theorem radd_len (R : RC) (p : Pt) (c : Coin) (h : R.P.length = R.C.length) : (R.add p c).P.length = (R.add p c).C.length ∧ (R.add p c).P.length ≤ R.P.length + 1 := by
  unfold RC.add
  split
  · simp only [RC.add1, List.length_append, List.length_cons, List.length_take, List.length_drop]
    have : R.pos p ≤ R.P.length := posIn_le p R.P
    omega
  · exact ⟨h, by omega⟩
theorem fillN_len (l : List LCoin) : ∀ i, (fillN l i).S.steps.length ≤ i ∧ (fillN l i).R.P.length = (fillN l i).R.C.length ∧ (fillN l i).R.P.length ≤ i ∧ (fillN l i).I.length ≤ i
  | 0 => ⟨Nat.le_refl _, rfl, Nat.le_refl _, Nat.le_refl _⟩
  | i + 1 => by
    obtain ⟨h1, h2, h3, h4⟩ := fillN_len l i
    have a1 := uadd_len (fillN l i).S (ptOf ((fillN l i).I.length : Int)) (l.getD i default).coin
    have a2 := radd_len (fillN l i).R (ptOf ((fillN l i).I.length : Int)) (l.getD i default).coin h2
    refine ⟨?_, a2.1, ?_, ?_⟩
    · show ((fillN l i).S.add _ _).steps.length ≤ _; omega
    · show ((fillN l i).R.add _ _).P.length ≤ _; omega
    · show (if (fillN l i).R.okB _ _ = true then (fillN l i).I ++ [l.getD i default] else (fillN l i).I).length ≤ _
      split
      · rw [List.length_append]; simp only [List.length_cons, List.length_nil]; omega
      · omega
def fillPack (f : FillM) : List Chunk := [.abs (usetP f.S), .abs (rcP f.R), .vec 79 4 f.I.length (coinsF f.I)]
def fillX (n : Nat) : XV := .tup [.one (.inn 0 0), .one (.inn 0 1), .one (.ins 0 3 2 n)]
def fill12St (l : List LCoin) (i : Nat) : St :=
  ⟨[some (XV.sv (.slc 0 4 0 l.length)), none, none, none, none, some (XV.sv (.ptr 1 0 0 0)), some (XV.sv (.ptr 2 0 0 0)), some (XV.sv (.slc 3 4 0 (fillN l i).I.length)), some (XV.int .i64 i)] ++ List.replicate 60 none,
   [(0, .ro 4 l.length (coinsF l)), (1, .abs (usetP (fillN l i).S)), (2, .abs (rcP (fillN l i).R)), (3, .vec 79 4 (fillN l i).I.length (coinsF (fillN l i).I))], 4⟩
theorem coins_snoc {l : List LCoin} {c : LCoin} {g : Nat → List Value} {k : Nat} (hg : g 0 = c.cells) (hk : k < l.length + 1) : joinF (coinsF l) l.length g k = coinsF (l ++ [c]) k := by
  simp only [joinF, nblt]
  by_cases h : k < l.length
  · simp [h, coinsF, rowOf, List.getD_eq_getElem?_getD, List.getElem?_append_left h]
  · obtain rfl : k = l.length := by omega
    simp [coinsF, rowOf, hg]
set_option maxHeartbeats 4000000 in
theorem fill_can (l : List LCoin) (hl : l.length ≤ 1000) : Makes Tryz.prog 11 [.row 4 l.length (coinsF l)] [] (fillX (fillN l l.length).I.length) (.abs (PackP (fillPack (fillN l l.length)))) := by
  refine Makes.of Tryz.T_ok Tryz.func11 rfl _ _ _ _ rfl rfl rfl rfl 18 (fun C hC => ?_)
  (replace hC : C.n0 = 1 := hC; change Tri _ _ _ ⟨_, _, 1⟩ _)
  (refine Tri.cut 3 Tryz.mixed Tryz.T_ok ?_; ((conv => arg 5; whnf); repeat (refine xS ?_; conv => arg 5; whnf)))
  (apply wP; exact (call_op rfl (entersB_of Tryz.func28 (by kernel_rfl)) rfl (new_spec)); ((conv => arg 5; whnf); repeat (refine xS ?_; conv => arg 5; whnf)))
  refine wD <| cutG <| Tri.ent (Ent.trans (Ent.nilc (c := 6) (e := 75) (cs := [.raw (.slice none 0 0), .raw (.slice none 0 0)]) (j := 0) rfl rfl 60 9)
    (Ent.trans (Ent.nilc (c := 6) (e := 75) (cs := [.slc 10 9 0 0, .raw (.slice none 0 0)]) (j := 1) rfl rfl 97 11)
    (Ent.trans (Ent.shut3 (i0 := 6) (i1 := 10) (i2 := 11) (M := RC.empty.mem) (inv := True) rfl trivial rfl rfl rfl rfl rfl rfl rfl rfl ⟨rfl, rfl⟩ ⟨rfl, rfl, Nat.le_refl _, fun i hi => absurd hi (Nat.not_lt_zero i)⟩ ⟨rfl, rfl, Nat.le_refl _, fun i hi => absurd hi (Nat.not_lt_zero i)⟩)
    (Ent.nils (t := 7) rfl 79 4)))) <| Tri.seq ?_
  (refine Tri.cut 1 Tryz.mixed Tryz.T_ok ?_; ((conv => arg 5; whnf); repeat (refine xS ?_; conv => arg 5; whnf)))
  refine wD <| cutG <| Tri.block ?_
  refine Tri.loop (α := { i : Nat // i ≤ l.length }) (fun i => fill12St l i.1) (fun i => l.length - i.1) ⟨0, Nat.zero_le _⟩ ?_ ?_
  · dsimp only
    unfold fill12St
    ((try dsimp only); refine Ent.renC [0, 4, 6, 12] hC ?_ ?_ <;> repeat' (first | exact trivial | exact rfl | exact ⟨_, rfl, rfl, rfl, Nat.le_refl _, fun _ _ => rfl⟩ | exact ⟨_, rfl, rfl, rfl, fun _ _ => rfl⟩ | exact ⟨_, rfl, rfl, rfl⟩ | exact ⟨_, rfl, rfl⟩ | refine ⟨_, rfl, rfl, rfl, by omega, fun k hk => ?_⟩ | refine ⟨?_, ?_⟩ | fail))
    · exact Nat.le_refl _
    · exact fun k hk => absurd hk (Nat.not_lt_zero _)
  rintro ⟨i, hi⟩
  dsimp only
  obtain ⟨b1, b2, b3, b4⟩ := fillN_len l i
  (refine Tri.cut 1 Tryz.mixed Tryz.T_ok ?_; ((conv => arg 5; whnf); repeat (refine xS ?_; conv => arg 5; whnf)))
  refine wC (fun h1 => ?_) (fun h1 => ?_)
  · (refine wGo ?_; ((conv => arg 5; whnf); repeat (refine xS ?_; conv => arg 5; whnf)))
    have h1' : i < l.length := (by (try simp only [ww] at *); omega)
    have hw : IntKind.i64.wrap ((i : Int) + 1) = ((i + 1 : Nat) : Int) := (by (try simp only [ww] at *); omega)
    have hst : fillN l (i + 1) = fillStep (fillN l i) (l.getD i default) := rfl
    obtain ⟨F, hF⟩ : ∃ F, fillN l i = F := ⟨_, rfl⟩
    rw [hF] at b1 b2 b3 b4 hst
    obtain ⟨c, hc⟩ : ∃ c, l.getD i default = c := ⟨_, rfl⟩
    refine wD <| cutG <| Tri.seq <| Tri.block <| Tri.of Tryz.mixed Tryz.T_ok ?_
    simp only [hF]
    (refine wBegin ?_; ((conv => arg 5; whnf); repeat (refine xS ?_; conv => arg 5; whnf)))
    (repeat (refine wN ?_ ?_; exact (by (try simp only [ww] at *); omega); refine wGo ?_; ((conv => arg 5; whnf); repeat (refine xS ?_; conv => arg 5; whnf))))
    simp only [Nat.zero_add, Int.toNat_natCast]
    (apply wP; exact (call_op rfl (entersB_of Tryz.func25 (by kernel_rfl)) rfl ((owner_can (l.getD i default).who.toInt).at [] ⟨lend_plain rfl, trivial⟩ trivial)); ((conv => arg 5; whnf); repeat (refine xS ?_; conv => arg 5; whnf)))
    (repeat (refine wN ?_ ?_; exact (by (try simp only [ww] at *); omega); refine wGo ?_; ((conv => arg 5; whnf); repeat (refine xS ?_; conv => arg 5; whnf))))
    simp only [Nat.zero_add, Int.toNat_natCast]
    (apply wP; exact (call_op rfl (entersB_of Tryz.func24 (by kernel_rfl)) rfl ((point_can (F.I.length : Int)).at [] ⟨lend_plain rfl, trivial⟩ trivial)); ((conv => arg 5; whnf); repeat (refine xS ?_; conv => arg 5; whnf)))
    (apply wP; exact (call_op rfl (entersB_of Tryz.func30 (by kernel_rfl)) rfl (lawCoin_spec (l.getD i default).coin _ _)); ((conv => arg 5; whnf); repeat (refine xS ?_; conv => arg 5; whnf)))
    (apply wP; exact (call_op rfl (entersB_of Tryz.func29 (by kernel_rfl)) rfl (uadd_spec F.S (ptOf (F.I.length : Int)) (l.getD i default).coin (by omega) rfl rfl)); ((conv => arg 5; whnf); repeat (refine xS ?_; conv => arg 5; whnf)))
    (apply wP; exact (call_op rfl (entersB_of Tryz.func24 (by kernel_rfl)) rfl ((point_can (F.I.length : Int)).at [] ⟨lend_plain rfl, trivial⟩ trivial)); ((conv => arg 5; whnf); repeat (refine xS ?_; conv => arg 5; whnf)))
    (apply wP; exact (call_op rfl (entersB_of Tryz.func31 (by kernel_rfl)) rfl (rcAdd_spec F.R (ptOf (F.I.length : Int)) (l.getD i default).coin b2 (by omega) rfl rfl)); ((conv => arg 5; whnf); repeat (refine xS ?_; conv => arg 5; whnf)))
    refine wC (fun h2 => ?_) (fun h2 => ?_)
    · (refine wGo ?_; ((conv => arg 5; whnf); repeat (refine xS ?_; conv => arg 5; whnf)))
      (repeat (refine wN ?_ ?_; exact (by (try simp only [ww] at *); omega); refine wGo ?_; ((conv => arg 5; whnf); repeat (refine xS ?_; conv => arg 5; whnf))))
      simp only [Nat.zero_add, Int.toNat_natCast]
      (refine wP _ _ (append_op Tryz.T_ok rfl rfl rfl rfl rfl [3, 55] (old_vec rfl rfl (Nat.le_refl _) rfl) (new_vec (lo := 0) rfl rfl (Nat.le_refl _) rfl) rfl (lt1 rfl) (by simp only [maxLen]; omega) (by dsimp only; omega)) ?_; ((conv => arg 5; whnf); repeat (refine xS ?_; conv => arg 5; whnf)))
      refine wD <| blockN <| cutG <| Tri.of Tryz.mixed Tryz.T_ok ?_
      (refine wBegin ?_; ((conv => arg 5; whnf); repeat (refine xS ?_; conv => arg 5; whnf)))
      refine wD <| loopN ⟨⟨i + 1, h1'⟩, by dsimp only; omega, ?_⟩
      rw [hw]
      dsimp only
      unfold fill12St
      rw [hst, fillStep, if_pos h2, List.length_append]
      ((try dsimp only); refine Ent.renC [0, 1, 2, 56] hC ?_ ?_ <;> repeat' (first | exact trivial | exact rfl | exact ⟨_, rfl, rfl, rfl, Nat.le_refl _, fun _ _ => rfl⟩ | exact ⟨_, rfl, rfl, rfl, fun _ _ => rfl⟩ | exact ⟨_, rfl, rfl, rfl⟩ | exact ⟨_, rfl, rfl⟩ | refine ⟨_, rfl, rfl, rfl, by omega, fun k hk => ?_⟩ | refine ⟨?_, ?_⟩ | fail))
      · exact Nat.le_refl _
      exact fun k hk => coins_snoc rfl hk
    · (refine wGo ?_; ((conv => arg 5; whnf); repeat (refine xS ?_; conv => arg 5; whnf)))
      refine wD <| blockN <| cutG <| Tri.of Tryz.mixed Tryz.T_ok ?_
      (refine wBegin ?_; ((conv => arg 5; whnf); repeat (refine xS ?_; conv => arg 5; whnf)))
      refine wD <| loopN ⟨⟨i + 1, h1'⟩, by dsimp only; omega, ?_⟩
      rw [hw]
      dsimp only
      unfold fill12St
      rw [hst, fillStep, if_neg (by rw [h2]; simp)]
      ((try dsimp only); refine Ent.renC [0, 1, 2, 3] hC ?_ ?_ <;> repeat' (first | exact trivial | exact rfl | exact ⟨_, rfl, rfl, rfl, Nat.le_refl _, fun _ _ => rfl⟩ | exact ⟨_, rfl, rfl, rfl, fun _ _ => rfl⟩ | exact ⟨_, rfl, rfl, rfl⟩ | exact ⟨_, rfl, rfl⟩ | refine ⟨_, rfl, rfl, rfl, by omega, fun k hk => ?_⟩ | refine ⟨?_, ?_⟩ | fail))
  · (refine wGo ?_; ((conv => arg 5; whnf); repeat (refine xS ?_; conv => arg 5; whnf)))
    have h1' : i = l.length := (by (try simp only [ww] at *); omega)
    subst h1'
    refine wD <| cutE <| loopX <| blockX <| cutG <| Tri.of Tryz.mixed Tryz.T_ok ?_
    (refine wBegin ?_; ((conv => arg 5; whnf); repeat (refine xS ?_; conv => arg 5; whnf)))
    refine wD (Ends.made (.inr rfl) (Ent.pack [1, 2, 3] (fillPack (fillN l l.length)) (by decide) rfl rfl (fun j i ch hi hj => ?_)) rfl (Nat.le_of_ble_eq_true rfl) rfl)
    rcases j with _ | _ | _ | j
    · cases hi; cases hj; exact ⟨_, rfl, ChLe.refl _ rfl⟩
    · cases hi; cases hj; exact ⟨_, rfl, ChLe.refl _ rfl⟩
    · cases hi; cases hj; exact ⟨_, rfl, ChLe.refl _ rfl⟩
    · cases hi
end Go.Proofs.YtmoohekgheoliaaGreatDoor
namespace Go.Proofs.YtmoohekgheoliaaGreatDoor
set_option maxRecDepth 100000
open Go.Sx
theorem Twin.look {S : USet} {R : RC} (h : Twin S R) : AlikeR S R := fun p => by
  obtain ⟨zs, hz⟩ := h
  exact ⟨hz.isAt p, hz.get p⟩
theorem Twin.lens {S : USet} {R : RC} (h : Twin S R) : R.P.length = S.coins.length ∧ R.P.length = R.C.length := by
  obtain ⟨zs, hz⟩ := h
  have h1 := hz.len
  have h2 := hz.perm.length_eq
  omega
theorem twin_fill (l : List LCoin) : ∀ n, Twin (fillN l n).S (fillN l n).R
  | 0 => Twin.empty
  | n + 1 => (twin_fill l n).add _ _
theorem Twin.okB {S : USet} {R : RC} (h : Twin S R) (p : Pt) (c : Coin) : R.okB p c = S.okB p c := by
  obtain ⟨zs, hz⟩ := h
  exact hz.okB p c
theorem Twin.add1 {S : USet} {R : RC} (h : Twin S R) {p : Pt} {c : Coin} (hok : S.okB p c = true) : Twin (S.add1 p c) (R.add1 p c) := by
  obtain ⟨zs, hz⟩ := h
  exact hz.add1 hok
end Go.Proofs.YtmoohekgheoliaaGreatDoor
namespace Go.Proofs.YtmoohekgheoliaaGreatDoor
set_option maxRecDepth 100000
open Go.RowKit Go.Lib Go.Sort
theorem addr_add (b o j : Nat) : (⟨b, o, none⟩ : Addr).add j = ⟨b, o + j, none⟩ := by unfold Addr.add; split <;> simp_all
theorem run_loadU8 {P : Program} (w : World) (b : Nat) : ∀ (xs : List UInt8) (o : Nat) (acc : ByteArray), (∀ j x, xs[j]? = some x → w.cell? ⟨b, o + j, none⟩ = some (u8 x)) →
    (Extern.Bytes.loadBytes ⟨b, o, none⟩ xs.length acc).run P w = .ok ⟨acc.data ++ xs.toArray⟩ w
  | [], o, acc, _ => by simp [Extern.Bytes.loadBytes]
  | x :: l, o, acc, h => by
    have h0 : w.cell? ⟨b, o, none⟩ = some (u8 x) := by simpa using h 0 x rfl
    have ih := run_loadU8 (P := P) w b l (o + 1) (acc.push x) (fun j y hy => by
      have := h (j + 1) y (by simpa using hy)
      rw [← this]; congr 2; omega)
    have e : (⟨b, o, none⟩ : Addr).add 1 = ⟨b, o + 1, none⟩ := by simp [Addr.add]
    simp only [List.length_cons, Extern.Bytes.loadBytes, Sem.run_bind, run_load, h0, Result.andThen, u8, e]
    have e2 : (Int.toNat (x.toNat : Int)).toUInt8 = x := by simp
    rw [e2, ih]
    congr 1
    apply ByteArray.ext
    simp [ByteArray.push]
theorem run_compareU8 {P : Program} (w : World) (b1 b2 c1 c2 : Nat) (xs ys : List UInt8) (h1 : ∀ j x, xs[j]? = some x → w.cell? ⟨b1, j, none⟩ = some (u8 x)) (h2 : ∀ j x, ys[j]? = some x → w.cell? ⟨b2, j, none⟩ = some (u8 x)) :
    (Extern.BytealgCompare.compare #[.slice (some ⟨b1, 0, none⟩) xs.length c1, .slice (some ⟨b2, 0, none⟩) ys.length c2]).run P w = .ok (.int .i64 (compareBytes xs ys)) w := by
  change Sem.run P (do pure (goInt (Extern.BytealgCompare.cmp (← Extern.Bytes.bytesOf (.slice (some ⟨b1, 0, none⟩) xs.length c1)) (← Extern.Bytes.bytesOf (.slice (some ⟨b2, 0, none⟩) ys.length c2))))) w = _
  have e1 := run_loadU8 (P := P) w b1 xs 0 .empty (by simpa using h1)
  have e2 := run_loadU8 (P := P) w b2 ys 0 .empty (by simpa using h2)
  simp only [Extern.Bytes.bytesOf, Sem.run_bind, Sem.run_pure, e1, e2, Result.andThen]
  have e3 : ∀ l : List UInt8, ByteArray.empty.data ++ l.toArray = l.toArray := fun l => by show (#[] : Array UInt8) ++ _ = _; simp
  rw [cmp_eq, e3, e3]
  rfl
theorem bytesCompare_calls (xs ys : List UInt8) (n m b1 b2 c1 c2 : Nat) (w : World) (hn : xs.length = n) (hm : ys.length = m) (h1 : ∀ j x, xs[j]? = some x → w.cell? ⟨b1, j, none⟩ = some (u8 x)) (h2 : ∀ j x, ys[j]? = some x → w.cell? ⟨b2, j, none⟩ = some (u8 x)) :
    Calls Tryz.prog 141 #[.slice (some ⟨b1, 0, none⟩) n c1, .slice (some ⟨b2, 0, none⟩) m c2] w fun e w' => e = .returned (.int .i64 (compareBytes xs ys)) ∧ w' = w := by
  subst hn hm
  have hx : (callFunc 163 #[.slice (some ⟨b1, 0, none⟩) xs.length c1, .slice (some ⟨b2, 0, none⟩) ys.length c2]).run Tryz.prog w = .ok (.value (.int .i64 (compareBytes xs ys))) w := by
    rw [run_callFunc_extern Tryz.func163 (by kernel_rfl) (by kernel_rfl) (by kernel_rfl) (e := Extern.BytealgCompare.compare) (by kernel_rfl), run_compareU8 w b1 b2 c1 c2 xs ys h1 h2]
    rfl
  go_enter Tryz.func141, Tryz.ntmps141
  go_wp2
  go_ret
  exact ⟨rfl, rfl⟩
theorem h8_cell (h : H8) (w : World) (b : Nat) (hb : ∃ t, w.heap[b]? = some (.cells h.cells.toArray t (0, 0))) (j : Nat) (x : UInt8) (hj : h.l[j]? = some x) : w.cell? ⟨b, j, none⟩ = some (u8 x) := by
  obtain ⟨t, hb⟩ := hb
  have e : h.cells = h.l.map u8 := rfl
  simp [World.cell?, hb, e, hj]
theorem alloc_new (w : World) (o : Obj) : (w.alloc o).heap[w.heap.size]? = some o := by show (w.heap.push o)[w.heap.size]? = some o; simp
set_option maxHeartbeats 2000000 in
set_option maxRecDepth 100000 in
theorem hashLess_calls (a b : H8) (W : World) : Calls Tryz.prog 117 #[.agg a.cells.toArray, .agg b.cells.toArray] W fun e w' => e = .returned (.bool (decide (compareBytes a.l b.l < 0))) ∧ ∃ q os', w' = grow (W.drewN q) os' := by
  obtain ⟨W2, hW2⟩ : ∃ W2, (W.alloc (.cells a.cells.toArray 39)).alloc (.cells b.cells.toArray 39) = W2 := ⟨_, rfl⟩
  have g2 : W2 = grow W #[.cells a.cells.toArray 39, .cells b.cells.toArray 39] := by rw [← hW2, alloc_eq_grow, alloc_eq_grow, grow_grow]; rfl
  have s2 : W2.heap.size = W.heap.size + 2 := by rw [← hW2]; simp
  have k1 : W2.heap[W.heap.size]? = some (.cells a.cells.toArray 39 (0, 0)) := by rw [← hW2]; exact (Below.heap_alloc _ _ _ (by simp)).trans (alloc_new W _)
  have k2 : W2.heap[W.heap.size + 1]? = some (.cells b.cells.toArray 39 (0, 0)) := by rw [← hW2]; have := alloc_new (W.alloc (.cells a.cells.toArray 39)) (.cells b.cells.toArray 39); rwa [World.size_alloc] at this
  have hg : ∀ n os (k : Nat) o, W2.heap[k]? = some o → (grow (W2.drewN n) os).heap[k]? = some o := fun n os k o h => by
    have hk := (Array.getElem?_eq_some_iff.1 h).1
    show ((W2.heap ++ os)[k]?) = _
    rw [Array.getElem?_append_left hk, h]
  have hcon : ∀ n os, Calls Tryz.prog 141 #[.slice (some ⟨W.heap.size, 0, none⟩) 8 8, .slice (some ⟨W.heap.size + 1, 0, none⟩) 8 8] (grow (W2.drewN n) os) fun e w' => e = .returned (.int .i64 (compareBytes a.l b.l)) ∧ ∃ q os', w' = grow ((grow (W2.drewN n) os).drewN q) os' := fun n os =>
    (bytesCompare_calls a.l b.l 8 8 _ _ 8 8 _ rfl rfl (h8_cell a _ _ ⟨_, hg n os _ _ k1⟩) (h8_cell b _ _ ⟨_, hg n os _ _ k2⟩)).mono fun _ _ ⟨he, hw⟩ => ⟨he, 0, #[], by rw [hw, grow_empty]; rfl⟩
  have mixed := Tryz.mixed
  have e47 : ∀ args w, (callFunc 141 args).run Tryz.prog w = .ok (.enter 141 args) w := enters_of Tryz.func141 (by kernel_rfl) rfl
  clear hW2 k1 k2 hg s2
  generalize compareBytes a.l b.l = r at hcon ⊢
  go_enter Tryz.func117, Tryz.ntmps117
  go_wp2_with (fail)
  rw [alloc_eq_grow, alloc_eq_grow, grow_grow]
  change Code.wp _ _ _ _ (grow W #[.cells a.cells.toArray 39, .cells b.cells.toArray 39])
  rw [← g2]
  have g3 : ∃ os, W2 = grow W os := ⟨_, g2⟩
  clear g2
  go_quiet_grown (first | (go_at_fn 141; refine Calls.grown_of (hcon _ _)))
  go_wp2
  go_ret
  obtain ⟨os, rfl⟩ := g3
  exact ⟨rfl, nq, os ++ osq, by rw [← grow_grow]; rfl⟩
def ordI (p q : Pt) : Int := if compareBytes p.tx.l q.tx.l < 0 then -1 else if compareBytes q.tx.l p.tx.l < 0 then 1 else compareInt p.no.toInt q.no.toInt
def PtsAt (W : World) (b : Nat) (p q : Pt) (w : World) : Prop := (∃ n os, w = grow (W.drewN n) os) ∧ (∀ j v, p.cells[j]? = some v → w.cell? ⟨b, j, none⟩ = some v) ∧ (∀ j v, q.cells[j]? = some v → w.cell? ⟨b + 1, j, none⟩ = some v)
theorem cell_ltV {w : World} {a : Addr} {v : Value} (h : w.cell? a = some v) : a.block < w.heap.size := by
  unfold World.cell? at h
  split at h
  · rename_i e
    exact (Array.getElem?_eq_some_iff.1 e).1
  · cases h
theorem PtsAt.more {W : World} {b : Nat} {p q : Pt} {w : World} (h : PtsAt W b p q w) (n : Nat) (os : Array Obj) : PtsAt W b p q (grow (w.drewN n) os) := by
  obtain ⟨⟨m, os0, rfl⟩, h2, h3⟩ := h
  refine ⟨⟨m + n, os0 ++ os, ?_⟩, fun j v hj => cell_grown (cell_ltV (h2 j v hj)) (h2 j v hj) n os, fun j v hj => cell_grown (cell_ltV (h3 j v hj)) (h3 j v hj) n os⟩
  show grow (grow ((W.drewN m).drewN n) os0) os = _
  rw [grow_grow, World.drewN_drewN]
theorem PtsAt.start (W : World) (p q : Pt) : PtsAt W W.heap.size p q ((W.alloc (.cells p.cells.toArray 60)).alloc (.cells q.cells.toArray 60)) := by
  have k1 : ((W.alloc (.cells p.cells.toArray 60)).alloc (.cells q.cells.toArray 60)).heap[W.heap.size]? = some (.cells p.cells.toArray 60 (0, 0)) := (Below.heap_alloc _ _ _ (by simp)).trans (alloc_new W _)
  have k2 : ((W.alloc (.cells p.cells.toArray 60)).alloc (.cells q.cells.toArray 60)).heap[W.heap.size + 1]? = some (.cells q.cells.toArray 60 (0, 0)) := by
    have := alloc_new (W.alloc (.cells p.cells.toArray 60)) (.cells q.cells.toArray 60)
    rwa [World.size_alloc] at this
  refine ⟨⟨0, _, by rw [alloc_eq_grow, alloc_eq_grow, grow_grow]; rfl⟩, fun j v hj => ?_, fun j v hj => ?_⟩
  · simp only [World.cell?, k1]; simpa using hj
  · simp only [World.cell?, k2]; simpa using hj
theorem PtsAt.at {W : World} {b : Nat} {p q : Pt} {w : World} (h : PtsAt W b p q w) : w.cell? ⟨b, 0, none⟩ = some (u8 p.tx.b0) ∧ w.cell? ⟨b, 1, none⟩ = some (u8 p.tx.b1) ∧ w.cell? ⟨b, 2, none⟩ = some (u8 p.tx.b2) ∧ w.cell? ⟨b, 3, none⟩ = some (u8 p.tx.b3) ∧ w.cell? ⟨b, 4, none⟩ = some (u8 p.tx.b4) ∧ w.cell? ⟨b, 5, none⟩ = some (u8 p.tx.b5) ∧ w.cell? ⟨b, 6, none⟩ = some (u8 p.tx.b6) ∧ w.cell? ⟨b, 7, none⟩ = some (u8 p.tx.b7) ∧ w.cell? ⟨b, 8, none⟩ = some (i64 p.no) ∧ w.cell? ⟨b + 1, 0, none⟩ = some (u8 q.tx.b0) ∧ w.cell? ⟨b + 1, 1, none⟩ = some (u8 q.tx.b1) ∧ w.cell? ⟨b + 1, 2, none⟩ = some (u8 q.tx.b2) ∧ w.cell? ⟨b + 1, 3, none⟩ = some (u8 q.tx.b3) ∧ w.cell? ⟨b + 1, 4, none⟩ = some (u8 q.tx.b4) ∧ w.cell? ⟨b + 1, 5, none⟩ = some (u8 q.tx.b5) ∧ w.cell? ⟨b + 1, 6, none⟩ = some (u8 q.tx.b6) ∧ w.cell? ⟨b + 1, 7, none⟩ = some (u8 q.tx.b7) ∧ w.cell? ⟨b + 1, 8, none⟩ = some (i64 q.no) := ⟨h.2.1 0 _ rfl, h.2.1 1 _ rfl, h.2.1 2 _ rfl, h.2.1 3 _ rfl, h.2.1 4 _ rfl, h.2.1 5 _ rfl, h.2.1 6 _ rfl, h.2.1 7 _ rfl, h.2.1 8 _ rfl, h.2.2 0 _ rfl, h.2.2 1 _ rfl, h.2.2 2 _ rfl, h.2.2 3 _ rfl, h.2.2 4 _ rfl, h.2.2 5 _ rfl, h.2.2 6 _ rfl, h.2.2 7 _ rfl, h.2.2 8 _ rfl⟩
set_option maxHeartbeats 4000000 in
set_option maxRecDepth 100000 in
theorem order_calls (hcmp : ∀ (x y : Int) (w : World), Calls Tryz.prog 118 #[.int .i64 x, .int .i64 y] w fun e w' => e = .returned (.int .i64 (compareInt x y)) ∧ w' = w) (p q : Pt) (W : World) : Calls Tryz.prog 88 #[.agg p.cells.toArray, .agg q.cells.toArray] W fun e w' => e = .returned (.int .i64 (ordI p q)) ∧ ∃ q os', w' = grow (W.drewN q) os' := by
  have h1 : ∀ w, PtsAt W W.heap.size p q w → Calls Tryz.prog 117 #[.agg p.tx.cells.toArray, .agg q.tx.cells.toArray] w fun e w' => e = .returned (.bool (decide (compareBytes p.tx.l q.tx.l < 0))) ∧ PtsAt W W.heap.size p q w' :=
    fun w h => (hashLess_calls p.tx q.tx w).mono fun _ _ ⟨he, n, os, hw⟩ => ⟨he, hw ▸ h.more n os⟩
  have h2 : ∀ w, PtsAt W W.heap.size p q w → Calls Tryz.prog 117 #[.agg q.tx.cells.toArray, .agg p.tx.cells.toArray] w fun e w' => e = .returned (.bool (decide (compareBytes q.tx.l p.tx.l < 0))) ∧ PtsAt W W.heap.size p q w' :=
    fun w h => (hashLess_calls q.tx p.tx w).mono fun _ _ ⟨he, n, os, hw⟩ => ⟨he, hw ▸ h.more n os⟩
  have h3 := fun W => hcmp p.no.toInt q.no.toInt W
  have h0 := PtsAt.start W p q
  have hat : ∀ w, PtsAt W W.heap.size p q w → _ := fun w h => h.at
  have hend : ∀ w, PtsAt W W.heap.size p q w → ∃ n os, w = grow (W.drewN n) os := fun w h => h.1
  unfold ordI
  generalize hr1 : compareBytes p.tx.l q.tx.l = r1 at h1 ⊢
  generalize hr2 : compareBytes q.tx.l p.tx.l = r2 at h2 ⊢
  generalize compareInt p.no.toInt q.no.toInt = r3 at h3 ⊢
  clear hcmp hr1 hr2
  obtain ⟨⟨x0, x1, x2, x3, x4, x5, x6, x7⟩, xn⟩ := p
  obtain ⟨⟨y0, y1, y2, y3, y4, y5, y6, y7⟩, yn⟩ := q
  generalize PtsAt W W.heap.size _ _ = PA at *
  dsimp only [Pt.cells, H8.cells] at *
  go_enter Tryz.func88, Tryz.ntmps88
  go_wp2_with (first
    | (go_at_call 117; refine (h1 _ h0).mono ?_; clear h1; rintro e w1 ⟨rfl, hP1⟩; obtain ⟨c0, c1, c2, c3, c4, c5, c6, c7, c8, c9, c10, c11, c12, c13, c14, c15, c16, c17⟩ := hat _ hP1)
    | (go_at_call 117; refine (h2 _ hP1).mono ?_; clear h2; rintro e w2 ⟨rfl, hP2⟩; obtain ⟨d0, d1, d2, d3, d4, d5, d6, d7, d8, d9, d10, d11, d12, d13, d14, d15, d16, d17⟩ := hat _ hP2)
    | (go_at_call 118; refine (h3 _).mono ?_; clear h3; rintro e w' ⟨rfl, rfl⟩))
  · go_ret
    exact ⟨rfl, hend _ hP1⟩
  · go_ret
    exact ⟨rfl, hend _ hP2⟩
  · go_ret
    exact ⟨rfl, hend _ hP2⟩
end Go.Proofs.YtmoohekgheoliaaGreatDoor
namespace Go.Proofs.YtmoohekgheoliaaGreatDoor
set_option maxRecDepth 100000
open Go.RowKit Go.Lib Go.Sort Go.MapKept
theorem inj_of_nodup {α β : Type} (f : α → β) : ∀ {l : List α}, (l.map f).Nodup → ∀ x ∈ l, ∀ y ∈ l, f x = f y → x = y
  | [], _, x, hx, _, _, _ => by cases hx
  | a :: l, h, x, hx, y, hy, e => by
    rw [List.map_cons, List.nodup_cons] at h
    rcases List.mem_cons.1 hx with rfl | hx' <;> rcases List.mem_cons.1 hy with rfl | hy'
    · rfl
    · exact absurd (List.mem_map.2 ⟨y, hy', e.symm⟩) h.1
    · exact absurd (List.mem_map.2 ⟨x, hx', e⟩) h.1
    · exact inj_of_nodup f h.2 x hx' y hy' e
section
variable {F : Fence} {n : Nat} {P : Program} (w : World) {ops : Array Oper} {rest : List Oper} {o : Oper} {a : Act} {Q : Exit → Act → World → Prop}
structure Walk (w : World) (b r : Nat) (es : Array MapEntry) (clock : Nat) (done : List MapEntry) : Prop where
  ne : r ≠ b
  map : w.heap[b]? = some (.map es clock)
  it : ∃ since seen c0, w.heap[r]? = some (.mapIter (some b) since seen c0) ∧ (∀ x ∈ es.toList, x.born < since) ∧ since ≤ c0 ∧ since ≤ clock ∧ seen.toList = done.map (·.born)
  sub : ∀ e ∈ done, e ∈ es.toList
  nodup : (done.map (·.born)).Nodup
theorem Walk.of_walks {w w' : World} {b r : Nat} {es : Array MapEntry} {clock : Nat} {done : List MapEntry} (h : Walk w b r es clock done) (hk : KeepsWalks w w') : Walk w' b r es clock done := by
  obtain ⟨h0, h1, ⟨since, seen, c0, h2, h3⟩, h4, h5⟩ := h
  exact ⟨h0, hk.same b _ h1 rfl, ⟨since, seen, c0, hk.same r _ h2 rfl, h3⟩, h4, h5⟩
theorem Walk.iter {w : World} {b r : Nat} {es : Array MapEntry} {clock : Nat} {done : List MapEntry} (h : Walk w b r es clock done) : ∃ o : Obj, w.heap[r]? = some o ∧ o.isWalk = true := by
  obtain ⟨_, _, ⟨since, seen, c0, h2, _⟩, _, _⟩ := h
  exact ⟨_, h2, rfl⟩
theorem Walk.left_eq {w : World} {b r : Nat} {es : Array MapEntry} {clock : Nat} {done : List MapEntry} (h : Walk w b r es clock done) {since c0 : Nat} {seen : Array Nat} (h2 : w.heap[r]? = some (.mapIter (some b) since seen c0)) : w.rangeLeft b r = (leftOf es seen).size := by
  simp [World.rangeLeft, h.map, h2]
theorem Walk.left_walks {w w' : World} {b r : Nat} {es : Array MapEntry} {clock : Nat} {done : List MapEntry} (h : Walk w b r es clock done) (hk : KeepsWalks w w') : w'.rangeLeft b r = w.rangeLeft b r := by
  obtain ⟨h0, h1, ⟨since, seen, c0, h2, h3⟩, h4, h5⟩ := h
  simp [World.rangeLeft, h1, h2, hk.same b _ h1 rfl, hk.same r _ h2 rfl]
theorem wpListIn_range_raw (hg : o.guard = none) (m : Operand) (t : TypeId) (hop : o.op = Op.range t m) (k e : TypeId) (ht : P.underlying t = some (.map k e)) (b : Nat) (es : Array MapEntry) (clock : Nat)
    (hm : a.eval m = .map (some b)) (hb : w.heap[b]? = some (.map es clock)) (hst : Stamped es clock)
    (hK : ∀ w', Walk w' b w.heap.size es clock [] → w.grownBy w' none → w'.heap.size = w.heap.size + 1 → wpListIn F n P ops Q rest (a.put o.dst (.pointer (some ⟨w.heap.size, 0, none⟩))) w') :
    wpListIn F n P ops Q (o :: rest) a w := by
  refine wpListIn_plain hg fun K' hK' => ?_
  have hrun := run_range_map (P := P) w t k e b es clock ht hb
  have hlt : b < w.heap.size := (Array.getElem?_eq_some_iff.1 hb).1
  unfold Oper.wpIn
  refine ⟨?_, ?_⟩
  · simp [Oper.about, hop]
  · rw [Oper.semAt_plain F _ _ (by rw [hop]; intro c hc'; cases hc')]
    simp [execOp, hop, hm, hrun, Result.andThen]
    refine hK' _ _ (hK _ ⟨by omega, (Below.heap_alloc _ _ _ hlt).trans hb, ⟨clock, #[], clock, alloc_new _ _, ((stamped_iff es clock).1 hst).1, Nat.le_refl _, Nat.le_refl _, rfl⟩, by simp, by simp⟩ (World.grownBy_alloc w _ none) (by simp))
theorem wpListIn_next_raw (hg : o.guard = none) (it : Operand) (hop : o.op = Op.next it false) (b r : Nat) (es : Array MapEntry) (clock : Nat) (done : List MapEntry) (hst : Stamped es clock)
    (hit : a.eval it = .pointer (some ⟨r, 0, none⟩)) (h : Walk w b r es clock done)
    (hDone : (∀ e ∈ es.toList, e ∈ done) → wpListIn F n P ops Q rest (a.put o.dst (.tuple #[.bool false])) w)
    (hMore : ∀ (e : MapEntry) (w' : World), e ∈ es.toList → e ∉ done → Walk w' b r es clock (done ++ [e]) → w'.rangeLeft b r < w.rangeLeft b r → w.grownBy w' (some r) → w'.heap.size = w.heap.size →
      (Instr.entry (.pointer (some ⟨r, 0, none⟩))).run P w' = .ok (.tuple #[e.key, e.val]) w' → wpListIn F n P ops Q rest (a.put o.dst (.tuple #[.bool true, e.key, e.val])) w') :
    wpListIn F n P ops Q (o :: rest) a w := by
  refine wpListIn_plain hg fun K' hK' => ?_
  unfold Oper.wpIn
  refine ⟨by simp [Oper.about, hop], ?_⟩
  rw [Oper.semAt_plain F _ _ (by rw [hop]; intro c hc'; cases hc')]
  have hborn := ((stamped_iff es clock).1 hst).2.1
  have hW := h
  obtain ⟨hne, hb, ⟨since, seen, c0, hr, hold, hsc, hsk, hseen⟩, hsub, hnd⟩ := h
  have hcont : ∀ x, seen.contains x = true ↔ x ∈ done.map (·.born) := fun x => by rw [Array.contains_iff_mem, ← Array.mem_toList_iff, hseen]
  have hinj : ∀ x ∈ es.toList, ∀ y ∈ es.toList, x.born = y.born → x = y := inj_of_nodup _ hborn
  rcases run_next_at (P := P) w o.type r b since c0 seen es clock hr hb hold hsc with ⟨h0, hrun⟩ | ⟨e, he, w1, hal, hrun⟩
  · simp [execOp, hop, hit, hrun, Result.andThen]
    refine hK' _ _ (hDone fun e he => ?_)
    have := (hcont _).1 (all_seen es seen h0 e he)
    obtain ⟨d, hd, hde⟩ := List.mem_map.1 this
    exact hinj d (hsub d hd) e he hde ▸ hd
  · obtain ⟨hem, hes⟩ := mem_left he
    have hr1 : w1.heap[r]? = some (.mapIter (some b) since seen c0) := by rcases hal with rfl | rfl <;> exact hr
    have hb1 : w1.heap[b]? = some (.map es clock) := by rcases hal with rfl | rfl <;> exact hb
    have hset := heap_set (o' := .mapIter (some b) since (seen.push e.born) clock) hr1
    have hb' := (hset.2 b (fun e1 => hne e1.symm)).trans hb1
    have hnew : e.born ∉ done.map (·.born) := fun hx => by rw [(hcont _).2 hx] at hes; cases hes
    have hwalk : Walk (Go.ChangeMaps.setBlock w1 r (.mapIter (some b) since (seen.push e.born) clock)) b r es clock (done ++ [e]) := by
      refine ⟨hne, hb', ⟨since, seen.push e.born, clock, hset.1, hold, hsk, hsk, by simp [hseen]⟩, fun x hx => ?_, ?_⟩
      · rcases List.mem_append.1 hx with hx | hx
        · exact hsub x hx
        · simp at hx; subst hx; exact hem
      · rw [List.map_append]
        refine List.nodup_append.2 ⟨hnd, by simp, fun x hx y hy => ?_⟩
        simp at hy; subst hy
        exact fun e => hnew (e ▸ hx)
    simp [execOp, hop, hit, hrun, Result.andThen]
    refine hK' _ _ (hMore e _ hem (fun hx => hnew (List.mem_map.2 ⟨e, hx, rfl⟩)) hwalk ?_ ?_ ?_ (run_entry_at _ r b since seen es clock e hset.1 hb' hem hborn))
    · rw [hwalk.left_eq hset.1, hW.left_eq hr]; exact left_shrinks es seen e he
    · rcases hal with rfl | rfl <;> exact ⟨rfl, rfl, rfl, by simp [Go.ChangeMaps.setBlock], fun i _ hi => hset.2 i (fun e1 => hi (by rw [e1]))⟩
    · rcases hal with rfl | rfl <;> simp [Go.ChangeMaps.setBlock]
end
theorem len_le {α : Type} [DecidableEq α] : ∀ {l l' : List α}, l.Nodup → (∀ x ∈ l, x ∈ l') → l.length ≤ l'.length
  | [], _, _, _ => Nat.zero_le _
  | a :: r, l', h, hs => by
    rw [List.nodup_cons] at h
    have ha := hs a (by simp)
    have := len_le (l := r) (l' := l'.erase a) h.2 (fun x hx => (List.mem_erase_of_ne (fun (e : x = a) => h.1 (e ▸ hx))).2 (hs x (by simp [hx])))
    rw [List.length_erase_of_mem ha] at this
    have : 0 < l'.length := List.length_pos_of_mem ha
    simp; omega
theorem nodup_of_map {α β : Type} (f : α → β) : ∀ {l : List α}, (l.map f).Nodup → l.Nodup
  | [], _ => List.nodup_nil
  | a :: r, h => by
    rw [List.map_cons, List.nodup_cons] at h
    exact List.nodup_cons.2 ⟨fun hx => h.1 (List.mem_map.2 ⟨a, hx, rfl⟩), nodup_of_map f h.2⟩
theorem came_perm {es : List MapEntry} {pc : List (Pt × Coin)} {done : List MapEntry} {ss : List Pt} (hb : (es.map (·.born)).Nodup) (hk : (es.map (·.key)).Nodup) (hpc : es.map (fun e => (e.key, e.val)) = pc.map fun x => (x.1.v, x.2.v))
    (hsub : ∀ e ∈ done, e ∈ es) (hnd : (done.map (·.born)).Nodup) (hds : done.map (·.key) = ss.map Pt.v) (hall : ∀ e ∈ es, e ∈ done) : ss.Perm (pc.map (·.1)) := by
  have h1 : done.Perm es := (List.perm_ext_iff_of_nodup (nodup_of_map _ hnd) (nodup_of_map _ hb)).2 fun e => ⟨hsub e, hall e⟩
  have h2 : es.map (·.key) = (pc.map (·.1)).map Pt.v := by
    have := congrArg (List.map Prod.fst) hpc
    simpa [List.map_map, Function.comp_def] using this
  have h3 : (ss.map Pt.v).Perm ((pc.map (·.1)).map Pt.v) := by rw [← hds, ← h2]; exact h1.map _
  have h4 : (ss.map Pt.v).Nodup := by rw [← hds]; exact (h1.map _).nodup_iff.2 hk
  have h5 : ((pc.map (·.1)).map Pt.v).Nodup := by rw [← h2]; exact hk
  refine (List.perm_ext_iff_of_nodup (nodup_of_map _ h4) (nodup_of_map _ h5)).2 fun p => ?_
  have h6 : ∀ l : List Pt, p ∈ l ↔ p.v ∈ l.map Pt.v := fun l => ⟨fun h => List.mem_map.2 ⟨p, h, rfl⟩, fun h => by obtain ⟨q, hq, e⟩ := List.mem_map.1 h; exact Pt.inj _ _ e ▸ hq⟩
  rw [h6, h6, h3.mem_iff]
set_option maxRecDepth 100000 in
set_option maxHeartbeats 2000000 in
theorem ptKeys1_in (F : Fence) (n : Nat) (h39 : F.fn 116) (hro : F.round = none) (hn : 1 ≤ n) (l Bm b : Nat) (es : Array MapEntry) (clock : Nat) (hst : Stamped es clock) (pc : List (Pt × Coin))
    (hpc : es.toList.map (fun e => (e.key, e.val)) = pc.map fun x => (x.1.v, x.2.v)) (J : List Pt → World → Prop)
    (hY : ∀ pre x W, J pre W → pre.length < pc.length → YieldAt F (n - 1) Tryz.prog l #[x.v] W fun e W' => e = .returned (.bool true) ∧ J (pre ++ [x]) W' ∧ KeepsWalks W W')
    (W : World) (hJ : AbidesFrom W.heap.size J) (hm : W.cell? ⟨Bm, 0, none⟩ = some (.map (some b))) (hb : W.heap[b]? = some (.map es clock)) (h0 : J [] W) :
    CallsIn F n Tryz.prog 116 #[.func (.yield l) #[] #[], .pointer (some ⟨Bm, 0, none⟩)] W fun e W' => (∃ v, e = .returned v) ∧ ∃ ss : List Pt, ss.Perm (pc.map (·.1)) ∧ J ss W' := by
  have hkeys : ∀ e ∈ es.toList, ∃ x ∈ pc, e.key = x.1.v ∧ e.val = x.2.v := fun e he => by
    have : (e.key, e.val) ∈ es.toList.map (fun e => (e.key, e.val)) := List.mem_map.2 ⟨e, he, rfl⟩
    rw [hpc] at this
    obtain ⟨x, hx, e1⟩ := List.mem_map.1 this
    simp only [Prod.mk.injEq] at e1
    exact ⟨x, hx, e1.1.symm, e1.2.symm⟩
  have hlen : es.toList.length = pc.length := by have := congrArg List.length hpc; simpa using this
  have hst' := (stamped_iff es clock).1 hst
  refine callsIn_of_wp Tryz.func116 rfl h39 ?_ hro
  simp only [Tryz.ntmps116, List.size_toArray, List.length_cons, List.length_nil, Nat.reduceAdd, Nat.reduceSub, Array.replicate_succ, Array.replicate_zero, List.push_toArray, List.append_toArray, List.nil_append, List.cons_append]
  gi_wp2_with (first
    | (gi_at_range; refine wpListIn_range_raw _ rfl _ 102 rfl 60 69 coin_map b es clock rfl hb hst ?_; intro w0 hrg0 hg0 hs0)
    | gi_in)
  go_frame
  gi_loopw [3] (fun _ wr => ∃ (done : List MapEntry) (ss : List Pt), Walk wr b W.heap.size es clock done ∧ done.map (·.key) = ss.map Pt.v ∧ J ss wr)
    (fun _ wr => wr.rangeLeft b W.heap.size)
  case atStart =>
    exact ⟨[], [], hrg0, rfl, hJ [] W w0 none h0 hg0 (fun r e => by cases e)⟩
  case round =>
    obtain ⟨done, ss, hrg, hds, hJs⟩ := hrel
    gi_wp2_with (first
      | (gi_at_next; refine wpListIn_next_raw _ rfl _ rfl b W.heap.size es clock done hst rfl hrg ?_ ?_)
      | gi_in)
    · intro hall
      gi_wp2
      go_end0
      have hkn : (es.toList.map (·.key)).Nodup := List.pairwise_map.2 hst'.2.2
      exact ⟨⟨_, rfl⟩, ss, came_perm hst'.2.1 hkn hpc hrg.sub hrg.nodup hds (by simpa using hall), hJs⟩
    · intro e w2 hem hnew hrg2 hlt hg2 hs2 hen
      have hem' : e ∈ es.toList := by simpa using hem
      obtain ⟨⟨p, c⟩, hx, ek, ev⟩ := hkeys e hem'
      have hll : (done ++ [e]).length ≤ es.toList.length := by
        have := len_le (l := (done ++ [e]).map (·.born)) (l' := es.toList.map (·.born)) hrg2.nodup (fun x hx => by obtain ⟨y, hy, rfl⟩ := List.mem_map.1 hx; exact List.mem_map.2 ⟨y, hrg2.sub y hy, rfl⟩)
        simpa using this
      have hsl : ss.length < pc.length := by
        have := congrArg List.length hds
        simp at this hll
        simp at hlen
        omega
      have hds2 : (done ++ [e]).map (·.key) = (ss ++ [p]).map Pt.v := by simp [hds, ek]
      have hJ2 : J ss w2 := hJ ss wr w2 (some W.heap.size) hJs hg2 (fun r e => by cases e; exact ⟨Nat.le_refl _, hrg.iter⟩)
      have hJ3 : J ss (w2.alloc (.cells p.cells.toArray 60)) := hJ ss w2 _ none hJ2 (World.grownBy_alloc w2 _ none) (fun r e => by cases e)
      have hk3 : KeepsWalks w2 (w2.alloc (.cells p.cells.toArray 60)) := KeepsWalks.alloc _ _
      have hrg3 := hrg2.of_walks hk3
      obtain ⟨fn, tmps, assign, body, hy, hR⟩ := hY ss p _ hJ3 hsl
      simp only [ek, ev] at hen ⊢
      have hlt3 : (w2.alloc (.cells p.cells.toArray 60)).rangeLeft b W.heap.size < wr.rangeLeft b W.heap.size := by rw [hrg2.left_walks hk3]; exact hlt
      clear hs2 hk3 hJ3 hkeys hx hlt hrg2
      generalize hq : ss ++ [p] = ssp at *
      generalize c.v = cv at *
      obtain ⟨⟨x0, x1, x2, x3, x4, x5, x6, x7⟩, xn⟩ := p
      dsimp only [Pt.v, Pt.cells, YtmoohekgheoliaaGreatDoor.u8, i64] at *
      gi_wp2
      refine hR.mono ?_
      rintro e W3 ⟨rfl, hJ3, hk3⟩
      gi_wp2
      have hlt4 := hrg3.left_walks hk3
      have hrg4 := hrg3.of_walks hk3
      go_roundw
      case rel => exact ⟨_, ssp, hrg4, hds2, hJ3⟩
      case measure => rw [hlt4]; exact hlt3
theorem ptKeys_in (F : Fence) (n : Nat) (h31 : F.fn 87) (hro : F.round = none) (mb : Option Nat) (w : World) :
    CallsIn F n Tryz.prog 87 #[.map mb] w fun e w' => e = .returned (.func (.func 116) #[] #[.pointer (some ⟨w.heap.size, 0, none⟩)]) ∧ w' = w.alloc (.cells #[.map mb] 102) := by
  refine callsIn_of_wp Tryz.func87 rfl h31 ?_ hro
  simp only [Tryz.ntmps87, List.size_toArray, List.length_cons, List.length_nil, Nat.reduceAdd, Nat.reduceSub, Array.replicate_succ, Array.replicate_zero, List.push_toArray, List.append_toArray, List.nil_append, List.cons_append]
  gi_wp2
  go_ret
  exact ⟨rfl, rfl⟩
theorem ptKeys_gives (F : Fence) (n : Nat) (h39 : F.fn 116) (hro : F.round = none) (hn : 1 ≤ n) (Bm b : Nat) (es : Array MapEntry) (clock : Nat) (hst : Stamped es clock) (pc : List (Pt × Coin))
    (hpc : es.toList.map (fun e => (e.key, e.val)) = pc.map fun x => (x.1.v, x.2.v)) (w : World) (hBm : Bm < w.heap.size) (hm : w.cell? ⟨Bm, 0, none⟩ = some (.map (some b))) (hb : w.heap[b]? = some (.map es clock)) :
    SeqGives F n Tryz.prog 116 #[.pointer (some ⟨Bm, 0, none⟩)] Pt.v (fun ss => ss.Perm (pc.map (·.1))) pc.length w := fun l J W hW hJ hY h0 =>
  ptKeys1_in F n h39 hro hn l Bm b es clock hst pc hpc J hY W hJ ((hW.cell (p := ⟨Bm, 0, none⟩) hBm).trans hm) ((hW.block b (Array.getElem?_eq_some_iff.1 hb).1).trans hb) h0
end Go.Proofs.YtmoohekgheoliaaGreatDoor
namespace Go.Proofs.YtmoohekgheoliaaGreatDoor
set_option maxRecDepth 100000
open Go.RowKit Go.Lib Go.Sort Go.MapKept
def loopOf : Code → Option (Code × Code)
  | .rangeFunc _ _ a b => some (a, b)
  | .block _ c => loopOf c
  | .seq a b => match loopOf a with | some x => some x | none => loopOf b
  | _ => none
def apRec (A B : Code) (fn : FuncId) (sv : Value) (Bs D : Nat) (st : LoopState) (pend : Option Code) : Loop :=
  { state := st, pending := pend, fn, tmps := #[.slice none 0 0, sv, .pointer (some ⟨Bs, 0, none⟩), undef, .slice none 0 0, undef, sv, undef, undef, undef, undef, undef, undef], params := #[7], assign := A, body := B, defers := D }
def flatPt (ss : List Pt) : List Value := ss.flatMap Pt.cells
theorem flatPt_len (ss : List Pt) : (flatPt ss).length = ss.length * 9 := by
  induction ss with
  | nil => rfl
  | cons x r ih => simp only [flatPt, List.flatMap_cons, List.length_append, List.length_cons] at ih ⊢; rw [ih]; simp [Pt.cells]; omega
structure ApAt (A B : Code) (w0 : World) (fn : FuncId) (sv : Value) (Bs l D : Nat) (ss : List Pt) (W : World) : Prop where
  box : ∃ v, W.heap[Bs]? = some (.cells #[v] 72 (0, 0)) ∧ W.ownsRow w0.heap.size 60 9 v ss.length (flatPt ss) ∧ (v = .slice none 0 0 ↔ ss = [])
  L : W.heap[l]? = some (.loop (apRec A B fn sv Bs D .ready none))
  K : W.heap[D]? = some (.deferred (some []))
  below : Below w0.heap.size w0 W
theorem ap_abides (A B : Code) (w0 : World) (fn : FuncId) (sv : Value) (Bs l D b : Nat) (hB : w0.heap.size ≤ b) : AbidesFrom b (ApAt A B w0 fn sv Bs l D) := fun s W W' row h hg hrow => by
  have hrow' : ∀ r, row = some r → ∃ o : Obj, W.heap[r]? = some o ∧ o.isWalk = true := fun r e => (hrow r e).2
  obtain ⟨v, hv, hr, hn⟩ := h.box
  exact ⟨⟨v, (grownBy_keeps hg hrow' hv rfl).trans hv, ownsRow_abides_a hr hg hrow', hn⟩, (grownBy_keeps hg hrow' h.L rfl).trans h.L, (grownBy_keeps hg hrow' h.K rfl).trans h.K,
    h.below.grown hg h.below.size (fun k e => Nat.le_trans hB (hrow k e).1)⟩
theorem ap_ne : ((72 : TypeId) ≠ 60) := by decide
theorem ap_under : Tryz.prog.underlying 72 = some (.slice 60) := Tryz.underlying72
theorem ap_info : (Tryz.prog.info? 60).map (fun i => (i.zero, i.size, i.bytes)) = some (some (Pt.v default), 9, 16) := by kernel_rfl
theorem cells_new (W : World) (cs : List Value) (t : TypeId) (j : Nat) (u : Value) (h : cs[j]? = some u) : (W.alloc (.cells cs.toArray t)).cell? ((⟨W.heap.size, 0, none⟩ : Addr).add j) = some u := by
  rw [addr_add]
  simp only [World.cell?, alloc_new]
  simpa using h
set_option maxRecDepth 100000 in
set_option maxHeartbeats 4000000 in
theorem apYield {A B : Code} (hAB : Tryz.f138.body.bind loopOf = some (A, B)) (F : Fence) (m : Nat) (w0 : World) (fn : FuncId) (hfn : F.fn fn) (sv : Value) (Bs l D : Nat) (hBl : Bs ≠ l) (hDl : D ≠ l) (hDB : D ≠ Bs) (h0B : w0.heap.size ≤ Bs) (h0l : w0.heap.size ≤ l)
    (N : Nat) (hN : N ≤ maxLen) (hNb : N * 16 ≤ 140737488355328) (ss : List Pt) (x : Pt) (W : World) (h : ApAt A B w0 fn sv Bs l D ss W) (hlen : ss.length < N) :
    YieldAt F m Tryz.prog l #[x.v] W fun e W' => e = .returned (.bool true) ∧ ApAt A B w0 fn sv Bs l D (ss ++ [x]) W' ∧ KeepsWalks W W' := by
  obtain ⟨i0, hi, hz0, hz1, hz2⟩ := info_parts ap_info
  obtain ⟨v, hv, hrow, _⟩ := h.box
  refine ⟨fn, #[.slice none 0 0, sv, .pointer (some ⟨Bs, 0, none⟩), undef, .slice none 0 0, undef, sv, x.v, undef, undef, undef, undef, undef], A, B, by simpa [apRec] using run_yield (P := Tryz.prog) (args := #[x.v]) h.L rfl, roundIn_of_wpIn hfn ?_⟩
  have hl : l < W.heap.size := (Array.getElem?_eq_some_iff.1 h.L).1
  -- the variable's own block
  obtain ⟨W1, hW1⟩ : ∃ W1, W.alloc (.cells x.cells.toArray 60) = W1 := ⟨_, rfl⟩
  have hg1 : W.grownBy W1 none := by rw [← hW1]; exact World.grownBy_alloc W _ none
  have hk1 : KeepsWalks W W1 := by rw [← hW1]; exact KeepsWalks.alloc _ _
  have hx1 : W1.heap[W.heap.size]? = some (.cells x.cells.toArray 60 (0, 0)) := by rw [← hW1]; exact alloc_new _ _
  have hold1 : ∀ (k : Nat) (o : Obj), W.heap[k]? = some o → W1.heap[k]? = some o := fun k o hk => (hg1.block k (Array.getElem?_eq_some_iff.1 hk).1 (by simp)).trans hk
  have hrow1 : W1.ownsRow w0.heap.size 60 9 v ss.length (flatPt ss) := by rw [← hW1]; exact hrow.alloc _
  have hL1 := hold1 _ _ h.L
  have hbr := run_beginRound (P := Tryz.prog) hL1 rfl
  obtain ⟨W2, hW2⟩ : ∃ W2, W1.putObj l (.loop { apRec A B fn sv Bs D .ready none with state := .busy }) = W2 := ⟨_, rfl⟩
  rw [hW2] at hbr
  have hg2 : W1.grownBy W2 (some l) := by rw [← hW2]; exact grownBy_putObj_a _ _ _
  have hk2 : KeepsWalks W W2 := hk1.trans (by rw [← hW2]; exact KeepsWalks.putObj _ hL1 rfl)
  have hv2 : W2.heap[Bs]? = some (.cells #[v] 72 (0, 0)) := by rw [← hW2]; exact (World.putObj_heap_other hBl).trans (hold1 _ _ hv)
  have hK2 : W2.heap[D]? = some (.deferred (some [])) := by rw [← hW2]; exact (World.putObj_heap_other hDl).trans (hold1 _ _ h.K)
  have hl1 : l < W1.heap.size := (Array.getElem?_eq_some_iff.1 hL1).1
  have hx2 : W2.heap[W.heap.size]? = some (.cells x.cells.toArray 60 (0, 0)) := by rw [← hW2]; exact (World.putObj_heap_other (by omega)).trans hx1
  have hL2 : W2.heap[l]? = some (.loop { apRec A B fn sv Bs D .ready none with state := .busy }) := by rw [← hW2]; exact World.putObj_heap_same hl1
  have hrow2 : W2.ownsRow w0.heap.size 60 9 v ss.length (flatPt ss) := hrow1.kept hg2 (ownsRow_ne_a hrow1 hL1 (fun cur e => by first | cases e | exact ap_ne (Obj.cells.inj e).2.1))
  have hb1 : Below w0.heap.size w0 W1 := by rw [← hW1]; exact h.below.alloc h.below.size _
  have hb2 : Below w0.heap.size w0 W2 := hb1.grown hg2 hb1.size (fun k e => by cases e; exact h0l)
  obtain ⟨hc2, hf2⟩ := cell_of_box_a hv2
  have hBlt : Bs < W2.heap.size := (Array.getElem?_eq_some_iff.1 hv2).1
  have hl2 : l < W2.heap.size := (Array.getElem?_eq_some_iff.1 hL2).1
  have hDlt : D < W2.heap.size := (Array.getElem?_eq_some_iff.1 hK2).1
  have ne_of : ∀ {j : Nat} {o : Obj}, W2.heap[j]? = some o → (∀ cur, o ≠ .cells cur 60 (0, 0)) → some j ≠ v.ownBlock := fun hj hno => by
    rcases ownsRow_ne_a hrow2 hj hno with e | e
    · rw [e]; simp
    · exact fun e' => e e'.symm
  have hxc : ∀ j u, x.cells[j]? = some u → W2.cell? ⟨W.heap.size, j, none⟩ = some u := fun j u hj => by simp only [World.cell?, hx2]; simpa using hj
  have hx0 := hxc 0 _ rfl
  have hxa := hxc 1 _ rfl
  have hxb := hxc 2 _ rfl
  have hxd := hxc 3 _ rfl
  have hxe := hxc 4 _ rfl
  have hxf := hxc 5 _ rfl
  have hxg := hxc 6 _ rfl
  have hxh := hxc 7 _ rfl
  have hxi := hxc 8 _ rfl
  have hnew := cells_new W2 x.cells 60
  have hone : ∀ u ∈ x.cells, u.oneCell' = true := fun u hu => by simp [Pt.cells] at hu; rcases hu with rfl | rfl | rfl | rfl | rfl | rfl | rfl | rfl | rfl <;> rfl
  have hflat : flatPt (ss ++ [x]) = flatPt ss ++ x.cells := by simp [flatPt]
  have hss : (ss ++ [x]).length = ss.length + 1 := by simp
  have hnil : ss ++ [x] ≠ [] := by simp
  rw [← hW1] at hbr
  have hendR : ∀ W', W'.heap[l]? = some (.loop { apRec A B fn sv Bs D .ready none with state := .busy }) → (Instr.endRound l none).run Tryz.prog W' = .ok (.bool true) (W'.putObj l (.loop (apRec A B fn sv Bs D .ready none))) := fun W' h' => run_endRound none h'
  have hmk : ∀ W' v', W'.heap[Bs]? = some (.cells #[v'] 72 (0, 0)) → W'.ownsRow w0.heap.size 60 9 v' (ss.length + 1) (flatPt ss ++ x.cells) → v' ≠ .slice none 0 0 → W'.heap[l]? = some (.loop (apRec A B fn sv Bs D .ready none)) → W'.heap[D]? = some (.deferred (some [])) → Below w0.heap.size w0 W' → ApAt A B w0 fn sv Bs l D (ss ++ [x]) W' :=
    fun W' v' q1 q2 q3 q4 q5 q6 => ⟨⟨v', q1, by rw [hss, hflat]; exact q2, ⟨fun e => absurd e q3, fun e => absurd e hnil⟩⟩, q4, q5, q6⟩
  have hoB : ∀ cur t, (Obj.loop { apRec A B fn sv Bs D .ready none with state := .busy }) ≠ .cells cur t (0, 0) := fun _ _ e => by cases e
  have hwB : (Obj.loop { apRec A B fn sv Bs D .ready none with state := .busy }).isWalk = false := rfl
  clear hW2 hW1 hxc hx1 hx2 hL1 hold1 hflat hss
  generalize (Obj.loop { apRec A B fn sv Bs D .ready none with state := .busy }) = oB at *
  generalize (Obj.loop (apRec A B fn sv Bs D .ready none)) = oR at *
  generalize ApAt A B w0 fn sv Bs l D (ss ++ [x]) = PA at *
  clear h
  obtain ⟨⟨x0, x1, x2, x3, x4, x5, x6, x7⟩, xn⟩ := x
  dsimp only [Pt.v, Pt.cells, YtmoohekgheoliaaGreatDoor.u8, i64] at *
  simp only [Tryz.f138, Option.bind_some, loopOf, Option.some.injEq, Prod.mk.injEq] at hAB
  obtain ⟨rfl, rfl⟩ := hAB
  gi_wp2_with gi_round_op_a
  refine ⟨W2, hbr, ?_⟩
  gi_wp2_with (first
    | (gi_at_builtin; refine wpListIn_append_own _ rfl _ _ 72 rfl w0.heap.size 60 i0 _ 9 16 ap_under hi hz0 hz1 hz2 rfl (by decide) _ _ _ rfl (hrow2.alloc _) ⟨W2.heap.size, 0, none⟩ 1 1 [.int .u8 x0.toNat, .int .u8 x1.toNat, .int .u8 x2.toNat, .int .u8 x3.toNat, .int .u8 x4.toNat, .int .u8 x5.toNat, .int .u8 x6.toNat, .int .u8 x7.toNat, .int .i64 xn.toInt] rfl rfl hnew hone (by omega) (by omega) (by have := hb2.size; simp; omega) ?_; intro v' w3 hown' hg3 hnil3
       have hv3 : w3.heap[Bs]? = some (.cells #[v] 72 (0, 0)) := (hg3.block Bs (by simp; omega) (ne_of hv2 (fun cur e => by first | cases e | exact ap_ne (Obj.cells.inj e).2.1))).trans ((Below.heap_alloc _ _ Bs hBlt).trans hv2)
       obtain ⟨hc3, hf3⟩ := cell_of_box_a hv3
       obtain ⟨g', cap', cur', rfl, hbase', hgb', hr1, hr2, hr3, hr4⟩ : ∃ g' cap' cur', v' = .slice (some ⟨g', 0, none⟩) (ss.length + 1) cap' ∧ w0.heap.size ≤ g' ∧ w3.heap[g']? = some (.cells cur' 60 (0, 0)) ∧ ss.length + 1 ≤ cap' ∧ cap' ≤ maxLen ∧ cur'.size = cap' * 9 ∧ cur'.toList.take ((ss.length + 1) * 9) = flatPt ss ++ [.int .u8 x0.toNat, .int .u8 x1.toNat, .int .u8 x2.toNat, .int .u8 x3.toNat, .int .u8 x4.toNat, .int .u8 x5.toNat, .int .u8 x6.toNat, .int .u8 x7.toNat, .int .i64 xn.toInt] := by
         rcases hown'.2 with ⟨_, h0⟩ | h'
         · exact absurd h0 (by omega)
         · exact h'
       go_frame)
    | gi_round_op_a)
  have hg3' : W2.grownBy w3 v.ownBlock := (World.grownBy_alloc W2 _ _).trans hg3
  have hL3 : w3.heap[l]? = some oB := (hg3'.block l hl2 (ne_of hL2 (fun cur => hoB cur _))).trans hL2
  have hK3 : w3.heap[D]? = some (.deferred (some [])) := (hg3'.block D hDlt (ne_of hK2 (fun cur e => by cases e))).trans hK2
  have hk3 : KeepsWalks W2 w3 := KeepsWalks.of_grownBy hg3' (ownsRow_not_walk_a hrow2)
  have hb3 : Below w0.heap.size w0 w3 := hb2.grown hg3' hb2.size (fun k e => (hrow2.lt k e).1)
  obtain ⟨w4, hw4⟩ : ∃ w4, w3.setCell ⟨Bs, 0, none⟩ (.slice (some ⟨g', 0, none⟩) (ss.length + 1) cap') = w4 := ⟨_, rfl⟩
  rw [hw4]
  have hg4 : w3.grownBy w4 (some Bs) := by rw [← hw4]; exact grownBy_setCell0_a _ _ _
  have hv4 : w4.heap[Bs]? = some (.cells #[.slice (some ⟨g', 0, none⟩) (ss.length + 1) cap'] 72 (0, 0)) := by rw [← hw4]; exact heap_setCell_box_a _ hv3
  have hL4 : w4.heap[l]? = some oB := (hg4.block l (Array.getElem?_eq_some_iff.1 hL3).1 (fun e => hBl (by cases e; rfl))).trans hL3
  have hK4 : w4.heap[D]? = some (.deferred (some [])) := (hg4.block D (Array.getElem?_eq_some_iff.1 hK3).1 (fun e => hDB (by cases e; rfl))).trans hK3
  have hrow4 := hown'.kept hg4 (ownsRow_ne_a hown' hv3 (fun cur e => by first | cases e | exact ap_ne (Obj.cells.inj e).2.1))
  have hl4 : l < w4.heap.size := (Array.getElem?_eq_some_iff.1 hL4).1
  have hb4 : Below w0.heap.size w0 w4 := hb3.grown hg4 hb3.size (fun k e => by cases e; exact h0B)
  have hk4 : KeepsWalks W w4 := (hk2.trans hk3).trans (by rw [← hw4]; exact KeepsWalks.setCell _ _ _)
  clear hw4
  refine ⟨_, _, hendR _ hL4, rfl, hmk _ _ ((World.putObj_heap_other hBl).trans hv4) ?_ (by simp) (World.putObj_heap_same hl4) ((World.putObj_heap_other hDl).trans hK4) (hb4.grown (grownBy_putObj_a _ _ _) hb4.size (fun k e => by cases e; exact h0l)), hk4.trans (KeepsWalks.putObj _ hL4 hwB)⟩
  exact hrow4.kept (grownBy_putObj_a w4 l oR) (ownsRow_ne_a hrow4 hL4 (fun cur => hoB cur _))
set_option maxRecDepth 100000 in
set_option maxHeartbeats 4000000 in
theorem appendSeq_in (F : Fence) (n : Nat) (h44 : F.fn 138) (hro : F.round = none) (hn : 2 ≤ n) (g : Nat) (lb : Array Value) (hFg : F.fn g) (eg : ∀ args w, (callFunc g args).run Tryz.prog w = .ok (.enter g args) w)
    (S : List Pt → Prop) (N : Nat) (hN : N ≤ maxLen) (hNb : N * 16 ≤ 140737488355328) (w : World) (hseq : SeqGives F (n - 1) Tryz.prog g lb Pt.v S N w) :
    CallsIn F n Tryz.prog 138 #[.slice none 0 0, .func (.func g) #[] lb] w fun e w' => ∃ (v : Value) (ss : List Pt), e = .returned v ∧ S ss ∧ w'.ownsRow w.heap.size 60 9 v ss.length (flatPt ss) ∧ (v = .slice none 0 0 ↔ ss = []) ∧ Below w.heap.size w w' := by
  have h1 : 1 ≤ n := by omega
  obtain ⟨A, B, hAB⟩ : ∃ A B, Tryz.f138.body.bind loopOf = some (A, B) := ⟨_, _, rfl⟩
  have hAB' := hAB
  simp only [Tryz.f138, Option.bind_some, loopOf, Option.some.injEq, Prod.mk.injEq] at hAB'
  obtain ⟨hA, hB⟩ := hAB'
  refine callsIn_of_wp_marks Tryz.func138 rfl h44 ?_ hro
  simp only [Tryz.ntmps138, List.size_toArray, List.length_cons, List.length_nil, Nat.reduceAdd, Nat.reduceSub, Array.replicate_succ, Array.replicate_zero, List.push_toArray, List.append_toArray, List.nil_append, List.cons_append]
  gi_wp2
  refine wpIn_rangeFunc ?_
  intro fn hfn
  rw [hro, hA, hB]
  clear hA hB
  obtain ⟨W0, hW0⟩ : ∃ W0, w.alloc (.cells #[.slice none 0 0] 72) = W0 := ⟨_, rfl⟩
  have hs0 : W0.heap.size = w.heap.size + 1 := by rw [← hW0]; simp
  have hv0 : W0.heap[w.heap.size]? = some (.cells #[.slice none 0 0] 72 (0, 0)) := by rw [← hW0]; exact alloc_new w _
  have hb0 : Below w.heap.size w W0 := by rw [← hW0]; exact (Below.refl _ w).alloc (Nat.le_refl _) _
  rw [hW0]
  obtain ⟨W1, hW1⟩ : ∃ W1, (W0.alloc (.deferred (some []))).alloc (.loop (apRec A B fn (.func (.func g) #[] lb) w.heap.size W0.heap.size .ready none)) = W1 := ⟨_, rfl⟩
  have hold : ∀ k, k < W0.heap.size → W1.heap[k]? = W0.heap[k]? := fun k hk => by
    rw [← hW1]; exact (Below.heap_alloc _ _ k (by simp; omega)).trans (Below.heap_alloc _ _ k hk)
  have hb1 : Below w.heap.size w W1 := by rw [← hW1]; exact (hb0.alloc hb0.size _).alloc (by have := hb0.size; simp; omega) _
  have hs1 : W1.heap.size = W0.heap.size + 2 := by rw [← hW1]; simp
  have hM : ApAt A B w fn (.func (.func g) #[] lb) w.heap.size (W0.heap.size + 1) W0.heap.size [] W1 :=
    ⟨⟨_, (hold w.heap.size (by omega)).trans hv0, ⟨rfl, .inl ⟨rfl, rfl⟩⟩, by simp⟩,
     by rw [← hW1]; have := alloc_new (W0.alloc (.deferred (some []))) (.loop (apRec A B fn (.func (.func g) #[] lb) w.heap.size W0.heap.size .ready none)); rwa [World.size_alloc] at this,
     by rw [← hW1]; exact (Below.heap_alloc _ _ _ (by simp)).trans (alloc_new W0 _), hb1⟩
  refine ⟨W0.heap.size + 1, [{ target := .collected W0.heap.size, args := #[] }], W1, { target := .fn (.func g) lb, args := #[.func (.yield (W0.heap.size + 1)) #[] #[]] }, W1, g,
    #[.func (.yield (W0.heap.size + 1)) #[] #[]] ++ lb, W1, ?_, ?_, ?_, ?_, fun _ => h1, ?_⟩
  · rw [← hW1]; exact run_enterLoop_outer _ _ _ _ _
  · simp [resolve, go_sem]
  · intro f' hf'; simp [Target.leads] at hf'; subst hf'; exact hFg
  · simp [invoke, go_sem, eg]
  · refine (hseq (W0.heap.size + 1) (ApAt A B w fn (.func (.func g) #[] lb) w.heap.size (W0.heap.size + 1) W0.heap.size) W1 hb1 (ap_abides A B _ _ _ _ _ _ _ hb1.size)
      (fun pre x W hJ hl => apYield hAB F (n - 1 - 1) w fn hfn _ w.heap.size (W0.heap.size + 1) W0.heap.size (by omega) (by omega) (by omega) (Nat.le_refl _) (by omega) N hN hNb pre x W hJ hl) hM).mono ?_
    rintro e W2 ⟨⟨v0, rfl⟩, ss, hS, h2⟩
    obtain ⟨v, hv, hrow, hnil⟩ := h2.box
    have hend := run_endLoop (P := Tryz.prog) h2.L (by simp [apRec])
    obtain ⟨W3, hW3⟩ : ∃ W3, W2.putObj (W0.heap.size + 1) (.loop { apRec A B fn (.func (.func g) #[] lb) w.heap.size W0.heap.size .ready none with state := .exhausted }) = W3 := ⟨_, rfl⟩
    rw [hW3] at hend
    have hg3 : W2.grownBy W3 (some (W0.heap.size + 1)) := by rw [← hW3]; exact grownBy_putObj_a _ _ _
    have hv3 : W3.heap[w.heap.size]? = some (.cells #[v] 72 (0, 0)) := by rw [← hW3]; exact (World.putObj_heap_other (by omega)).trans hv
    have hK3 : W3.heap[W0.heap.size]? = some (.deferred (some [])) := by rw [← hW3]; exact (World.putObj_heap_other (by omega)).trans h2.K
    have hrow3 := hrow.kept hg3 (ownsRow_ne_a hrow h2.L (fun cur e => by cases e))
    have hb3 : Below w.heap.size w W3 := h2.below.grown hg3 h2.below.size (fun k e => by cases e; omega)
    obtain ⟨hc3, hf3⟩ := cell_of_box_a hv3
    clear hW3
    refine ⟨none, W3, hend, ?_⟩
    gi_wp2
    rw [← hs0]
    refine ⟨by simp, .inl ⟨_, _, rfl, run_takeDeferred hK3, ?_⟩⟩
    exact ⟨_, results_tmp rfl _ _ _, v, ss, rfl, hS, hrow3.kept (grownBy_putObj_a _ _ _) (ownsRow_ne_a hrow3 hK3 (fun cur e => by cases e)), hnil, hb3.grown (grownBy_putObj_a _ _ _) hb3.size (fun k e => by cases e; omega)⟩
set_option maxHeartbeats 1000000 in
theorem collect_in (F : Fence) (n : Nat) (h37 : F.fn 114) (h44 : F.fn 138) (hro : F.round = none) (hn : 3 ≤ n) (g : Nat) (lb : Array Value) (hFg : F.fn g) (eg : ∀ args w, (callFunc g args).run Tryz.prog w = .ok (.enter g args) w)
    (S : List Pt → Prop) (N : Nat) (hN : N ≤ maxLen) (hNb : N * 16 ≤ 140737488355328) (w : World) (hseq : SeqGives F (n - 1 - 1) Tryz.prog g lb Pt.v S N w) :
    CallsIn F n Tryz.prog 114 #[.func (.func g) #[] lb] w fun e w' => ∃ (v : Value) (ss : List Pt), e = .returned v ∧ S ss ∧ w'.ownsRow w.heap.size 60 9 v ss.length (flatPt ss) ∧ (v = .slice none 0 0 ↔ ss = []) ∧ Below w.heap.size w w' := by
  have h1 : 1 ≤ n := by omega
  refine callsIn_of_wp Tryz.func114 rfl h37 ?_ hro
  simp only [Tryz.ntmps114, List.size_toArray, List.length_cons, List.length_nil, Nat.reduceAdd, Nat.reduceSub, Array.replicate_succ, Array.replicate_zero, List.push_toArray, List.append_toArray, List.nil_append, List.cons_append]
  gi_wp2_with (gi_at_call 138; refine (appendSeq_in F (n - 1) h44 hro (by omega) g lb hFg eg S N hN hNb _ hseq).mono ?_; rintro e w' ⟨v, ss, rfl, hS, hrow, hnil, hb⟩)
  go_ret
  exact ⟨v, ss, rfl, hS, hrow, hnil, hb⟩
end Go.Proofs.YtmoohekgheoliaaGreatDoor
namespace Go.Proofs.YtmoohekgheoliaaGreatDoor
set_option maxRecDepth 100000
open Go.Lib Go.Sort
theorem cmpB_num : ∀ {a b : List UInt8}, a.length = b.length → (compareBytes a b < 0 ↔ bigL a < bigL b)
  | [], [], _ => by simp [compareBytes, bigL]
  | x :: a, y :: b, hl => by
    have hl' : a.length = b.length := by simpa using hl
    have h := (num_step x y _ _ _ (hl' ▸ bigL_lt a) (bigL_lt b)).1
    simp only [compareBytes, bigL, hl', h, UInt8.lt_iff_toNat_lt]
    by_cases e : x = y
    · subst e; simp [cmpB_num hl']
    · have hne : x.toNat ≠ y.toNat := fun h => e (UInt8.toNat_inj.1 h)
      rcases Nat.lt_or_gt_of_ne hne with h1 | h1
      · simp [h1]
      · have h2 : ¬ x.toNat < y.toNat := by omega
        simp [h1, h2, e]
theorem compareInt_neg (x y : Int) : compareInt x y < 0 ↔ x < y := by
  unfold compareInt
  by_cases h1 : x < y
  · simp [h1]
  · by_cases h2 : y < x <;> simp [h1, h2]
theorem ordI_neg (p q : Pt) : ordI p q < 0 ↔ ltPt p q = true := by
  rw [ltPt_num]
  unfold ordI
  simp only [cmpB_num (a := p.tx.l) (b := q.tx.l) rfl, cmpB_num (a := q.tx.l) (b := p.tx.l) rfl]
  show (if p.num < q.num then (-1 : Int) else if q.num < p.num then 1 else compareInt p.no.toInt q.no.toInt) < 0 ↔ _
  by_cases h1 : p.num < q.num
  · simp [h1]
  · by_cases h2 : q.num < p.num
    · simp [h1, h2]; omega
    · have h3 : p.num = q.num := by omega
      simp [h3, compareInt_neg]
theorem ltOf_ord : ltOf ordI = ltPt := by
  funext p q
  unfold ltOf
  cases h : ltPt p q
  · simp only [decide_eq_false_iff_not, ordI_neg, h]; simp
  · simp only [decide_eq_true_eq, ordI_neg, h]
end Go.Proofs.YtmoohekgheoliaaGreatDoor
