/- utxo.order: how one point stands to another one, out of its own text; whatever it lays is its own. -/
import Derived.Test.YtfdmlpdhngmbiaaUh
import Derived.Lib.Bytealg
import Derived.Laws.Externs
import Derived.Shelf.GgSortFunc.InsertionK
import Derived.Shelf.SlSortCmp.QuietGrown
namespace Go.Proofs.Ytfdmlpdhngmbiaa
open Go.RowKit Go.Lib Go.Sort

theorem addr_add (b o j : Nat) : (⟨b, o, none⟩ : Addr).add j = ⟨b, o + j, none⟩ := by unfold Addr.add; split <;> simp_all
theorem run_loadU8 {P : Program} (w : World) (b : Nat) : ∀ (xs : List UInt8) (o : Nat) (acc : ByteArray), (∀ j x, xs[j]? = some x → w.cell? ⟨b, o + j, none⟩ = some (u8 x)) →
    (Extern.Bytes.loadBytes ⟨b, o, none⟩ xs.length acc).run P w = .ok ⟨acc.data ++ xs.toArray⟩ w
  | [], o, acc, _ => by simp [Extern.Bytes.loadBytes]
  | x :: l, o, acc, h => by
    have h0 : w.cell? ⟨b, o, none⟩ = some (u8 x) := by simpa using h 0 x rfl
    have ih := run_loadU8 (P := P) w b l (o + 1) (acc.push x) (fun j y hy => by
      have := h (j + 1) y (by simpa using hy)
      rw [← this]; congr 2; omega)
    have e : (⟨b, o, none⟩ : Addr).add 1 = ⟨b, o + 1, none⟩ := by simp [Addr.add]
    simp only [List.length_cons, Extern.Bytes.loadBytes, Sem.run_bind, run_load, h0, Result.andThen, u8, e]
    have e2 : (Int.toNat (x.toNat : Int)).toUInt8 = x := by simp
    rw [e2, ih]
    congr 1
    apply ByteArray.ext
    simp [ByteArray.push]

theorem run_compareU8 {P : Program} (w : World) (b1 b2 c1 c2 : Nat) (xs ys : List UInt8) (h1 : ∀ j x, xs[j]? = some x → w.cell? ⟨b1, j, none⟩ = some (u8 x)) (h2 : ∀ j x, ys[j]? = some x → w.cell? ⟨b2, j, none⟩ = some (u8 x)) :
    (Extern.BytealgCompare.compare #[.slice (some ⟨b1, 0, none⟩) xs.length c1, .slice (some ⟨b2, 0, none⟩) ys.length c2]).run P w = .ok (.int .i64 (compareBytes xs ys)) w := by
  change Sem.run P (do pure (goInt (Extern.BytealgCompare.cmp (← Extern.Bytes.bytesOf (.slice (some ⟨b1, 0, none⟩) xs.length c1)) (← Extern.Bytes.bytesOf (.slice (some ⟨b2, 0, none⟩) ys.length c2))))) w = _
  have e1 := run_loadU8 (P := P) w b1 xs 0 .empty (by simpa using h1)
  have e2 := run_loadU8 (P := P) w b2 ys 0 .empty (by simpa using h2)
  simp only [Extern.Bytes.bytesOf, Sem.run_bind, Sem.run_pure, e1, e2, Result.andThen]
  have e3 : ∀ l : List UInt8, ByteArray.empty.data ++ l.toArray = l.toArray := fun l => by show (#[] : Array UInt8) ++ _ = _; simp
  rw [cmp_eq, e3, e3]
  rfl

/-- bytes.Compare of two arrays that lie in blocks of their own. -/
theorem bytesCompare_calls (xs ys : List UInt8) (n m b1 b2 c1 c2 : Nat) (w : World) (hn : xs.length = n) (hm : ys.length = m) (h1 : ∀ j x, xs[j]? = some x → w.cell? ⟨b1, j, none⟩ = some (u8 x)) (h2 : ∀ j x, ys[j]? = some x → w.cell? ⟨b2, j, none⟩ = some (u8 x)) :
    Calls Try.prog 47 #[.slice (some ⟨b1, 0, none⟩) n c1, .slice (some ⟨b2, 0, none⟩) m c2] w fun e w' => e = .returned (.int .i64 (compareBytes xs ys)) ∧ w' = w := by
  subst hn hm
  have hx : (callFunc 59 #[.slice (some ⟨b1, 0, none⟩) xs.length c1, .slice (some ⟨b2, 0, none⟩) ys.length c2]).run Try.prog w = .ok (.value (.int .i64 (compareBytes xs ys))) w := by
    rw [run_callFunc_extern Try.func59 (by kernel_rfl) (by kernel_rfl) (by kernel_rfl) (e := Extern.BytealgCompare.compare) (by kernel_rfl), run_compareU8 w b1 b2 c1 c2 xs ys h1 h2]
    rfl
  go_enter Try.func47, Try.ntmps47
  go_wp2
  go_ret
  exact ⟨rfl, rfl⟩

theorem h8_cell (h : H8) (w : World) (b : Nat) (hb : ∃ t, w.heap[b]? = some (.cells h.cells.toArray t (0, 0))) (j : Nat) (x : UInt8) (hj : h.l[j]? = some x) : w.cell? ⟨b, j, none⟩ = some (u8 x) := by
  obtain ⟨t, hb⟩ := hb
  have e : h.cells = h.l.map u8 := rfl
  simp [World.cell?, hb, e, hj]

theorem alloc_new (w : World) (o : Obj) : (w.alloc o).heap[w.heap.size]? = some o := by show (w.heap.push o)[w.heap.size]? = some o; simp
set_option maxHeartbeats 2000000 in
set_option maxRecDepth 100000 in
/-- hash.Less. -/
theorem hashLess_calls (a b : H8) (W : World) : Calls Try.prog 40 #[.agg a.cells.toArray, .agg b.cells.toArray] W fun e w' => e = .returned (.bool (decide (compareBytes a.l b.l < 0))) ∧ ∃ q os', w' = grow (W.drewN q) os' := by
  obtain ⟨W2, hW2⟩ : ∃ W2, (W.alloc (.cells a.cells.toArray 34)).alloc (.cells b.cells.toArray 34) = W2 := ⟨_, rfl⟩
  have g2 : W2 = grow W #[.cells a.cells.toArray 34, .cells b.cells.toArray 34] := by rw [← hW2, alloc_eq_grow, alloc_eq_grow, grow_grow]; rfl
  have s2 : W2.heap.size = W.heap.size + 2 := by rw [← hW2]; simp
  have k1 : W2.heap[W.heap.size]? = some (.cells a.cells.toArray 34 (0, 0)) := by rw [← hW2]; exact (Below.heap_alloc _ _ _ (by simp)).trans (alloc_new W _)
  have k2 : W2.heap[W.heap.size + 1]? = some (.cells b.cells.toArray 34 (0, 0)) := by rw [← hW2]; have := alloc_new (W.alloc (.cells a.cells.toArray 34)) (.cells b.cells.toArray 34); rwa [World.size_alloc] at this
  have hg : ∀ n os (k : Nat) o, W2.heap[k]? = some o → (grow (W2.drewN n) os).heap[k]? = some o := fun n os k o h => by
    have hk := (Array.getElem?_eq_some_iff.1 h).1
    show ((W2.heap ++ os)[k]?) = _
    rw [Array.getElem?_append_left hk, h]
  have hcon : ∀ n os, Calls Try.prog 47 #[.slice (some ⟨W.heap.size, 0, none⟩) 8 8, .slice (some ⟨W.heap.size + 1, 0, none⟩) 8 8] (grow (W2.drewN n) os) fun e w' => e = .returned (.int .i64 (compareBytes a.l b.l)) ∧ ∃ q os', w' = grow ((grow (W2.drewN n) os).drewN q) os' := fun n os =>
    (bytesCompare_calls a.l b.l 8 8 _ _ 8 8 _ rfl rfl (h8_cell a _ _ ⟨_, hg n os _ _ k1⟩) (h8_cell b _ _ ⟨_, hg n os _ _ k2⟩)).mono fun _ _ ⟨he, hw⟩ => ⟨he, 0, #[], by rw [hw, grow_empty]; rfl⟩
  have mixed := Try.mixed
  have e47 : ∀ args w, (callFunc 47 args).run Try.prog w = .ok (.enter 47 args) w := enters_of Try.func47 (by kernel_rfl) rfl
  clear hW2 k1 k2 hg s2
  generalize compareBytes a.l b.l = r at hcon ⊢
  go_enter Try.func40, Try.ntmps40
  go_wp2_with (fail)
  rw [alloc_eq_grow, alloc_eq_grow, grow_grow]
  change Code.wp _ _ _ _ (grow W #[.cells a.cells.toArray 34, .cells b.cells.toArray 34])
  rw [← g2]
  have g3 : ∃ os, W2 = grow W os := ⟨_, g2⟩
  clear g2
  go_quiet_grown (first | (go_at_fn 47; refine Calls.grown_of (hcon _ _)))
  go_wp2
  go_ret
  obtain ⟨os, rfl⟩ := g3
  exact ⟨rfl, nq, os ++ osq, by rw [← grow_grow]; rfl⟩

/-- What utxo.order says of two points. -/
def ordI (p q : Pt) : Int := if compareBytes p.tx.l q.tx.l < 0 then -1 else if compareBytes q.tx.l p.tx.l < 0 then 1 else compareInt p.no.toInt q.no.toInt
/-- Both points lie in blocks b and b + 1; else nothing has turned since W. -/
def PtsAt (W : World) (b : Nat) (p q : Pt) (w : World) : Prop := (∃ n os, w = grow (W.drewN n) os) ∧ (∀ j v, p.cells[j]? = some v → w.cell? ⟨b, j, none⟩ = some v) ∧ (∀ j v, q.cells[j]? = some v → w.cell? ⟨b + 1, j, none⟩ = some v)
theorem cell_lt {w : World} {a : Addr} {v : Value} (h : w.cell? a = some v) : a.block < w.heap.size := by
  unfold World.cell? at h
  split at h
  · rename_i e
    exact (Array.getElem?_eq_some_iff.1 e).1
  · cases h
theorem PtsAt.more {W : World} {b : Nat} {p q : Pt} {w : World} (h : PtsAt W b p q w) (n : Nat) (os : Array Obj) : PtsAt W b p q (grow (w.drewN n) os) := by
  obtain ⟨⟨m, os0, rfl⟩, h2, h3⟩ := h
  refine ⟨⟨m + n, os0 ++ os, ?_⟩, fun j v hj => cell_grown (cell_lt (h2 j v hj)) (h2 j v hj) n os, fun j v hj => cell_grown (cell_lt (h3 j v hj)) (h3 j v hj) n os⟩
  show grow (grow ((W.drewN m).drewN n) os0) os = _
  rw [grow_grow, World.drewN_drewN]
theorem PtsAt.start (W : World) (p q : Pt) : PtsAt W W.heap.size p q ((W.alloc (.cells p.cells.toArray 36)).alloc (.cells q.cells.toArray 36)) := by
  have k1 : ((W.alloc (.cells p.cells.toArray 36)).alloc (.cells q.cells.toArray 36)).heap[W.heap.size]? = some (.cells p.cells.toArray 36 (0, 0)) := (Below.heap_alloc _ _ _ (by simp)).trans (alloc_new W _)
  have k2 : ((W.alloc (.cells p.cells.toArray 36)).alloc (.cells q.cells.toArray 36)).heap[W.heap.size + 1]? = some (.cells q.cells.toArray 36 (0, 0)) := by
    have := alloc_new (W.alloc (.cells p.cells.toArray 36)) (.cells q.cells.toArray 36)
    rwa [World.size_alloc] at this
  refine ⟨⟨0, _, by rw [alloc_eq_grow, alloc_eq_grow, grow_grow]; rfl⟩, fun j v hj => ?_, fun j v hj => ?_⟩
  · simp only [World.cell?, k1]; simpa using hj
  · simp only [World.cell?, k2]; simpa using hj
theorem PtsAt.at {W : World} {b : Nat} {p q : Pt} {w : World} (h : PtsAt W b p q w) : w.cell? ⟨b, 0, none⟩ = some (u8 p.tx.b0) ∧ w.cell? ⟨b, 1, none⟩ = some (u8 p.tx.b1) ∧ w.cell? ⟨b, 2, none⟩ = some (u8 p.tx.b2) ∧ w.cell? ⟨b, 3, none⟩ = some (u8 p.tx.b3) ∧ w.cell? ⟨b, 4, none⟩ = some (u8 p.tx.b4) ∧ w.cell? ⟨b, 5, none⟩ = some (u8 p.tx.b5) ∧ w.cell? ⟨b, 6, none⟩ = some (u8 p.tx.b6) ∧ w.cell? ⟨b, 7, none⟩ = some (u8 p.tx.b7) ∧ w.cell? ⟨b, 8, none⟩ = some (i64 p.no) ∧ w.cell? ⟨b + 1, 0, none⟩ = some (u8 q.tx.b0) ∧ w.cell? ⟨b + 1, 1, none⟩ = some (u8 q.tx.b1) ∧ w.cell? ⟨b + 1, 2, none⟩ = some (u8 q.tx.b2) ∧ w.cell? ⟨b + 1, 3, none⟩ = some (u8 q.tx.b3) ∧ w.cell? ⟨b + 1, 4, none⟩ = some (u8 q.tx.b4) ∧ w.cell? ⟨b + 1, 5, none⟩ = some (u8 q.tx.b5) ∧ w.cell? ⟨b + 1, 6, none⟩ = some (u8 q.tx.b6) ∧ w.cell? ⟨b + 1, 7, none⟩ = some (u8 q.tx.b7) ∧ w.cell? ⟨b + 1, 8, none⟩ = some (i64 q.no) := ⟨h.2.1 0 _ rfl, h.2.1 1 _ rfl, h.2.1 2 _ rfl, h.2.1 3 _ rfl, h.2.1 4 _ rfl, h.2.1 5 _ rfl, h.2.1 6 _ rfl, h.2.1 7 _ rfl, h.2.1 8 _ rfl, h.2.2 0 _ rfl, h.2.2 1 _ rfl, h.2.2 2 _ rfl, h.2.2 3 _ rfl, h.2.2 4 _ rfl, h.2.2 5 _ rfl, h.2.2 6 _ rfl, h.2.2 7 _ rfl, h.2.2 8 _ rfl⟩

set_option maxHeartbeats 4000000 in
set_option maxRecDepth 100000 in
theorem order_calls (hcmp : ∀ (x y : Int) (w : World), Calls Try.prog 41 #[.int .i64 x, .int .i64 y] w fun e w' => e = .returned (.int .i64 (compareInt x y)) ∧ w' = w) (p q : Pt) (W : World) : Calls Try.prog 32 #[.agg p.cells.toArray, .agg q.cells.toArray] W fun e w' => e = .returned (.int .i64 (ordI p q)) ∧ ∃ q os', w' = grow (W.drewN q) os' := by
  have h1 : ∀ w, PtsAt W W.heap.size p q w → Calls Try.prog 40 #[.agg p.tx.cells.toArray, .agg q.tx.cells.toArray] w fun e w' => e = .returned (.bool (decide (compareBytes p.tx.l q.tx.l < 0))) ∧ PtsAt W W.heap.size p q w' :=
    fun w h => (hashLess_calls p.tx q.tx w).mono fun _ _ ⟨he, n, os, hw⟩ => ⟨he, hw ▸ h.more n os⟩
  have h2 : ∀ w, PtsAt W W.heap.size p q w → Calls Try.prog 40 #[.agg q.tx.cells.toArray, .agg p.tx.cells.toArray] w fun e w' => e = .returned (.bool (decide (compareBytes q.tx.l p.tx.l < 0))) ∧ PtsAt W W.heap.size p q w' :=
    fun w h => (hashLess_calls q.tx p.tx w).mono fun _ _ ⟨he, n, os, hw⟩ => ⟨he, hw ▸ h.more n os⟩
  have h3 := fun W => hcmp p.no.toInt q.no.toInt W
  have h0 := PtsAt.start W p q
  have hat : ∀ w, PtsAt W W.heap.size p q w → _ := fun w h => h.at
  have hend : ∀ w, PtsAt W W.heap.size p q w → ∃ n os, w = grow (W.drewN n) os := fun w h => h.1
  unfold ordI
  generalize hr1 : compareBytes p.tx.l q.tx.l = r1 at h1 ⊢
  generalize hr2 : compareBytes q.tx.l p.tx.l = r2 at h2 ⊢
  generalize compareInt p.no.toInt q.no.toInt = r3 at h3 ⊢
  clear hcmp hr1 hr2
  obtain ⟨⟨x0, x1, x2, x3, x4, x5, x6, x7⟩, xn⟩ := p
  obtain ⟨⟨y0, y1, y2, y3, y4, y5, y6, y7⟩, yn⟩ := q
  generalize PtsAt W W.heap.size _ _ = PA at *
  dsimp only [Pt.cells, H8.cells] at *
  go_enter Try.func32, Try.ntmps32
  go_wp2_with (first
    | (go_at_call 40; refine (h1 _ h0).mono ?_; clear h1; rintro e w1 ⟨rfl, hP1⟩; obtain ⟨c0, c1, c2, c3, c4, c5, c6, c7, c8, c9, c10, c11, c12, c13, c14, c15, c16, c17⟩ := hat _ hP1)
    | (go_at_call 40; refine (h2 _ hP1).mono ?_; clear h2; rintro e w2 ⟨rfl, hP2⟩; obtain ⟨d0, d1, d2, d3, d4, d5, d6, d7, d8, d9, d10, d11, d12, d13, d14, d15, d16, d17⟩ := hat _ hP2)
    | (go_at_call 41; refine (h3 _).mono ?_; clear h3; rintro e w' ⟨rfl, rfl⟩))
  · go_ret
    exact ⟨rfl, hend _ hP1⟩
  · go_ret
    exact ⟨rfl, hend _ hP2⟩
  · go_ret
    exact ⟨rfl, hend _ hP2⟩
end Go.Proofs.Ytfdmlpdhngmbiaa
