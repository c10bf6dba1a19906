/- Parts Rd Re Rf Rg. -/
import Derived.Test.YtmoohekgheoliaaGreatDoorG21
set_option linter.unusedSimpArgs false
set_option linter.unusedVariables false
namespace Go.Sx
theorem new_elem {S : St} {x : Operand} {c off sz sz1 i j k cap n : Nat} {f g : Nat → List Value} {rd : List Nat} (hx : S.ev x = some (XV.sv (.sla c off sz1 k cap))) (hm : S.mem.get c = some (.ro sz n f)) (hrd : nmem c rd = true) (hoff : off = i * sz + j) (hi : i < n) (hl : ∀ q, q < k → (g q).length = sz1) (hf : ((f i).drop j).take (k * sz1) = tabF g 0 k) : NewOp S x rd sz1 k g := by
  intro β ow w v h1 h2
  have hv := h1 _ hx
  have hh := h2 c ((nmem_iff c rd).1 hrd) _ hm
  obtain ⟨a, e1, e2, e3⟩ := hv
  simp only [Holds] at hh
  by_cases hnil : (β c).nil = true
  · rw [if_pos hnil] at hh
    omega
  rw [if_neg hnil] at hh
  obtain ⟨v1, v2, v7⟩ := hh
  refine ⟨⟨some a, _, e1, fun hk => ⟨a, rfl, flat_cells hl fun q hq r v hv => ?_⟩⟩, hl⟩
  have hr : r < sz1 := by rw [← hl q hq]; exact (List.getElem?_eq_some_iff.1 hv).1
  have hg : ((f i).drop j)[q * sz1 + r]? = some v := by
    have h5 := flat_get (m := k) hl hq hr
    rw [← tabF_eq, ← hf, hv] at h5
    rw [List.getElem?_take] at h5
    split at h5
    · exact h5
    · cases h5
  rw [List.getElem?_drop] at hg
  have := (v7 i hi).2 (j + (q * sz1 + r)) v hg
  rw [e3 (by omega), loc_add, ← this]
  congr 2
  rw [hoff]; omega
end Go.Sx
namespace Go.Proofs.YtmoohekgheoliaaGreatDoor
set_option maxRecDepth 100000
open Go.Sx
theorem drop_pre {E : Type} (pre l : List E) (k : Nat) : (pre ++ l).drop (pre.length + k) = l.drop k := by rw [← List.drop_drop, List.drop_left]
theorem hashesL_zero (p : Nat → H8) : hashesL p 0 = [] := rfl
theorem tab_hash_mid (p : Nat → H8) : ∀ (m i n : Nat) (post : List Value), n < m → (((tabF (hashF p) i m ++ post).drop (n * 8)).take 8) = (p (i + n)).cells
  | 0, _, _, _, h => absurd h (Nat.not_lt_zero _)
  | m + 1, i, 0, post, _ => rfl
  | m + 1, i, n + 1, post, h => by
    have e : (n + 1) * 8 = (p i).cells.length + n * 8 := by show _ = 8 + n * 8; omega
    show (((p i).cells ++ tabF (hashF p) (i + 1) m ++ post).drop ((n + 1) * 8)).take 8 = _
    rw [List.append_assoc, e, drop_pre, tab_hash_mid p m (i + 1) n post (by omega)]
    rw [show i + 1 + n = i + (n + 1) by omega]
theorem tab_hash_at (p : Nat → H8) (j : Nat) {m n off l : Nat} {pre post cs : List Value} (hcs : cs = pre ++ (tabF (hashF p) 0 m ++ post)) (hn : n < m) (hj : j = pre.length) (hoff : off = j + n * 8) (hl : l = 8) : ((cs.map SV.raw).drop off).take (l * 1) = (tabF (rowB (p n).l) 0 l).map .raw := by
  subst hcs hoff hj hl
  rw [← List.map_drop, ← List.map_take, drop_pre, tab_hash_mid p m 0 n post hn, Nat.zero_add]
  rfl
def sigBs (s : SigM) (a b c : Nat) : List UInt8 := (numL s.idx 1 :: (hashesL s.opn a ++ (hashesL s.shut b ++ hashesL s.path c))).flatten
theorem sigBs_len (s : SigM) (a b c : Nat) : (sigBs s a b c).length = 1 + 8 * (a + b + c) := by
  simp only [sigBs, List.flatten_cons, List.flatten_append, List.length_append, hashesL_flat, numL_length]; omega
theorem sigBs_a (s : SigM) (a : Nat) : sigBs s (a + 1) 0 0 = sigBs s a 0 0 ++ (s.opn a).l := by simp [sigBs, hashesL_succ, hashesL_zero]
theorem sigBs_b (s : SigM) (b : Nat) : sigBs s 16 (b + 1) 0 = sigBs s 16 b 0 ++ (s.shut b).l := by simp [sigBs, hashesL_succ, hashesL_zero]
theorem sigBs_c (s : SigM) (c : Nat) : sigBs s 16 16 (c + 1) = sigBs s 16 16 c ++ (s.path c).l := by simp [sigBs, hashesL_succ]
theorem sig_cells_a (s : SigM) : s.cells = [.int .i64 s.idx] ++ (tabF (hashF s.opn) 0 16 ++ (tabF (hashF s.shut) 0 16 ++ tabF (hashF s.path) 0 3)) := by simp [SigM.cells]
theorem sig_cells_b (s : SigM) : s.cells = (.int .i64 s.idx :: tabF (hashF s.opn) 0 16) ++ (tabF (hashF s.shut) 0 16 ++ tabF (hashF s.path) 0 3) := by simp [SigM.cells]
theorem sig_cells_c (s : SigM) : s.cells = (.int .i64 s.idx :: (tabF (hashF s.opn) 0 16 ++ tabF (hashF s.shut) 0 16)) ++ (tabF (hashF s.path) 0 3 ++ []) := by simp [SigM.cells]
def rsigSt (s : SigM) (pre : List (Option XV)) (post : Nat) (b : List UInt8) (i : Nat) : St :=
  ⟨[none, some (XV.sv (.ptr 1 0 0 0)), none, some (XV.sv (.slc 2 1 0 b.length))] ++ pre ++ [some (XV.int .i64 i)] ++ List.replicate post none, [(1, .cells 63 (s.cells.map .raw)), (2, .vec 5 1 b.length (rowB b))], 3⟩
set_option maxHeartbeats 4000000 in
theorem rsig_can (s : SigM) : Makes Tryz.prog 97 [.plain s.x] [] (XV.sv (.slc 0 1 0 281)) (.vec 5 1 281 (rowB s.parts.flatten)) := by
  refine Makes.of Tryz.T_ok Tryz.func97 rfl _ _ _ _ rfl rfl rfl rfl 2 (fun C hC => ?_)
  (replace hC : C.n0 = 1 := hC; change Tri _ _ _ ⟨_, _, 1⟩ _)
  (refine Tri.cut 2 Tryz.mixed Tryz.T_ok ?_; ((conv => arg 5; whnf); repeat (refine xS ?_; conv => arg 5; whnf)))
  (apply wP; exact (call_op rfl (entersB_of Tryz.func57 (by kernel_rfl)) rfl ((num_can s.idx 1 (by decide)).at [] ⟨lend_plain rfl, lend_plain rfl, trivial⟩ trivial)); ((conv => arg 5; whnf); repeat (refine xS ?_; conv => arg 5; whnf)))
  refine wD <| cutG <| Tri.seq ?_
  (refine Tri.cut 1 Tryz.mixed Tryz.T_ok ?_; ((conv => arg 5; whnf); repeat (refine xS ?_; conv => arg 5; whnf)))
  refine wD <| cutG <| Tri.block ?_
  refine Tri.loop (α := { i : Nat // i ≤ 16 }) (fun i => rsigSt s [] 36 (sigBs s i.1 0 0) i.1) (fun i => 16 - i.1) ⟨0, Nat.zero_le _⟩ ?_ ?_
  · dsimp only
    rw [rsigSt, sigBs_len]
    ((try dsimp only); refine Ent.renC [0, 1, 5] hC ?_ ?_ <;> repeat' (first | exact trivial | exact rfl | exact ⟨_, rfl, rfl, rfl, Nat.le_refl _, fun _ _ => rfl⟩ | exact ⟨_, rfl, rfl, rfl, fun _ _ => rfl⟩ | exact ⟨_, rfl, rfl, rfl⟩ | exact ⟨_, rfl, rfl⟩ | refine ⟨_, rfl, rfl, rfl, by omega, fun k hk => ?_⟩ | refine ⟨?_, ?_⟩ | fail))
  rintro ⟨i, hi⟩
  dsimp only
  have hl := sigBs_len s i 0 0
  (refine Tri.cut 1 Tryz.mixed Tryz.T_ok ?_; ((conv => arg 5; whnf); repeat (refine xS ?_; conv => arg 5; whnf)))
  refine wC (fun h1 => ?_) (fun h1 => ?_)
  · (refine wGo ?_; ((conv => arg 5; whnf); repeat (refine xS ?_; conv => arg 5; whnf)))
    have h1' : i < 16 := (by (try simp only [ww] at *); omega)
    have hw : IntKind.i64.wrap ((i : Int) + 1) = ((i + 1 : Nat) : Int) := (by (try simp only [ww] at *); omega)
    refine wD <| cutG <| Tri.seq <| Tri.block <| Tri.of Tryz.mixed Tryz.T_ok ?_
    (refine wBegin ?_; ((conv => arg 5; whnf); repeat (refine xS ?_; conv => arg 5; whnf)))
    (repeat (refine wN ?_ ?_; exact (by (try simp only [ww] at *); omega); refine wGo ?_; ((conv => arg 5; whnf); repeat (refine xS ?_; conv => arg 5; whnf))))
    simp only [Nat.zero_add, Int.toNat_natCast]
    (refine wP _ _ (append_op Tryz.T_ok rfl rfl rfl rfl rfl [2, 1] (old_vec rfl rfl (Nat.le_refl _) rfl) (new_sla (g := rowB (s.opn i).l) rfl rfl rfl (fun _ _ => rfl) (tab_hash_at s.opn 1 (sig_cells_a s) h1' rfl (by omega) rfl)) rfl (fun _ _ => rfl) (by simp only [maxLen]; omega) (by dsimp only; omega)) ?_; ((conv => arg 5; whnf); repeat (refine xS ?_; conv => arg 5; whnf)))
    refine wD <| blockN <| cutG <| Tri.of Tryz.mixed Tryz.T_ok ?_
    (refine wBegin ?_; ((conv => arg 5; whnf); repeat (refine xS ?_; conv => arg 5; whnf)))
    refine wD <| loopN ⟨⟨i + 1, h1'⟩, by dsimp only; omega, ?_⟩
    rw [hw]
    dsimp only
    rw [rsigSt, sigBs_a, List.length_append]
    ((try dsimp only); refine Ent.renC [0, 1, 10] hC ?_ ?_ <;> repeat' (first | exact trivial | exact rfl | exact ⟨_, rfl, rfl, rfl, Nat.le_refl _, fun _ _ => rfl⟩ | exact ⟨_, rfl, rfl, rfl, fun _ _ => rfl⟩ | exact ⟨_, rfl, rfl, rfl⟩ | exact ⟨_, rfl, rfl⟩ | refine ⟨_, rfl, rfl, rfl, by omega, fun k hk => ?_⟩ | refine ⟨?_, ?_⟩ | fail))
    · exact Nat.le_refl _
    exact fun k hk => rowB_join rfl (fun _ _ => rfl) (fun _ _ => rfl) hk
  · (refine wGo ?_; ((conv => arg 5; whnf); repeat (refine xS ?_; conv => arg 5; whnf)))
    have h1' : i = 16 := (by (try simp only [ww] at *); omega)
    subst h1'
    refine wD <| cutE <| loopX <| blockX <| cutG <| Tri.seq ?_
    (refine Tri.cut 1 Tryz.mixed Tryz.T_ok ?_; ((conv => arg 5; whnf); repeat (refine xS ?_; conv => arg 5; whnf)))
    refine wD <| cutG <| Tri.block ?_
    refine Tri.loop (α := { i : Nat // i ≤ 16 }) (fun i => rsigSt s [none] 35 (sigBs s 16 i.1 0) i.1) (fun i => 16 - i.1) ⟨0, Nat.zero_le _⟩ ?_ ?_
    · dsimp only
      rw [rsigSt]
      ((try dsimp only); refine Ent.renC [0, 1, 2] hC ?_ ?_ <;> repeat' (first | exact trivial | exact rfl | exact ⟨_, rfl, rfl, rfl, Nat.le_refl _, fun _ _ => rfl⟩ | exact ⟨_, rfl, rfl, rfl, fun _ _ => rfl⟩ | exact ⟨_, rfl, rfl, rfl⟩ | exact ⟨_, rfl, rfl⟩ | refine ⟨_, rfl, rfl, rfl, by omega, fun k hk => ?_⟩ | refine ⟨?_, ?_⟩ | fail))
    rintro ⟨i, hi⟩
    dsimp only
    have hl := sigBs_len s 16 i 0
    (refine Tri.cut 1 Tryz.mixed Tryz.T_ok ?_; ((conv => arg 5; whnf); repeat (refine xS ?_; conv => arg 5; whnf)))
    refine wC (fun h1 => ?_) (fun h1 => ?_)
    · (refine wGo ?_; ((conv => arg 5; whnf); repeat (refine xS ?_; conv => arg 5; whnf)))
      have h1' : i < 16 := (by (try simp only [ww] at *); omega)
      have hw : IntKind.i64.wrap ((i : Int) + 1) = ((i + 1 : Nat) : Int) := (by (try simp only [ww] at *); omega)
      refine wD <| cutG <| Tri.seq <| Tri.block <| Tri.of Tryz.mixed Tryz.T_ok ?_
      (refine wBegin ?_; ((conv => arg 5; whnf); repeat (refine xS ?_; conv => arg 5; whnf)))
      (repeat (refine wN ?_ ?_; exact (by (try simp only [ww] at *); omega); refine wGo ?_; ((conv => arg 5; whnf); repeat (refine xS ?_; conv => arg 5; whnf))))
      simp only [Nat.zero_add, Int.toNat_natCast]
      (refine wP _ _ (append_op Tryz.T_ok rfl rfl rfl rfl rfl [2, 1] (old_vec rfl rfl (Nat.le_refl _) rfl) (new_sla (g := rowB (s.shut i).l) rfl rfl rfl (fun _ _ => rfl) (tab_hash_at s.shut 129 (sig_cells_b s) h1' rfl (by omega) rfl)) rfl (fun _ _ => rfl) (by simp only [maxLen]; omega) (by dsimp only; omega)) ?_; ((conv => arg 5; whnf); repeat (refine xS ?_; conv => arg 5; whnf)))
      refine wD <| blockN <| cutG <| Tri.of Tryz.mixed Tryz.T_ok ?_
      (refine wBegin ?_; ((conv => arg 5; whnf); repeat (refine xS ?_; conv => arg 5; whnf)))
      refine wD <| loopN ⟨⟨i + 1, h1'⟩, by dsimp only; omega, ?_⟩
      rw [hw]
      dsimp only
      rw [rsigSt, sigBs_b, List.length_append]
      ((try dsimp only); refine Ent.renC [0, 1, 10] hC ?_ ?_ <;> repeat' (first | exact trivial | exact rfl | exact ⟨_, rfl, rfl, rfl, Nat.le_refl _, fun _ _ => rfl⟩ | exact ⟨_, rfl, rfl, rfl, fun _ _ => rfl⟩ | exact ⟨_, rfl, rfl, rfl⟩ | exact ⟨_, rfl, rfl⟩ | refine ⟨_, rfl, rfl, rfl, by omega, fun k hk => ?_⟩ | refine ⟨?_, ?_⟩ | fail))
      · exact Nat.le_refl _
      exact fun k hk => rowB_join rfl (fun _ _ => rfl) (fun _ _ => rfl) hk
    · (refine wGo ?_; ((conv => arg 5; whnf); repeat (refine xS ?_; conv => arg 5; whnf)))
      have h1' : i = 16 := (by (try simp only [ww] at *); omega)
      subst h1'
      refine wD <| cutE <| loopX <| blockX <| cutG <| Tri.seq ?_
      (refine Tri.cut 1 Tryz.mixed Tryz.T_ok ?_; ((conv => arg 5; whnf); repeat (refine xS ?_; conv => arg 5; whnf)))
      refine wD <| cutG <| Tri.block ?_
      refine Tri.loop (α := { i : Nat // i ≤ 3 }) (fun i => rsigSt s [none, none] 34 (sigBs s 16 16 i.1) i.1) (fun i => 3 - i.1) ⟨0, Nat.zero_le _⟩ ?_ ?_
      · dsimp only
        rw [rsigSt]
        ((try dsimp only); refine Ent.renC [0, 1, 2] hC ?_ ?_ <;> repeat' (first | exact trivial | exact rfl | exact ⟨_, rfl, rfl, rfl, Nat.le_refl _, fun _ _ => rfl⟩ | exact ⟨_, rfl, rfl, rfl, fun _ _ => rfl⟩ | exact ⟨_, rfl, rfl, rfl⟩ | exact ⟨_, rfl, rfl⟩ | refine ⟨_, rfl, rfl, rfl, by omega, fun k hk => ?_⟩ | refine ⟨?_, ?_⟩ | fail))
      rintro ⟨i, hi⟩
      dsimp only
      have hl := sigBs_len s 16 16 i
      (refine Tri.cut 1 Tryz.mixed Tryz.T_ok ?_; ((conv => arg 5; whnf); repeat (refine xS ?_; conv => arg 5; whnf)))
      refine wC (fun h1 => ?_) (fun h1 => ?_)
      · (refine wGo ?_; ((conv => arg 5; whnf); repeat (refine xS ?_; conv => arg 5; whnf)))
        have h1' : i < 3 := (by (try simp only [ww] at *); omega)
        have hw : IntKind.i64.wrap ((i : Int) + 1) = ((i + 1 : Nat) : Int) := (by (try simp only [ww] at *); omega)
        refine wD <| cutG <| Tri.seq <| Tri.block <| Tri.of Tryz.mixed Tryz.T_ok ?_
        (refine wBegin ?_; ((conv => arg 5; whnf); repeat (refine xS ?_; conv => arg 5; whnf)))
        (repeat (refine wN ?_ ?_; exact (by (try simp only [ww] at *); omega); refine wGo ?_; ((conv => arg 5; whnf); repeat (refine xS ?_; conv => arg 5; whnf))))
        simp only [Nat.zero_add, Int.toNat_natCast]
        (refine wP _ _ (append_op Tryz.T_ok rfl rfl rfl rfl rfl [2, 1] (old_vec rfl rfl (Nat.le_refl _) rfl) (new_sla (g := rowB (s.path i).l) rfl rfl rfl (fun _ _ => rfl) (tab_hash_at s.path 257 (sig_cells_c s) h1' rfl (by omega) rfl)) rfl (fun _ _ => rfl) (by simp only [maxLen]; omega) (by dsimp only; omega)) ?_; ((conv => arg 5; whnf); repeat (refine xS ?_; conv => arg 5; whnf)))
        refine wD <| blockN <| cutG <| Tri.of Tryz.mixed Tryz.T_ok ?_
        (refine wBegin ?_; ((conv => arg 5; whnf); repeat (refine xS ?_; conv => arg 5; whnf)))
        refine wD <| loopN ⟨⟨i + 1, h1'⟩, by dsimp only; omega, ?_⟩
        rw [hw]
        dsimp only
        rw [rsigSt, sigBs_c, List.length_append]
        ((try dsimp only); refine Ent.renC [0, 1, 10] hC ?_ ?_ <;> repeat' (first | exact trivial | exact rfl | exact ⟨_, rfl, rfl, rfl, Nat.le_refl _, fun _ _ => rfl⟩ | exact ⟨_, rfl, rfl, rfl, fun _ _ => rfl⟩ | exact ⟨_, rfl, rfl, rfl⟩ | exact ⟨_, rfl, rfl⟩ | refine ⟨_, rfl, rfl, rfl, by omega, fun k hk => ?_⟩ | refine ⟨?_, ?_⟩ | fail))
        · exact Nat.le_refl _
        exact fun k hk => rowB_join rfl (fun _ _ => rfl) (fun _ _ => rfl) hk
      · (refine wGo ?_; ((conv => arg 5; whnf); repeat (refine xS ?_; conv => arg 5; whnf)))
        have h1' : i = 3 := (by (try simp only [ww] at *); omega)
        subst h1'
        refine wD <| cutE <| loopX <| blockX <| cutG <| Tri.of Tryz.mixed Tryz.T_ok ?_
        (refine wBegin ?_; ((conv => arg 5; whnf); repeat (refine xS ?_; conv => arg 5; whnf)))
        exact wD (Ends.made (.inr rfl) (Ent.refl _) rfl (Nat.le_of_ble_eq_true rfl) rfl)
end Go.Proofs.YtmoohekgheoliaaGreatDoor
namespace Go.Proofs.YtmoohekgheoliaaGreatDoor
set_option maxRecDepth 100000
open Go.Sx
theorem rowB_joinL {a b : List UInt8} {f g : Nat → List Value} {m : Nat} (hm : m = a.length) (hf : ∀ i, i < a.length → f i = rowB a i) (hg : ∀ i, i < b.length → g i = rowB b i) : ∀ i, i < (a ++ b).length → joinF f m g i = rowB (a ++ b) i := fun i hi => rowB_join hm hf hg (by rw [← List.length_append]; exact hi)
theorem zadd {f : Nat → List Value} {n : Nat} : ∀ i, i < n → f (0 + i) = f i := fun i _ => by rw [Nat.zero_add]
def outsB (l : List OutM) (i : Nat) : List UInt8 := (numL (l.length : Int) 1 :: (l.take i).flatMap OutM.parts).flatten
theorem outsB_succ {l : List OutM} {i : Nat} (hi : i < l.length) : outsB l (i + 1) = outsB l i ++ (l.getD i default).to.l ++ numL (l.getD i default).amt.toInt 7 := by
  rw [outsB, outsB, flatMap_take_succ _ hi]
  simp [OutM.parts]
theorem outsB_all (l : List OutM) : outsB l l.length = (outsParts l).flatten := by rw [outsB, List.take_length, outsParts]
theorem outsB_len (l : List OutM) : ∀ i, i ≤ l.length → (outsB l i).length = 1 + 15 * i
  | 0, _ => by simp [outsB, numL_length]
  | i + 1, h => by rw [outsB_succ h, List.length_append, List.length_append, outsB_len l i (by omega), numL_length, H8.l_len]; omega
set_option maxHeartbeats 1000000 in
theorem routsB_can (l : List OutM) (hn : l.length ≤ 1000) : Makes Tryz.prog 58 [.row 9 l.length (outsF l)] [] (XV.sv (.slc 0 1 0 (outsParts l).flatten.length)) (.vec 5 1 (outsParts l).flatten.length (rowB (outsParts l).flatten)) := by
  refine Makes.of Tryz.T_ok Tryz.func58 rfl _ _ _ _ rfl rfl rfl rfl 1 (fun C hC => ?_)
  (replace hC : C.n0 = 1 := hC; change Tri _ _ _ ⟨_, _, 1⟩ _)
  (refine Tri.cut 2 Tryz.mixed Tryz.T_ok ?_; ((conv => arg 5; whnf); repeat (refine xS ?_; conv => arg 5; whnf)))
  (apply wP; exact (call_op rfl (entersB_of Tryz.func57 (by kernel_rfl)) rfl ((num_can (l.length : Int) 1 (by decide)).at [] ⟨lend_plain rfl, lend_plain rfl, trivial⟩ trivial)); ((conv => arg 5; whnf); repeat (refine xS ?_; conv => arg 5; whnf)))
  refine wD <| cutG <| Tri.seq ?_
  (refine Tri.cut 1 Tryz.mixed Tryz.T_ok ?_; ((conv => arg 5; whnf); repeat (refine xS ?_; conv => arg 5; whnf)))
  refine wD <| cutG <| Tri.block ?_
  refine Tri.loop (α := { i : Nat // i ≤ l.length }) (fun i => ⟨[some (XV.sv (.slc 0 9 0 l.length)), none, none, some (XV.sv (.slc 1 1 0 (outsB l i.1).length)), some (XV.int .i64 i.1)] ++ List.replicate 24 none, [(0, .ro 9 l.length (outsF l)), (1, .vec 5 1 (outsB l i.1).length (rowB (outsB l i.1)))], 2⟩) (fun i => l.length - i.1) ⟨0, Nat.zero_le _⟩ ?_ ?_
  · dsimp only
    rw [outsB_len l 0 (Nat.zero_le _)]
    ((try dsimp only); refine Ent.renC [0, 4] hC ?_ ?_ <;> repeat' (first | exact trivial | exact rfl | exact ⟨_, rfl, rfl, rfl, Nat.le_refl _, fun _ _ => rfl⟩ | exact ⟨_, rfl, rfl, rfl, fun _ _ => rfl⟩ | exact ⟨_, rfl, rfl, rfl⟩ | exact ⟨_, rfl, rfl⟩ | refine ⟨_, rfl, rfl, rfl, by omega, fun k hk => ?_⟩ | refine ⟨?_, ?_⟩ | fail))
  rintro ⟨i, hi⟩
  dsimp only
  have hl := outsB_len l i hi
  (refine Tri.cut 1 Tryz.mixed Tryz.T_ok ?_; ((conv => arg 5; whnf); repeat (refine xS ?_; conv => arg 5; whnf)))
  refine wC (fun h1 => ?_) (fun h1 => ?_)
  · (refine wGo ?_; ((conv => arg 5; whnf); repeat (refine xS ?_; conv => arg 5; whnf)))
    have h1' : i < l.length := (by (try simp only [ww] at *); omega)
    have hw : IntKind.i64.wrap ((i : Int) + 1) = ((i + 1 : Nat) : Int) := (by (try simp only [ww] at *); omega)
    refine wD <| cutG <| Tri.seq <| Tri.block <| Tri.of Tryz.mixed Tryz.T_ok ?_
    (refine wBegin ?_; ((conv => arg 5; whnf); repeat (refine xS ?_; conv => arg 5; whnf)))
    (repeat (refine wN ?_ ?_; exact (by (try simp only [ww] at *); omega); refine wGo ?_; ((conv => arg 5; whnf); repeat (refine xS ?_; conv => arg 5; whnf))))
    simp only [Nat.zero_add, Int.toNat_natCast]
    (refine wP _ _ (append_op Tryz.T_ok rfl rfl rfl rfl rfl [1, 0] (old_vec rfl rfl (Nat.le_refl _) rfl) (new_elem (i := i) (j := 0) (g := rowB (l.getD i default).to.l) rfl rfl rfl (by omega) h1' (fun _ _ => rfl) rfl) rfl (fun _ _ => rfl) (by simp only [maxLen]; omega) (by dsimp only; omega)) ?_; ((conv => arg 5; whnf); repeat (refine xS ?_; conv => arg 5; whnf)))
    (repeat (refine wN ?_ ?_; exact (by (try simp only [ww] at *); omega); refine wGo ?_; ((conv => arg 5; whnf); repeat (refine xS ?_; conv => arg 5; whnf))))
    simp only [Nat.zero_add, Int.toNat_natCast]
    (apply wP; exact (call_op rfl (entersB_of Tryz.func57 (by kernel_rfl)) rfl ((num_can (l.getD i default).amt.toInt 7 (by decide)).at [] ⟨lend_plain rfl, lend_plain rfl, trivial⟩ trivial)); ((conv => arg 5; whnf); repeat (refine xS ?_; conv => arg 5; whnf)))
    (refine wP _ _ (append_op Tryz.T_ok rfl rfl rfl rfl rfl [12, 18] (old_vec rfl rfl (Nat.le_refl _) rfl) (new_vec (lo := 0) rfl rfl (Nat.le_refl _) rfl) rfl (fun _ _ => rfl) (by simp only [maxLen]; omega) (by dsimp only; omega)) ?_; ((conv => arg 5; whnf); repeat (refine xS ?_; conv => arg 5; whnf)))
    refine wD <| blockN <| cutG <| Tri.of Tryz.mixed Tryz.T_ok ?_
    (refine wBegin ?_; ((conv => arg 5; whnf); repeat (refine xS ?_; conv => arg 5; whnf)))
    refine wD <| loopN ⟨⟨i + 1, h1'⟩, by dsimp only; omega, ?_⟩
    rw [hw]
    dsimp only
    rw [outsB_succ h1', List.length_append, List.length_append]
    ((try dsimp only); refine Ent.renC [0, 19] hC ?_ ?_ <;> repeat' (first | exact trivial | exact rfl | exact ⟨_, rfl, rfl, rfl, Nat.le_refl _, fun _ _ => rfl⟩ | exact ⟨_, rfl, rfl, rfl, fun _ _ => rfl⟩ | exact ⟨_, rfl, rfl, rfl⟩ | exact ⟨_, rfl, rfl⟩ | refine ⟨_, rfl, rfl, rfl, by omega, fun k hk => ?_⟩ | refine ⟨?_, ?_⟩ | fail))
    · exact Nat.le_refl _
    rw [← List.length_append, ← List.length_append]
    exact rowB_joinL (by rw [List.length_append]; rfl) (rowB_joinL rfl (fun _ _ => rfl) (fun _ _ => rfl)) zadd
  · (refine wGo ?_; ((conv => arg 5; whnf); repeat (refine xS ?_; conv => arg 5; whnf)))
    have h1' : i = l.length := (by (try simp only [ww] at *); omega)
    subst h1'
    rw [outsB_all]
    refine wD <| cutE <| loopX <| blockX <| cutG <| Tri.of Tryz.mixed Tryz.T_ok ?_
    (refine wBegin ?_; ((conv => arg 5; whnf); repeat (refine xS ?_; conv => arg 5; whnf)))
    exact wD (Ends.made (.inr rfl) (Ent.refl _) rfl (Nat.le_of_ble_eq_true rfl) rfl)
def fwdsB (l : List FwdM) (i : Nat) : List UInt8 := (numL (l.length : Int) 1 :: (l.take i).flatMap FwdM.parts).flatten
theorem fwdsB_succ {l : List FwdM} {i : Nat} (hi : i < l.length) : fwdsB l (i + 1) = fwdsB l i ++ numL (l.getD i default).side.toInt 1 ++ numL (l.getD i default).acct.toInt 2 ++ (l.getD i default).owner.l ++ numL (l.getD i default).amt.toInt 7 := by
  rw [fwdsB, fwdsB, flatMap_take_succ _ hi]
  simp [FwdM.parts]
theorem fwdsB_all (l : List FwdM) : fwdsB l l.length = (fwdsParts l).flatten := by rw [fwdsB, List.take_length, fwdsParts]
theorem fwdsB_len (l : List FwdM) : ∀ i, i ≤ l.length → (fwdsB l i).length = 1 + 18 * i
  | 0, _ => by simp [fwdsB, numL_length]
  | i + 1, h => by rw [fwdsB_succ h]; simp only [List.length_append, fwdsB_len l i (by omega), numL_length, H8.l_len]; omega
set_option maxHeartbeats 1000000 in
theorem rfwdsB_can (l : List FwdM) (hn : l.length ≤ 1000) : Makes Tryz.prog 60 [.row 11 l.length (fwdsF l)] [] (XV.sv (.slc 0 1 0 (fwdsParts l).flatten.length)) (.vec 5 1 (fwdsParts l).flatten.length (rowB (fwdsParts l).flatten)) := by
  refine Makes.of Tryz.T_ok Tryz.func60 rfl _ _ _ _ rfl rfl rfl rfl 1 (fun C hC => ?_)
  (replace hC : C.n0 = 1 := hC; change Tri _ _ _ ⟨_, _, 1⟩ _)
  (refine Tri.cut 2 Tryz.mixed Tryz.T_ok ?_; ((conv => arg 5; whnf); repeat (refine xS ?_; conv => arg 5; whnf)))
  (apply wP; exact (call_op rfl (entersB_of Tryz.func57 (by kernel_rfl)) rfl ((num_can (l.length : Int) 1 (by decide)).at [] ⟨lend_plain rfl, lend_plain rfl, trivial⟩ trivial)); ((conv => arg 5; whnf); repeat (refine xS ?_; conv => arg 5; whnf)))
  refine wD <| cutG <| Tri.seq ?_
  (refine Tri.cut 1 Tryz.mixed Tryz.T_ok ?_; ((conv => arg 5; whnf); repeat (refine xS ?_; conv => arg 5; whnf)))
  refine wD <| cutG <| Tri.block ?_
  refine Tri.loop (α := { i : Nat // i ≤ l.length }) (fun i => ⟨[some (XV.sv (.slc 0 11 0 l.length)), none, none, some (XV.sv (.slc 1 1 0 (fwdsB l i.1).length)), some (XV.int .i64 i.1)] ++ List.replicate 31 none, [(0, .ro 11 l.length (fwdsF l)), (1, .vec 5 1 (fwdsB l i.1).length (rowB (fwdsB l i.1)))], 2⟩) (fun i => l.length - i.1) ⟨0, Nat.zero_le _⟩ ?_ ?_
  · dsimp only
    rw [fwdsB_len l 0 (Nat.zero_le _)]
    ((try dsimp only); refine Ent.renC [0, 4] hC ?_ ?_ <;> repeat' (first | exact trivial | exact rfl | exact ⟨_, rfl, rfl, rfl, Nat.le_refl _, fun _ _ => rfl⟩ | exact ⟨_, rfl, rfl, rfl, fun _ _ => rfl⟩ | exact ⟨_, rfl, rfl, rfl⟩ | exact ⟨_, rfl, rfl⟩ | refine ⟨_, rfl, rfl, rfl, by omega, fun k hk => ?_⟩ | refine ⟨?_, ?_⟩ | fail))
  rintro ⟨i, hi⟩
  dsimp only
  have hl := fwdsB_len l i hi
  (refine Tri.cut 1 Tryz.mixed Tryz.T_ok ?_; ((conv => arg 5; whnf); repeat (refine xS ?_; conv => arg 5; whnf)))
  refine wC (fun h1 => ?_) (fun h1 => ?_)
  · (refine wGo ?_; ((conv => arg 5; whnf); repeat (refine xS ?_; conv => arg 5; whnf)))
    have h1' : i < l.length := (by (try simp only [ww] at *); omega)
    have hw : IntKind.i64.wrap ((i : Int) + 1) = ((i + 1 : Nat) : Int) := (by (try simp only [ww] at *); omega)
    refine wD <| cutG <| Tri.seq <| Tri.block <| Tri.of Tryz.mixed Tryz.T_ok ?_
    (refine wBegin ?_; ((conv => arg 5; whnf); repeat (refine xS ?_; conv => arg 5; whnf)))
    (repeat (refine wN ?_ ?_; exact (by (try simp only [ww] at *); omega); refine wGo ?_; ((conv => arg 5; whnf); repeat (refine xS ?_; conv => arg 5; whnf))))
    simp only [Nat.zero_add, Int.toNat_natCast]
    (apply wP; exact (call_op rfl (entersB_of Tryz.func57 (by kernel_rfl)) rfl ((num_can (l.getD i default).side.toInt 1 (by decide)).at [] ⟨lend_plain rfl, lend_plain rfl, trivial⟩ trivial)); ((conv => arg 5; whnf); repeat (refine xS ?_; conv => arg 5; whnf)))
    (refine wP _ _ (append_op Tryz.T_ok rfl rfl rfl rfl rfl [1, 15] (old_vec rfl rfl (Nat.le_refl _) rfl) (new_vec (lo := 0) rfl rfl (Nat.le_refl _) rfl) rfl (fun _ _ => rfl) (by simp only [maxLen]; omega) (by dsimp only; omega)) ?_; ((conv => arg 5; whnf); repeat (refine xS ?_; conv => arg 5; whnf)))
    (apply wP; exact (call_op rfl (entersB_of Tryz.func57 (by kernel_rfl)) rfl ((num_can (l.getD i default).acct.toInt 2 (by decide)).at [] ⟨lend_plain rfl, lend_plain rfl, trivial⟩ trivial)); ((conv => arg 5; whnf); repeat (refine xS ?_; conv => arg 5; whnf)))
    (refine wP _ _ (append_op Tryz.T_ok rfl rfl rfl rfl rfl [16, 19] (old_vec rfl rfl (Nat.le_refl _) rfl) (new_vec (lo := 0) rfl rfl (Nat.le_refl _) rfl) rfl (fun _ _ => rfl) (by simp only [maxLen]; omega) (by dsimp only; omega)) ?_; ((conv => arg 5; whnf); repeat (refine xS ?_; conv => arg 5; whnf)))
    (refine wP _ _ (append_op Tryz.T_ok rfl rfl rfl rfl rfl [20, 10] (old_vec rfl rfl (Nat.le_refl _) rfl) (new_sla (g := rowB (l.getD i default).owner.l) rfl rfl rfl (fun _ _ => rfl) rfl) rfl (fun _ _ => rfl) (by simp only [maxLen]; omega) (by dsimp only; omega)) ?_; ((conv => arg 5; whnf); repeat (refine xS ?_; conv => arg 5; whnf)))
    (apply wP; exact (call_op rfl (entersB_of Tryz.func57 (by kernel_rfl)) rfl ((num_can (l.getD i default).amt.toInt 7 (by decide)).at [] ⟨lend_plain rfl, lend_plain rfl, trivial⟩ trivial)); ((conv => arg 5; whnf); repeat (refine xS ?_; conv => arg 5; whnf)))
    (refine wP _ _ (append_op Tryz.T_ok rfl rfl rfl rfl rfl [23, 26] (old_vec rfl rfl (Nat.le_refl _) rfl) (new_vec (lo := 0) rfl rfl (Nat.le_refl _) rfl) rfl (fun _ _ => rfl) (by simp only [maxLen]; omega) (by dsimp only; omega)) ?_; ((conv => arg 5; whnf); repeat (refine xS ?_; conv => arg 5; whnf)))
    refine wD <| blockN <| cutG <| Tri.of Tryz.mixed Tryz.T_ok ?_
    (refine wBegin ?_; ((conv => arg 5; whnf); repeat (refine xS ?_; conv => arg 5; whnf)))
    refine wD <| loopN ⟨⟨i + 1, h1'⟩, by dsimp only; omega, ?_⟩
    rw [hw]
    dsimp only
    rw [fwdsB_succ h1', List.length_append, List.length_append, List.length_append, List.length_append]
    ((try dsimp only); refine Ent.renC [0, 27] hC ?_ ?_ <;> repeat' (first | exact trivial | exact rfl | exact ⟨_, rfl, rfl, rfl, Nat.le_refl _, fun _ _ => rfl⟩ | exact ⟨_, rfl, rfl, rfl, fun _ _ => rfl⟩ | exact ⟨_, rfl, rfl, rfl⟩ | exact ⟨_, rfl, rfl⟩ | refine ⟨_, rfl, rfl, rfl, by omega, fun k hk => ?_⟩ | refine ⟨?_, ?_⟩ | fail))
    · exact Nat.le_refl _
    rw [← List.length_append, ← List.length_append, ← List.length_append, ← List.length_append]
    exact rowB_joinL (by simp only [List.length_append]; rfl) (rowB_joinL (by simp only [List.length_append]; rfl) (rowB_joinL (by simp only [List.length_append]; rfl) (rowB_joinL rfl (fun _ _ => rfl) zadd) zadd) (fun _ _ => rfl)) zadd
  · (refine wGo ?_; ((conv => arg 5; whnf); repeat (refine xS ?_; conv => arg 5; whnf)))
    have h1' : i = l.length := (by (try simp only [ww] at *); omega)
    subst h1'
    rw [fwdsB_all]
    refine wD <| cutE <| loopX <| blockX <| cutG <| Tri.of Tryz.mixed Tryz.T_ok ?_
    (refine wBegin ?_; ((conv => arg 5; whnf); repeat (refine xS ?_; conv => arg 5; whnf)))
    exact wD (Ends.made (.inr rfl) (Ent.refl _) rfl (Nat.le_of_ble_eq_true rfl) rfl)
def insB (l : List InM) (i : Nat) : List UInt8 := (numL (l.length : Int) 1 :: (l.take i).flatMap InM.parts).flatten
theorem insB_succ {l : List InM} {i : Nat} (hi : i < l.length) : insB l (i + 1) = insB l i ++ (l.getD i default).pt.tx.l ++ numL (l.getD i default).pt.no.toInt 1 ++ (l.getD i default).key.l ++ (l.getD i default).sig.parts.flatten := by
  rw [insB, insB, flatMap_take_succ _ hi]
  simp [InM.parts]
theorem insB_all (l : List InM) : insB l l.length = (insParts l).flatten := by rw [insB, List.take_length, insParts]
theorem insB_len (l : List InM) : ∀ i, i ≤ l.length → (insB l i).length = 1 + 298 * i
  | 0, _ => by simp [insB, numL_length]
  | i + 1, h => by rw [insB_succ h]; simp only [List.length_append, insB_len l i (by omega), numL_length, H8.l_len, sig_flat]; omega
set_option maxHeartbeats 1000000 in
theorem rinsB_can (l : List InM) (hn : l.length ≤ 1000) : Makes Tryz.prog 59 [.row 298 l.length (insF l)] [] (XV.sv (.slc 0 1 0 (insParts l).flatten.length)) (.vec 5 1 (insParts l).flatten.length (rowB (insParts l).flatten)) := by
  refine Makes.of Tryz.T_ok Tryz.func59 rfl _ _ _ _ rfl rfl rfl rfl 1 (fun C hC => ?_)
  (replace hC : C.n0 = 1 := hC; change Tri _ _ _ ⟨_, _, 1⟩ _)
  (refine Tri.cut 2 Tryz.mixed Tryz.T_ok ?_; ((conv => arg 5; whnf); repeat (refine xS ?_; conv => arg 5; whnf)))
  (apply wP; exact (call_op rfl (entersB_of Tryz.func57 (by kernel_rfl)) rfl ((num_can (l.length : Int) 1 (by decide)).at [] ⟨lend_plain rfl, lend_plain rfl, trivial⟩ trivial)); ((conv => arg 5; whnf); repeat (refine xS ?_; conv => arg 5; whnf)))
  refine wD <| cutG <| Tri.seq ?_
  (refine Tri.cut 1 Tryz.mixed Tryz.T_ok ?_; ((conv => arg 5; whnf); repeat (refine xS ?_; conv => arg 5; whnf)))
  refine wD <| cutG <| Tri.block ?_
  refine Tri.loop (α := { i : Nat // i ≤ l.length }) (fun i => ⟨[some (XV.sv (.slc 0 298 0 l.length)), none, none, some (XV.sv (.slc 1 1 0 (insB l i.1).length)), some (XV.int .i64 i.1)] ++ List.replicate 40 none, [(0, .ro 298 l.length (insF l)), (1, .vec 5 1 (insB l i.1).length (rowB (insB l i.1)))], 2⟩) (fun i => l.length - i.1) ⟨0, Nat.zero_le _⟩ ?_ ?_
  · dsimp only
    rw [insB_len l 0 (Nat.zero_le _)]
    ((try dsimp only); refine Ent.renC [0, 4] hC ?_ ?_ <;> repeat' (first | exact trivial | exact rfl | exact ⟨_, rfl, rfl, rfl, Nat.le_refl _, fun _ _ => rfl⟩ | exact ⟨_, rfl, rfl, rfl, fun _ _ => rfl⟩ | exact ⟨_, rfl, rfl, rfl⟩ | exact ⟨_, rfl, rfl⟩ | refine ⟨_, rfl, rfl, rfl, by omega, fun k hk => ?_⟩ | refine ⟨?_, ?_⟩ | fail))
  rintro ⟨i, hi⟩
  dsimp only
  have hl := insB_len l i hi
  (refine Tri.cut 1 Tryz.mixed Tryz.T_ok ?_; ((conv => arg 5; whnf); repeat (refine xS ?_; conv => arg 5; whnf)))
  refine wC (fun h1 => ?_) (fun h1 => ?_)
  · (refine wGo ?_; ((conv => arg 5; whnf); repeat (refine xS ?_; conv => arg 5; whnf)))
    have h1' : i < l.length := (by (try simp only [ww] at *); omega)
    have hw : IntKind.i64.wrap ((i : Int) + 1) = ((i + 1 : Nat) : Int) := (by (try simp only [ww] at *); omega)
    have hsl := sig_flat (l.getD i default).sig
    refine wD <| cutG <| Tri.seq <| Tri.block <| Tri.of Tryz.mixed Tryz.T_ok ?_
    (refine wBegin ?_; ((conv => arg 5; whnf); repeat (refine xS ?_; conv => arg 5; whnf)))
    (repeat (refine wN ?_ ?_; exact (by (try simp only [ww] at *); omega); refine wGo ?_; ((conv => arg 5; whnf); repeat (refine xS ?_; conv => arg 5; whnf))))
    simp only [Nat.zero_add, Int.toNat_natCast]
    (refine wP _ _ (append_op Tryz.T_ok rfl rfl rfl rfl rfl [1, 0] (old_vec rfl rfl (Nat.le_refl _) rfl) (new_elem (i := i) (j := 0) (g := rowB (l.getD i default).pt.tx.l) rfl rfl rfl (by omega) h1' (fun _ _ => rfl) rfl) rfl (fun _ _ => rfl) (by simp only [maxLen]; omega) (by dsimp only; omega)) ?_; ((conv => arg 5; whnf); repeat (refine xS ?_; conv => arg 5; whnf)))
    (repeat (refine wN ?_ ?_; exact (by (try simp only [ww] at *); omega); refine wGo ?_; ((conv => arg 5; whnf); repeat (refine xS ?_; conv => arg 5; whnf))))
    simp only [Nat.zero_add, Int.toNat_natCast]
    (apply wP; exact (call_op rfl (entersB_of Tryz.func57 (by kernel_rfl)) rfl ((num_can (l.getD i default).pt.no.toInt 1 (by decide)).at [] ⟨lend_plain rfl, lend_plain rfl, trivial⟩ trivial)); ((conv => arg 5; whnf); repeat (refine xS ?_; conv => arg 5; whnf)))
    (refine wP _ _ (append_op Tryz.T_ok rfl rfl rfl rfl rfl [13, 20] (old_vec rfl rfl (Nat.le_refl _) rfl) (new_vec (lo := 0) rfl rfl (Nat.le_refl _) rfl) rfl (fun _ _ => rfl) (by simp only [maxLen]; omega) (by dsimp only; omega)) ?_; ((conv => arg 5; whnf); repeat (refine xS ?_; conv => arg 5; whnf)))
    (repeat (refine wN ?_ ?_; exact (by (try simp only [ww] at *); omega); refine wGo ?_; ((conv => arg 5; whnf); repeat (refine xS ?_; conv => arg 5; whnf))))
    simp only [Nat.zero_add, Int.toNat_natCast]
    (refine wP _ _ (append_op Tryz.T_ok rfl rfl rfl rfl rfl [21, 0] (old_vec rfl rfl (Nat.le_refl _) rfl) (new_elem (i := i) (j := 9) (g := rowB (l.getD i default).key.l) rfl rfl rfl (by omega) h1' (fun _ _ => rfl) rfl) rfl (fun _ _ => rfl) (by simp only [maxLen]; omega) (by dsimp only; omega)) ?_; ((conv => arg 5; whnf); repeat (refine xS ?_; conv => arg 5; whnf)))
    (repeat (refine wN ?_ ?_; exact (by (try simp only [ww] at *); omega); refine wGo ?_; ((conv => arg 5; whnf); repeat (refine xS ?_; conv => arg 5; whnf))))
    simp only [Nat.zero_add, Int.toNat_natCast]
    (apply wP; exact (call_op rfl (entersB_of Tryz.func97 (by kernel_rfl)) rfl ((rsig_can (l.getD i default).sig).at [] ⟨lend_plain rfl, trivial⟩ trivial)); ((conv => arg 5; whnf); repeat (refine xS ?_; conv => arg 5; whnf)))
    (refine wP _ _ (append_op Tryz.T_ok rfl rfl rfl rfl rfl [27, 35] (old_vec rfl rfl (Nat.le_refl _) rfl) (new_vec (lo := 0) rfl rfl (Nat.le_refl _) rfl) rfl (fun _ _ => rfl) (by simp only [maxLen]; omega) (by dsimp only; omega)) ?_; ((conv => arg 5; whnf); repeat (refine xS ?_; conv => arg 5; whnf)))
    refine wD <| blockN <| cutG <| Tri.of Tryz.mixed Tryz.T_ok ?_
    (refine wBegin ?_; ((conv => arg 5; whnf); repeat (refine xS ?_; conv => arg 5; whnf)))
    refine wD <| loopN ⟨⟨i + 1, h1'⟩, by dsimp only; omega, ?_⟩
    rw [hw]
    dsimp only
    rw [insB_succ h1', List.length_append, List.length_append, List.length_append, List.length_append, hsl]
    ((try dsimp only); refine Ent.renC [0, 36] hC ?_ ?_ <;> repeat' (first | exact trivial | exact rfl | exact ⟨_, rfl, rfl, rfl, Nat.le_refl _, fun _ _ => rfl⟩ | exact ⟨_, rfl, rfl, rfl, fun _ _ => rfl⟩ | exact ⟨_, rfl, rfl, rfl⟩ | exact ⟨_, rfl, rfl⟩ | refine ⟨_, rfl, rfl, rfl, by omega, fun k hk => ?_⟩ | refine ⟨?_, ?_⟩ | fail))
    · exact Nat.le_refl _
    rw [← hsl, ← List.length_append, ← List.length_append, ← List.length_append, ← List.length_append]
    exact rowB_joinL (by simp only [List.length_append]; rfl) (rowB_joinL (by simp only [List.length_append]; rfl) (rowB_joinL (by simp only [List.length_append]; rfl) (rowB_joinL rfl (fun _ _ => rfl) (fun _ _ => rfl)) (fun _ _ => rfl)) (fun _ _ => rfl)) zadd
  · (refine wGo ?_; ((conv => arg 5; whnf); repeat (refine xS ?_; conv => arg 5; whnf)))
    have h1' : i = l.length := (by (try simp only [ww] at *); omega)
    subst h1'
    rw [insB_all]
    refine wD <| cutE <| loopX <| blockX <| cutG <| Tri.of Tryz.mixed Tryz.T_ok ?_
    (refine wBegin ?_; ((conv => arg 5; whnf); repeat (refine xS ?_; conv => arg 5; whnf)))
    exact wD (Ends.made (.inr rfl) (Ent.refl _) rfl (Nat.le_of_ble_eq_true rfl) rfl)
end Go.Proofs.YtmoohekgheoliaaGreatDoor
namespace Go.Proofs.YtmoohekgheoliaaGreatDoor
set_option maxRecDepth 100000
open Go.Sx
theorem rmay_true {t : TxM} (hk : t.kind = 2) (hs : Sized t) (hc : t.claim.Wf) (hm : mayPay t hc = true) : Reads Tryz.prog 41 [.box t.ac] [] (XV.bool true) := hm ▸ mayTx_can t hk hs hc
theorem rmay_false {t : TxM} (hk : t.kind = 2) (hs : Sized t) (hc : t.claim.Wf) (hm : mayPay t hc = false) : Reads Tryz.prog 41 [.box t.ac] [] (XV.bool false) := hm ▸ mayTx_can t hk hs hc
theorem payEnc_eq (t : TxM) : payEnc t = numL t.kind 1 ++ (insParts t.ins).flatten ++ (outsParts t.outs).flatten ++ (fwdsParts t.fwds).flatten := by simp [payEnc, payParts]
theorem payEnc_len4 (t : TxM) : (payEnc t).length = 1 + (insParts t.ins).flatten.length + (outsParts t.outs).flatten.length + (fwdsParts t.fwds).flatten.length := by rw [payEnc_eq]; simp only [List.length_append, numL_length]
set_option maxHeartbeats 4000000 in
theorem rencode_can (t : TxM) (hk : t.kind = 2) (hs : Sized t) (hc : t.claim.Wf) (hm : mayPay t hc = true) : Makes Tryz.prog 34 [.box t.ac] [] (.tup [.one (.slc 0 1 0 (payEnc t).length), .one (.raw (.int .i64 0))]) (.vec 5 1 (payEnc t).length (rowB (payEnc t))) := by
  have hmay := rmay_true hk hs hc hm
  have hpB : payB t = true := by rw [mayPay, Bool.and_eq_true] at hm; exact hm.1
  have hpl := payEnc_len hpB
  have hpe := payEnc_eq t
  have hp4 := payEnc_len4 t
  rw [payB, Bool.and_eq_true, Bool.and_eq_true, Bool.and_eq_true, insOK, Bool.and_eq_true, outsOK, Bool.and_eq_true, fwdsOK, Bool.and_eq_true, within_iff, decide_eq_true_eq, decide_eq_true_eq] at hpB
  obtain ⟨⟨_, h1⟩, ⟨_, h2⟩, ⟨_, h3⟩, _⟩ := hpB
  rw [hp4] at hpl
  obtain ⟨E, hE⟩ : ∃ E, payEnc t = E := ⟨_, rfl⟩
  rw [hp4, hE]
  rw [hE] at hpe
  obtain ⟨kind, height, ins, outs, fwds, par, cert, claim⟩ := t
  dsimp only at hk h1 h2 h3 hpl hpe ⊢
  subst hk
  refine Makes.of Tryz.T_ok Tryz.func34 rfl _ _ _ _ rfl rfl rfl rfl 34 (fun C hC => ?_)
  (replace hC : C.n0 = 6 := hC; change Tri _ _ _ ⟨_, _, 6⟩ _)
  refine Tri.of Tryz.mixed Tryz.T_ok ?_
  (refine wBegin ?_; ((conv => arg 5; whnf); repeat (refine xS ?_; conv => arg 5; whnf)))
  (apply wP; exact (call_op rfl (entersB_of Tryz.func41 (by kernel_rfl)) rfl (hmay.at [0, 1, 2, 3, 4, 5] ⟨lend_tx (t := ⟨2, height, ins, outs, fwds, par, cert, claim⟩) (lend_ro0 rfl rfl) (lend_ro0 rfl rfl) (lend_ro0 rfl rfl) (lend_ro0 rfl rfl) (lend_ro0 rfl rfl) (lend_ro0 rfl rfl), trivial⟩ trivial)); ((conv => arg 5; whnf); repeat (refine xS ?_; conv => arg 5; whnf)))
  (apply wP; exact (call_op rfl (entersB_of Tryz.func57 (by kernel_rfl)) rfl ((num_can 2 1 (by decide)).at [] ⟨lend_plain rfl, lend_plain rfl, trivial⟩ trivial)); ((conv => arg 5; whnf); repeat (refine xS ?_; conv => arg 5; whnf)))
  (refine wFd rfl ?_; refine wGo ?_; ((conv => arg 5; whnf); repeat (refine xS ?_; conv => arg 5; whnf)))
  (refine wTd rfl ?_; refine wGo ?_; ((conv => arg 5; whnf); repeat (refine xS ?_; conv => arg 5; whnf)))
  (apply wP; exact (call_op rfl (entersB_of Tryz.func59 (by kernel_rfl)) rfl ((rinsB_can ins (by omega)).at [0] ⟨lend_ro0 rfl rfl, trivial⟩ trivial)); ((conv => arg 5; whnf); repeat (refine xS ?_; conv => arg 5; whnf)))
  (refine wP _ _ (append_op Tryz.T_ok rfl rfl rfl rfl rfl [14, 25] (old_vec rfl rfl (Nat.le_refl _) rfl) (new_vec (lo := 0) rfl rfl (Nat.le_of_eq (Nat.zero_add _)) rfl) rfl (fun _ _ => rfl) (by simp only [maxLen]; omega) (by dsimp only; omega)) ?_; ((conv => arg 5; whnf); repeat (refine xS ?_; conv => arg 5; whnf)))
  (apply wP; exact (call_op rfl (entersB_of Tryz.func58 (by kernel_rfl)) rfl ((routsB_can outs (by omega)).at [1] ⟨lend_ro0 rfl rfl, trivial⟩ trivial)); ((conv => arg 5; whnf); repeat (refine xS ?_; conv => arg 5; whnf)))
  (refine wP _ _ (append_op Tryz.T_ok rfl rfl rfl rfl rfl [26, 29] (old_vec rfl rfl (Nat.le_refl _) rfl) (new_vec (lo := 0) rfl rfl (Nat.le_of_eq (Nat.zero_add _)) rfl) rfl (fun _ _ => rfl) (by simp only [maxLen]; omega) (by dsimp only; omega)) ?_; ((conv => arg 5; whnf); repeat (refine xS ?_; conv => arg 5; whnf)))
  (apply wP; exact (call_op rfl (entersB_of Tryz.func60 (by kernel_rfl)) rfl ((rfwdsB_can fwds (by omega)).at [2] ⟨lend_ro0 rfl rfl, trivial⟩ trivial)); ((conv => arg 5; whnf); repeat (refine xS ?_; conv => arg 5; whnf)))
  (refine wP _ _ (append_op Tryz.T_ok rfl rfl rfl rfl rfl [30, 33] (old_vec rfl rfl (Nat.le_refl _) rfl) (new_vec (lo := 0) rfl rfl (Nat.le_of_eq (Nat.zero_add _)) rfl) rfl (fun _ _ => rfl) (by simp only [maxLen]; omega) (by dsimp only; omega)) ?_; ((conv => arg 5; whnf); repeat (refine xS ?_; conv => arg 5; whnf)))
  refine wD (Ends.made (.inr rfl) (Ent.chg0 (c := 34) (g := rowB E) rfl ?_) rfl (Nat.le_of_ble_eq_true rfl) rfl)
  rw [hpe]
  simp only [Nat.zero_add]
  intro k hk
  refine rowB_joinL (by simp only [List.length_append, numL_length]) (rowB_joinL (by simp only [List.length_append, numL_length]) (rowB_joinL (numL_length _ _).symm (fun _ _ => rfl) (fun _ _ => rfl)) (fun _ _ => rfl)) (fun _ _ => rfl) k ?_
  simp only [List.length_append, numL_length]
  exact hk
end Go.Proofs.YtmoohekgheoliaaGreatDoor
namespace Go.Proofs.YtmoohekgheoliaaGreatDoor
set_option maxRecDepth 100000
open Go.Sx
theorem rmessage_bad (t : TxM) (i : Int) (hk : t.kind = 2) (hs : Sized t) (hc : t.claim.Wf) (hm : mayPay t hc = false) : Reads Tryz.prog 26 [.box t.ac, .plain (.one (.raw (.int .i64 i)))] [] (.tup [zeroH.x, .one (.raw (.bool false))]) := by
  have hmay := rmay_false hk hs hc hm
  obtain ⟨kind, height, ins, outs, fwds, par, cert, claim⟩ := t
  dsimp only at hk
  subst hk
  refine Reads.of Tryz.T_ok Tryz.func26 rfl _ _ _ rfl rfl (fun C hC => ?_)
  (replace hC : C.n0 = 7 := hC; change Tri _ _ _ ⟨_, _, 7⟩ _)
  refine Tri.of Tryz.mixed Tryz.T_ok ?_
  (refine wBegin ?_; ((conv => arg 5; whnf); repeat (refine xS ?_; conv => arg 5; whnf)))
  (refine wFd rfl ?_; refine wGo ?_; ((conv => arg 5; whnf); repeat (refine xS ?_; conv => arg 5; whnf)))
  (apply wP; exact (call_op rfl (entersB_of Tryz.func41 (by kernel_rfl)) rfl (hmay.at [0, 1, 2, 3, 4, 5] ⟨lend_tx (t := ⟨2, height, ins, outs, fwds, par, cert, claim⟩) (lend_ro0 rfl rfl) (lend_ro0 rfl rfl) (lend_ro0 rfl rfl) (lend_ro0 rfl rfl) (lend_ro0 rfl rfl) (lend_ro0 rfl rfl), trivial⟩ trivial)); ((conv => arg 5; whnf); repeat (refine xS ?_; conv => arg 5; whnf)))
  exact wD (Ends.plain (.inr rfl) rfl rfl)
def brF (l : List InM) : Nat → List Value := fun j => (l.getD j default).bare.cells
theorem brF_insF {l : List InM} {j : Nat} (h : j < l.length) : insF (l.map InM.bare) j = brF l j := by
  rw [insF, rowOf, getD_map_bare h]; rfl
theorem br_step {l : List InM} {k j : Nat} {g : Nat → List Value} (hg : g 0 = (l.getD k default).bare.cells) (hj : j < k + 1) : joinF (brF l) k g j = brF l j := by
  simp only [joinF, nblt]
  by_cases h : j < k
  · simp [h]
  · obtain rfl : j = k := by omega
    simp [brF, hg]
def rmsgSt (t : TxM) (i : Int) (k : Nat) : St :=
  ⟨[none, some (XV.int .i64 i), some (XV.sv (.ptr 7 0 0 0)), none, some (XV.sv (.ptr 8 0 0 0)), none, some (XV.sv (.slc 9 298 0 k)), some (XV.int .i64 k)] ++ List.replicate 58 none,
   [(0, .ro 298 t.ins.length (insF t.ins)), (1, .ro 9 t.outs.length (outsF t.outs)), (2, .ro 11 t.fwds.length (fwdsF t.fwds)), (3, .ro 8 t.par.keys.length (keysF t.par.keys)), (4, .ro 9 t.cert.outs.length (outsF t.cert.outs)), (5, .ro 282 t.cert.sigs.length (sgdsF t.cert.sigs)),
    (7, .cells 49 (boxC 0 t.ac)), (8, .cells 39 ((List.replicate 8 (u8 0)).map .raw)), (9, .vec 65 298 k (brF t.ins))], 10⟩
set_option maxHeartbeats 4000000 in
theorem rmessage_can (t : TxM) (i : Nat) (hk : t.kind = 2) (hs : Sized t) (hc : t.claim.Wf) (hm : mayPay t hc = true) (hi : i < t.ins.length) : Reads Tryz.prog 26 [.box t.ac, .plain (.one (.raw (.int .i64 i)))] [] (.tup [(msgH t i).x, .one (.raw (.bool true))]) := by
  have hmay := rmay_true hk hs hc hm
  have hm' := mayPay_msg hm
  have hl : (payEnc t.msg).length ≤ 3000 := payEnc_len (mayPay_iff.1 hm').1
  have hins : t.ins.length ≤ 8 := by
    have := (mayPay_iff.1 hm).1
    rw [payB, Bool.and_eq_true, insOK, Bool.and_eq_true, within_iff] at this
    omega
  have hen := rencode_can t.msg hk hs.msg hc hm'
  refine Reads.of Tryz.T_ok Tryz.func26 rfl _ _ _ rfl rfl (fun C hC => ?_)
  (replace hC : C.n0 = 7 := hC; change Tri _ _ _ ⟨_, _, 7⟩ _)
  (refine Tri.cut 3 Tryz.mixed Tryz.T_ok ?_; ((conv => arg 5; whnf); repeat (refine xS ?_; conv => arg 5; whnf)))
  (refine wFd ?_ ?_; (first | refine decide_eq_false ?_ | rw [beq_eq_false_iff_ne] | rw [bne_eq_false_iff_eq]); exact (by (try simp only [ww] at *); omega); refine wGo ?_; ((conv => arg 5; whnf); repeat (refine xS ?_; conv => arg 5; whnf)))
  (apply wP; exact (call_op rfl (entersB_of Tryz.func41 (by kernel_rfl)) rfl (hmay.at [0, 1, 2, 3, 4, 5] ⟨lend_tx (t := t) (lend_ro0 rfl rfl) (lend_ro0 rfl rfl) (lend_ro0 rfl rfl) (lend_ro0 rfl rfl) (lend_ro0 rfl rfl) (lend_ro0 rfl rfl), trivial⟩ trivial)); ((conv => arg 5; whnf); repeat (refine xS ?_; conv => arg 5; whnf)))
  (refine wFd ?_ ?_; (first | refine decide_eq_false ?_ | rw [beq_eq_false_iff_ne] | rw [bne_eq_false_iff_eq]); exact (by (try simp only [ww] at *); omega); refine wGo ?_; ((conv => arg 5; whnf); repeat (refine xS ?_; conv => arg 5; whnf)))
  (refine wFd ?_ ?_; (first | refine decide_eq_false ?_ | rw [beq_eq_false_iff_ne] | rw [bne_eq_false_iff_eq]); exact (by (try simp only [ww] at *); omega); refine wGo ?_; ((conv => arg 5; whnf); repeat (refine xS ?_; conv => arg 5; whnf)))
  refine wD <| cutG <| Tri.ent (Ent.nils (t := 6) rfl 65 298) <| Tri.seq ?_
  (refine Tri.cut 1 Tryz.mixed Tryz.T_ok ?_; ((conv => arg 5; whnf); repeat (refine xS ?_; conv => arg 5; whnf)))
  refine wD <| cutG <| Tri.block ?_
  refine Tri.loop (α := { k : Nat // k ≤ t.ins.length }) (fun k => rmsgSt t i k.1) (fun k => t.ins.length - k.1) ⟨0, Nat.zero_le _⟩ ?_ ?_
  · ((try dsimp only); refine Ent.renC [0, 1, 2, 3, 4, 5, 6, 7, 8, 30] hC ?_ ?_ <;> repeat' (first | exact trivial | exact rfl | exact ⟨_, rfl, rfl, rfl, Nat.le_refl _, fun _ _ => rfl⟩ | exact ⟨_, rfl, rfl, rfl, fun _ _ => rfl⟩ | exact ⟨_, rfl, rfl, rfl⟩ | exact ⟨_, rfl, rfl⟩ | refine ⟨_, rfl, rfl, rfl, by omega, fun k hk => ?_⟩ | refine ⟨?_, ?_⟩ | fail))
    exact absurd hk (Nat.not_lt_zero _)
  rintro ⟨k, hkk⟩
  dsimp only
  (refine Tri.cut 1 Tryz.mixed Tryz.T_ok ?_; ((conv => arg 5; whnf); repeat (refine xS ?_; conv => arg 5; whnf)))
  refine wC (fun h1 => ?_) (fun h1 => ?_)
  · (refine wGo ?_; ((conv => arg 5; whnf); repeat (refine xS ?_; conv => arg 5; whnf)))
    have h1' : k < t.ins.length := (by (try simp only [ww] at *); omega)
    have hw : IntKind.i64.wrap ((k : Int) + 1) = ((k + 1 : Nat) : Int) := (by (try simp only [ww] at *); omega)
    refine wD <| cutG <| Tri.seq <| Tri.block <| Tri.of Tryz.mixed Tryz.T_ok ?_
    (refine wBegin ?_; ((conv => arg 5; whnf); repeat (refine xS ?_; conv => arg 5; whnf)))
    (repeat (refine wN ?_ ?_; exact (by (try simp only [ww] at *); omega); refine wGo ?_; ((conv => arg 5; whnf); repeat (refine xS ?_; conv => arg 5; whnf))))
    simp only [Nat.zero_add, Int.toNat_natCast]
    (refine wP _ _ (append_op Tryz.T_ok rfl rfl rfl rfl rfl [9, 29] (old_vec rfl rfl (Nat.le_refl _) rfl) (new_vec (lo := 0) rfl rfl (Nat.le_refl _) rfl) rfl (lt1 rfl) (by simp only [maxLen]; omega) (by dsimp only; omega)) ?_; ((conv => arg 5; whnf); repeat (refine xS ?_; conv => arg 5; whnf)))
    refine wD <| blockN <| cutG <| Tri.of Tryz.mixed Tryz.T_ok ?_
    (refine wBegin ?_; ((conv => arg 5; whnf); repeat (refine xS ?_; conv => arg 5; whnf)))
    refine wD <| loopN ⟨⟨k + 1, h1'⟩, by dsimp only; omega, ?_⟩
    rw [hw]
    ((try dsimp only); refine Ent.renC [0, 1, 2, 3, 4, 5, 6, 7, 8, 30] hC ?_ ?_ <;> repeat' (first | exact trivial | exact rfl | exact ⟨_, rfl, rfl, rfl, Nat.le_refl _, fun _ _ => rfl⟩ | exact ⟨_, rfl, rfl, rfl, fun _ _ => rfl⟩ | exact ⟨_, rfl, rfl, rfl⟩ | exact ⟨_, rfl, rfl⟩ | refine ⟨_, rfl, rfl, rfl, by omega, fun k hk => ?_⟩ | refine ⟨?_, ?_⟩ | fail))
    exact br_step rfl hk
  · (refine wGo ?_; ((conv => arg 5; whnf); repeat (refine xS ?_; conv => arg 5; whnf)))
    have h1' : k = t.ins.length := (by (try simp only [ww] at *); omega)
    subst h1'
    refine wD <| cutE <| loopX <| blockX <| cutG <| Tri.of Tryz.mixed Tryz.T_ok ?_
    (refine wBegin ?_; ((conv => arg 5; whnf); repeat (refine xS ?_; conv => arg 5; whnf)))
    (apply wP; exact (call_op rfl (entersB_of Tryz.func34 (by kernel_rfl)) rfl (hen.at [9, 1, 2, 3, 4, 5] ⟨lend_tx (t := t.msg) (lend_vecN (lo := 0) (List.length_map _).symm rfl rfl (by simp [TxM.msg]) (fun k hk => by rw [Nat.zero_add]; exact brF_insF (by simpa [TxM.msg] using hk))) (lend_ro0 rfl rfl) (lend_ro0 rfl rfl) (lend_ro0 rfl rfl) (lend_ro0 rfl rfl) (lend_ro0 rfl rfl), trivial⟩ trivial)); ((conv => arg 5; whnf); repeat (refine xS ?_; conv => arg 5; whnf)))
    (refine wP _ _ (cellsNew_op Tryz.T_ok rfl rfl rfl) ?_; ((conv => arg 5; whnf); repeat (refine xS ?_; conv => arg 5; whnf)))
    (apply wP; exact (call_op rfl (entersB_of Tryz.func35 (by kernel_rfl)) rfl ((digest_can 105 [payEnc t.msg, [byteI (IntKind.u8.wrap (i : Int))]] (short2 _ _ _ (by simp; omega))).at [19, 28, 29] ⟨lend_plain rfl, lend_parts [payEnc t.msg, [byteI (IntKind.u8.wrap (i : Int))]] rfl rfl rfl ⟨lend_vec0 rfl rfl, lend_vec (lo := 0) rfl rfl (Nat.le_refl _) (row1 (u8_byteI _).symm), trivial⟩, trivial⟩ trivial)); ((conv => arg 5; whnf); repeat (refine xS ?_; conv => arg 5; whnf)))
    exact wD (Ends.plain (.inr rfl) rfl rfl)
end Go.Proofs.YtmoohekgheoliaaGreatDoor
