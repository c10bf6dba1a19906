/- Parts Te Tf Tg Th Ti. -/
import Derived.Test.YtmoohekgheoliaaGreatDoorG17
set_option linter.unusedSimpArgs false
set_option linter.unusedVariables false
namespace Go.Proofs.YtmoohekgheoliaaGreatDoor
set_option maxRecDepth 100000
open Go.Sx
theorem rowB_numL (n : Int) : ∀ {w k : Nat}, k < w → bytesF (numB n) k = rowB (numL n w) k
  | w + 1, k, hk => by
    rw [numL]
    by_cases h : k < w
    · rw [rowB_numL n h]
      simp [rowB, bytesF, List.getD_eq_getElem?_getD, List.getElem?_append_left (show k < (numL n w).length by rw [numL_length]; exact h)]
    · obtain rfl : k = w := by omega
      simp [rowB, bytesF, List.getD_eq_getElem?_getD, numL_length]
def digF (n : Int) (i : Nat) : Nat → UInt8 := fun k => if k < i then numB n k else 0
def digSt (n : Int) (w i : Nat) : St :=
  ⟨[some (XV.int .i64 n), none, none, none, none, some (XV.sv (.slc 2 1 0 w)), none, none, none, some (XV.sv (.slc 2 1 0 w)), some (XV.int .i64 w), some (XV.int .i64 i)] ++ List.replicate 12 none,
   [(2, .vec 5 1 w (bytesF (digF n i)))], 3⟩
theorem digits_can (n : Int) (w : Nat) (hw : w ≤ 7) : Makes Tryz.prog 144 [.plain (.one (.raw (.int .i64 n))), .plain (.one (.raw (.int .i64 w)))] [] (XV.sv (.slc 0 1 0 w)) (.vec 5 1 w (rowB (numL n w))) := by
  refine Makes.of Tryz.T_ok Tryz.func144 rfl _ _ _ _ rfl rfl rfl rfl 2 (fun C hC => ?_)
  (replace hC : C.n0 = 2 := hC; change Tri _ _ _ ⟨_, _, 2⟩ _)
  (refine Tri.cut 2 Tryz.mixed Tryz.T_ok ?_; ((conv => arg 5; whnf); repeat (refine xS ?_; conv => arg 5; whnf)))
  refine wN ⟨rfl, by omega, by omega⟩ ?_
  (refine wGo ?_; ((conv => arg 5; whnf); repeat (refine xS ?_; conv => arg 5; whnf)))
  refine wD <| cutG <| Tri.seq ?_
  (refine Tri.cut 1 Tryz.mixed Tryz.T_ok ?_; ((conv => arg 5; whnf); repeat (refine xS ?_; conv => arg 5; whnf)))
  refine wD <| cutG <| Tri.block ?_
  refine Tri.loop (α := { i : Nat // i ≤ w }) (fun i => digSt n w i.1) (fun i => w - i.1) ⟨0, Nat.zero_le _⟩ ?_ ?_
  · simp only [Int.toNat_natCast]
    ((try dsimp only); refine Ent.renC [0, 1, 4] hC ?_ ?_ <;> repeat' (first | exact trivial | exact rfl | exact ⟨_, rfl, rfl, rfl, Nat.le_refl _, fun _ _ => rfl⟩ | exact ⟨_, rfl, rfl, rfl, fun _ _ => rfl⟩ | exact ⟨_, rfl, rfl, rfl⟩ | exact ⟨_, rfl, rfl⟩ | refine ⟨_, rfl, rfl, rfl, by omega, fun k hk => ?_⟩ | refine ⟨?_, ?_⟩ | fail))
  rintro ⟨i, hi⟩
  dsimp only
  (refine Tri.cut 2 Tryz.mixed Tryz.T_ok ?_; ((conv => arg 5; whnf); repeat (refine xS ?_; conv => arg 5; whnf)))
  refine wC (fun h1 => ?_) (fun h1 => ?_)
  · (refine wGo ?_; ((conv => arg 5; whnf); repeat (refine xS ?_; conv => arg 5; whnf)))
    have h1' : i < w := (by (try simp only [ww] at *); omega)
    have hw1 : IntKind.i64.wrap ((i : Int) + 1) = ((i + 1 : Nat) : Int) := (by (try simp only [ww] at *); omega)
    have hw8 : IntKind.i64.wrap (8 * (i : Int)) = ((8 * i : Nat) : Int) := (by (try simp only [ww] at *); omega)
    refine wD <| cutG <| Tri.seq <| Tri.block <| Tri.of Tryz.mixed Tryz.T_ok ?_
    (refine wBegin ?_; ((conv => arg 5; whnf); repeat (refine xS ?_; conv => arg 5; whnf)))
    simp only [hw8]
    (repeat (refine wN ?_ ?_; exact (by (try simp only [ww] at *); omega); refine wGo ?_; ((conv => arg 5; whnf); repeat (refine xS ?_; conv => arg 5; whnf))))
    refine wD <| blockN <| cutG <| Tri.of Tryz.mixed Tryz.T_ok ?_
    (refine wBegin ?_; ((conv => arg 5; whnf); repeat (refine xS ?_; conv => arg 5; whnf)))
    refine wD <| loopN ⟨⟨i + 1, h1'⟩, by dsimp only; omega, ?_⟩
    rw [hw1]
    ((try dsimp only); refine Ent.renC [0, 1, 2] hC ?_ ?_ <;> repeat' (first | exact trivial | exact rfl | exact ⟨_, rfl, rfl, rfl, Nat.le_refl _, fun _ _ => rfl⟩ | exact ⟨_, rfl, rfl, rfl, fun _ _ => rfl⟩ | exact ⟨_, rfl, rfl, rfl⟩ | exact ⟨_, rfl, rfl⟩ | refine ⟨_, rfl, rfl, rfl, by omega, fun k hk => ?_⟩ | refine ⟨?_, ?_⟩ | fail))
    simp only [Int.toNat_natCast, Nat.zero_add]
    rw [← u8_byteI, updB]
    simp only [bytesF, digF]
    by_cases hk2 : k = i
    · subst hk2
      rw [if_pos rfl, if_pos (Nat.lt_succ_self k)]
      rfl
    · rw [if_neg hk2]
      by_cases hk3 : k < i
      · rw [if_pos hk3, if_pos (by omega)]
      · rw [if_neg hk3, if_neg (by omega)]
  · (refine wGo ?_; ((conv => arg 5; whnf); repeat (refine xS ?_; conv => arg 5; whnf)))
    have h1' : i = w := (by (try simp only [ww] at *); omega)
    subst h1'
    have hf : ∀ k, k < i → bytesF (digF n i) k = rowB (numL n i) k := fun k hk => by
      rw [← rowB_numL n hk]; simp [bytesF, digF, hk]
    refine wD <| cutE <| loopX <| blockX <| cutG <| Tri.ent (Ent.chg0 (c := 2) (g := rowB (numL n i)) rfl hf) <| Tri.of Tryz.mixed Tryz.T_ok ?_
    (refine wBegin ?_; ((conv => arg 5; whnf); repeat (refine xS ?_; conv => arg 5; whnf)))
    exact wD (Ends.made (.inr rfl) (Ent.refl _) rfl (Nat.le_refl _) rfl)
structure WrM where
  b : List UInt8
  e : Int
def wrM (ty : TypeId) (W : WrM) : Mem := [(0, .cells ty [.slc 1 1 0 W.b.length, .raw (.int .i64 W.e)]), (1, .vec 5 1 W.b.length (rowB W.b))]
def wrP (ty : TypeId) (W : WrM) : AbsP := packP (wrM ty W) True
theorem WrM.opens {P : Program} {C : Ctx} {cd : Code} {slots : List (Option XV)} {mem : Mem} {nx : Nat} {Q : Exit → St → Prop} (ty : TypeId) (W : WrM) (c : Nat) (hc : mem.get c = some (.abs (wrP ty W)))
    (h : Tri P C cd ⟨slots, (c, .cells ty [.slc (nx + 1) 1 0 W.b.length, .raw (.int .i64 W.e)]) :: (nx + 1, .vec 5 1 W.b.length (rowB W.b)) :: mem.del c, nx + 2⟩ Q) : Tri P C cd ⟨slots, mem, nx⟩ Q :=
  Tri.opens (M := wrM ty W) (m := 2) (inv := True) (c := c) hc rfl fun _ => h
theorem WrM.shuts {C : Ctx} {slots : List (Option XV)} {mem : Mem} {nx : Nat} (ty : TypeId) (W : WrM) (c : Nat) {i1 m n : Nat} {er : Int} {f : Nat → List Value} (k0 : mem.get c = some (.cells ty [.slc i1 1 0 m, .raw (.int .i64 er)])) (k1 : mem.get i1 = some (.vec 5 1 n f))
    (hids : Nat.beq c i1 = false) (hm : m = W.b.length) (he : er = W.e) (hle : W.b.length ≤ n) (hf : ∀ i, i < W.b.length → f i = rowB W.b i) : Ent C ⟨slots, mem, nx⟩ ⟨slots, (c, .abs (wrP ty W)) :: mem.dels [c, i1], nx⟩ := by
  subst hm he
  exact Ent.shut2 (S := ⟨slots, mem, nx⟩) (M := wrM ty W) (inv := True) hids trivial rfl rfl rfl k0 k1 rfl ⟨rfl, rfl⟩ ⟨rfl, rfl, hle, hf⟩
theorem WrM.ends {C : Ctx} {T : TyTab} {rs : List ResultVar} {X X' : XV} {e : Exit} {n0 : Nat} {slots : List (Option XV)} {mem : Mem} {nx : Nat} {W0 : WrM} (ty : TypeId) (W : WrM) {i1 m n : Nat} {er : Int} {f : Nat → List Value} (he : e = .normal ∨ e = .ret)
    (k0 : mem.get 0 = some (.cells ty [.slc i1 1 0 m, .raw (.int .i64 er)])) (k1 : mem.get i1 = some (.vec 5 1 n f)) (hids : Nat.beq 0 i1 = false) (hr : resX T ⟨slots, (0, .abs (wrP ty W)) :: mem.dels [0, i1], nx⟩ rs = some X') (hX : X' = X) (hW : W = W0)
    (hm : m = W.b.length) (her : er = W.e) (hle : W.b.length ≤ n) (hf : ∀ i, i < W.b.length → f i = rowB W.b i) : Sx.Ends C T rs 1 n0 ⟨X, [(0, .abs (wrP ty W0))], none⟩ e ⟨slots, mem, nx⟩ := by
  subst hX hW
  exact Ends.shutN he (WrM.shuts ty W 0 k0 k1 hids hm her hle hf) rfl hr rfl
def WrM.put (W : WrM) (b : List UInt8) : WrM := if W.e = 0 then (if (131072 : Int) - (W.b.length : Int) < (b.length : Int) then ⟨W.b, 3⟩ else ⟨W.b ++ b, W.e⟩) else W
theorem put_can (ty : TypeId) (W : WrM) (b : List UInt8) (hW : W.b.length ≤ 1000000) (hb : b.length ≤ 1000000) : Acts Tryz.prog 143 (.abs (wrP ty W)) (.abs (wrP ty (W.put b))) [.row 1 b.length (rowB b)] [] (.tup []) := by
  refine Acts.of Tryz.T_ok Tryz.func143 rfl _ _ _ _ _ rfl rfl rfl (fun C hC => ?_)
  (replace hC : C.n0 = 2 := hC; change Tri _ _ _ ⟨_, _, 2⟩ _)
  refine WrM.opens ty W 0 rfl (Tri.of Tryz.mixed Tryz.T_ok ?_)
  (refine wBegin ?_; ((conv => arg 5; whnf); repeat (refine xS ?_; conv => arg 5; whnf)))
  refine wC (fun h1 => ?_) (fun h1 => ?_)
  · have h1' : ¬ W.e = 0 := by simpa using h1
    (refine wGo ?_; ((conv => arg 5; whnf); repeat (refine xS ?_; conv => arg 5; whnf)))
    refine wD (WrM.ends ty W (.inl rfl) rfl rfl rfl rfl rfl ?_ rfl rfl (Nat.le_refl _) (fun _ _ => rfl))
    rw [WrM.put, if_neg h1']
  · have h1' : W.e = 0 := by simpa using h1
    (refine wGo ?_; ((conv => arg 5; whnf); repeat (refine xS ?_; conv => arg 5; whnf)))
    have e1 : IntKind.i64.wrap (131072 - (W.b.length : Int)) = 131072 - (W.b.length : Int) := (by (try simp only [ww] at *); omega)
    simp only [e1]
    refine wC (fun h2 => ?_) (fun h2 => ?_)
    · have h2' : (131072 : Int) - (W.b.length : Int) < (b.length : Int) := of_decide_eq_true h2
      (refine wGo ?_; ((conv => arg 5; whnf); repeat (refine xS ?_; conv => arg 5; whnf)))
      refine wD (WrM.ends ty ⟨W.b, 3⟩ (.inl rfl) rfl rfl rfl rfl rfl ?_ rfl rfl (Nat.le_refl _) (fun _ _ => rfl))
      rw [WrM.put, if_pos h1', if_pos h2']
    · have h2' : ¬ (131072 : Int) - (W.b.length : Int) < (b.length : Int) := of_decide_eq_false h2
      (refine wGo ?_; ((conv => arg 5; whnf); repeat (refine xS ?_; conv => arg 5; whnf)))
      (refine wP _ _ (append_op Tryz.T_ok rfl rfl rfl rfl rfl [3, 1] (old_vec rfl rfl (Nat.le_refl _) rfl) (new_ro (lo := 0) rfl rfl (Nat.le_of_eq (Nat.zero_add _)) rfl) rfl (fun _ _ => rfl) (by simp only [maxLen]; omega) (by dsimp only; omega)) ?_; ((conv => arg 5; whnf); repeat (refine xS ?_; conv => arg 5; whnf)))
      refine wD (WrM.ends ty ⟨W.b ++ b, W.e⟩ (.inl rfl) rfl rfl rfl rfl rfl ?_ (List.length_append).symm rfl (Nat.le_of_eq List.length_append) (fun i hi => ?_))
      · rw [WrM.put, if_pos h1', if_neg h2']
      · exact rowB_join rfl (fun _ _ => rfl) (fun _ _ => by rw [Nat.zero_add]) (by rw [← List.length_append]; exact hi)
def FitsN (n : Int) (w : Nat) : Prop := 1 ≤ w ∧ w ≤ 7 ∧ 0 ≤ n ∧ n < 2 ^ (8 * w)
theorem fits_shr {n : Int} {w : Nat} (h : FitsN n w) : shrI .i64 n ((8 * w : Nat) : Int) = 0 := by
  obtain ⟨h1, h2, h3, h4⟩ := h
  have hb : IntKind.i64.bits = 64 := rfl
  have e : min (((8 * w : Nat) : Int).toNat) IntKind.i64.bits = 8 * w := by rw [hb]; omega
  rw [shrI, e, Int.fdiv_eq_ediv_of_nonneg _ (Int.le_of_lt (Int.pow_pos (by decide)))]
  exact Int.ediv_eq_zero_of_lt h3 h4
theorem wnum_can (ty : TypeId) (W : WrM) (n : Int) (w : Nat) (hn : FitsN n w) (hW : W.b.length ≤ 1000000) : Acts Tryz.prog 121 (.abs (wrP ty W)) (.abs (wrP ty (W.put (numL n w)))) [.plain (.one (.raw (.int .i64 n))), .plain (.one (.raw (.int .i64 w)))] [] (.tup []) := by
  obtain ⟨f1, f2, f3, f4⟩ := id hn
  refine Acts.of Tryz.T_ok Tryz.func121 rfl _ _ _ _ _ rfl rfl rfl (fun C hC => ?_)
  (replace hC : C.n0 = 3 := hC; change Tri _ _ _ ⟨_, _, 3⟩ _)
  refine WrM.opens ty W 0 rfl (Tri.block ?_)
  (refine Tri.cut 1 Tryz.mixed Tryz.T_ok ?_; ((conv => arg 5; whnf); repeat (refine xS ?_; conv => arg 5; whnf)))
  refine wD <| cutG <| Tri.cond (b := (W.e != 0)) rfl (fun h1 => ?_) (fun h1 => ?_)
  · have h1' : ¬ W.e = 0 := by simpa using h1
    refine Tri.skip (blockN (WrM.ends ty W (.inl rfl) rfl rfl rfl rfl rfl ?_ rfl rfl (Nat.le_refl _) (fun _ _ => rfl)))
    rw [WrM.put, if_neg h1']
  · have e8 : IntKind.i64.wrap (8 * (w : Int)) = ((8 * w : Nat) : Int) := (by (try simp only [ww] at *); omega)
    refine Tri.ent (WrM.shuts ty W 0 rfl rfl rfl rfl rfl (Nat.le_refl _) (fun _ _ => rfl)) (Tri.of Tryz.mixed Tryz.T_ok ?_)
    (refine wBegin ?_; ((conv => arg 5; whnf); repeat (refine xS ?_; conv => arg 5; whnf)))
    (refine wFd ?_ ?_; (first | refine decide_eq_false ?_ | rw [beq_eq_false_iff_ne] | rw [bne_eq_false_iff_eq]); exact (by (try simp only [ww] at *); omega); refine wGo ?_; ((conv => arg 5; whnf); repeat (refine xS ?_; conv => arg 5; whnf)))
    (refine wFd ?_ ?_; (first | refine decide_eq_false ?_ | rw [beq_eq_false_iff_ne] | rw [bne_eq_false_iff_eq]); exact (by (try simp only [ww] at *); omega); refine wGo ?_; ((conv => arg 5; whnf); repeat (refine xS ?_; conv => arg 5; whnf)))
    (refine wFd ?_ ?_; (first | refine decide_eq_false ?_ | rw [beq_eq_false_iff_ne] | rw [bne_eq_false_iff_eq]); exact (by (try simp only [ww] at *); omega); refine wGo ?_; ((conv => arg 5; whnf); repeat (refine xS ?_; conv => arg 5; whnf)))
    simp only [e8]
    (repeat (refine wN ?_ ?_; exact (by (try simp only [ww] at *); omega); refine wGo ?_; ((conv => arg 5; whnf); repeat (refine xS ?_; conv => arg 5; whnf))))
    simp only [fits_shr hn]
    (refine wFd rfl ?_; refine wGo ?_; ((conv => arg 5; whnf); repeat (refine xS ?_; conv => arg 5; whnf)))
    (apply wP; exact (call_op rfl (entersB_of Tryz.func144 (by kernel_rfl)) rfl ((digits_can n w f2).at [] ⟨lend_plain rfl, lend_plain rfl, trivial⟩ trivial)); ((conv => arg 5; whnf); repeat (refine xS ?_; conv => arg 5; whnf)))
    (apply wP; exact (call_op rfl (entersB_of Tryz.func143 (by kernel_rfl)) rfl ((put_can ty W (numL n w) hW (by rw [numL_length]; omega)).at [36] rfl rfl rfl ⟨lend_vecN (numL_length n w).symm rfl rfl (by rw [numL_length]; omega) (fun i _ => by rw [Nat.zero_add]), trivial⟩ trivial)); ((conv => arg 5; whnf); repeat (refine xS ?_; conv => arg 5; whnf)))
    exact wD (blockN (Ends.shutN (.inl rfl) (Ent.refl _) rfl rfl rfl))
def WrM.hash (W : WrM) (h : H8) : WrM := W.put h.l
theorem whash_can (ty : TypeId) (W : WrM) (h : H8) (hW : W.b.length ≤ 1000000) : Acts Tryz.prog 145 (.abs (wrP ty W)) (.abs (wrP ty (W.put h.l))) [.plain h.x] [] (.tup []) := by
  refine Acts.of Tryz.T_ok Tryz.func145 rfl _ _ _ _ _ rfl rfl rfl (fun C hC => ?_)
  (replace hC : C.n0 = 2 := hC; change Tri _ _ _ ⟨_, _, 2⟩ _)
  refine Tri.of Tryz.mixed Tryz.T_ok ?_
  (refine wBegin ?_; ((conv => arg 5; whnf); repeat (refine xS ?_; conv => arg 5; whnf)))
  (apply wP; exact (call_op rfl (entersB_of Tryz.func143 (by kernel_rfl)) rfl ((put_can ty W h.l hW (by simp [H8.l_len])).at [2] rfl rfl rfl ⟨lend_sla rfl rfl (fun _ _ => rfl) rfl, trivial⟩ trivial)); ((conv => arg 5; whnf); repeat (refine xS ?_; conv => arg 5; whnf)))
  exact wD (Ends.shutN (.inl rfl) (Ent.refl _) rfl rfl rfl)
end Go.Proofs.YtmoohekgheoliaaGreatDoor
namespace Go.Proofs.YtmoohekgheoliaaGreatDoor
set_option maxRecDepth 100000
open Go.Sx
def WrM.puts (W : WrM) (cs : List (List UInt8)) : WrM := cs.foldl WrM.put W
theorem puts_snoc (W : WrM) (cs : List (List UInt8)) (c : List UInt8) : W.puts (cs ++ [c]) = (W.puts cs).put c := by simp [WrM.puts]
theorem puts_append (W : WrM) (cs ds : List (List UInt8)) : W.puts (cs ++ ds) = (W.puts cs).puts ds := by simp [WrM.puts]
theorem put_len {W : WrM} {b : List UInt8} (h : W.b.length ≤ 131072) : (W.put b).b.length ≤ 131072 := by
  unfold WrM.put
  split
  · split
    · exact h
    · rename_i h2
      simp only [List.length_append]
      omega
  · exact h
theorem puts_len : ∀ {cs : List (List UInt8)} {W : WrM}, W.b.length ≤ 131072 → (W.puts cs).b.length ≤ 131072
  | [], _, h => h
  | c :: cs, W, h => puts_len (cs := cs) (put_len (b := c) h)
theorem puts_ok : ∀ {cs : List (List UInt8)} {W : WrM}, W.e = 0 → W.b.length + cs.flatten.length ≤ 131072 → W.puts cs = ⟨W.b ++ cs.flatten, 0⟩
  | [], W, h, _ => by
    cases W
    simp only at h
    simp [WrM.puts, h]
  | c :: cs, W, h, hl => by
    simp only [List.flatten_cons, List.length_append] at hl
    have e : W.put c = ⟨W.b ++ c, 0⟩ := by
      rw [WrM.put, if_pos h, if_neg (by omega), h]
    show (W.put c).puts cs = _
    rw [e, puts_ok rfl (by simp only [List.length_append]; omega)]
    simp
def hashesL (p : Nat → H8) (n : Nat) : List (List UInt8) := (List.range n).map fun i => (p i).l
theorem hashesL_succ (p : Nat → H8) (n : Nat) : hashesL p (n + 1) = hashesL p n ++ [(p n).l] := by simp [hashesL, List.range_succ]
theorem row_can (ty : TypeId) (W : WrM) (p : Nat → H8) (n : Nat) (hn : n ≤ 1000000000) (hW : W.b.length ≤ 131072) : Acts Tryz.prog 147 (.abs (wrP ty W)) (.abs (wrP ty (W.puts (hashesL p n)))) [.row 8 n (hashF p)] [] (.tup []) := by
  refine Acts.of Tryz.T_ok Tryz.func147 rfl _ _ _ _ _ rfl rfl rfl (fun C hC => ?_)
  (replace hC : C.n0 = 2 := hC; change Tri _ _ _ ⟨_, _, 2⟩ _)
  (refine Tri.cut 1 Tryz.mixed Tryz.T_ok ?_; ((conv => arg 5; whnf); repeat (refine xS ?_; conv => arg 5; whnf)))
  refine wD <| cutG <| Tri.block ?_
  refine Tri.loop (α := { i : Nat // i ≤ n }) (fun i => ⟨[some (XV.sv (.ptr 0 0 0 0)), none, none, none, none, none, some (XV.sv (.slc 1 8 0 n)), some (XV.int .i64 n), some (XV.int .i64 i.1)] ++ List.replicate 9 none, [(0, .abs (wrP ty (W.puts (hashesL p i.1)))), (1, .ro 8 n (hashF p))], 2⟩) (fun i => n - i.1) ⟨0, Nat.zero_le _⟩ ?_ ?_
  · ((try dsimp only); refine Ent.renC [0, 1] hC ?_ ?_ <;> repeat' (first | exact trivial | exact rfl | exact ⟨_, rfl, rfl, rfl, Nat.le_refl _, fun _ _ => rfl⟩ | exact ⟨_, rfl, rfl, rfl, fun _ _ => rfl⟩ | exact ⟨_, rfl, rfl, rfl⟩ | exact ⟨_, rfl, rfl⟩ | refine ⟨_, rfl, rfl, rfl, by omega, fun k hk => ?_⟩ | refine ⟨?_, ?_⟩ | fail))
  rintro ⟨i, hi⟩
  dsimp only
  (refine Tri.cut 2 Tryz.mixed Tryz.T_ok ?_; ((conv => arg 5; whnf); repeat (refine xS ?_; conv => arg 5; whnf)))
  refine wC (fun h1 => ?_) (fun h1 => ?_)
  · (refine wGo ?_; ((conv => arg 5; whnf); repeat (refine xS ?_; conv => arg 5; whnf)))
    have h1' : i < n := (by (try simp only [ww] at *); omega)
    have hw : IntKind.i64.wrap ((i : Int) + 1) = ((i + 1 : Nat) : Int) := (by (try simp only [ww] at *); omega)
    have hp := puts_len (cs := hashesL p i) hW
    refine wD <| cutG <| Tri.seq <| Tri.block <| Tri.of Tryz.mixed Tryz.T_ok ?_
    (refine wBegin ?_; ((conv => arg 5; whnf); repeat (refine xS ?_; conv => arg 5; whnf)))
    (repeat (refine wN ?_ ?_; exact (by (try simp only [ww] at *); omega); refine wGo ?_; ((conv => arg 5; whnf); repeat (refine xS ?_; conv => arg 5; whnf))))
    simp only [Nat.zero_add, Int.toNat_natCast]
    (apply wP; exact (call_op rfl (entersB_of Tryz.func145 (by kernel_rfl)) rfl ((whash_can ty (W.puts (hashesL p i)) (p i) (by omega)).at [] rfl rfl rfl ⟨lend_plain rfl, trivial⟩ trivial)); ((conv => arg 5; whnf); repeat (refine xS ?_; conv => arg 5; whnf)))
    refine wD <| blockN <| cutG <| Tri.of Tryz.mixed Tryz.T_ok ?_
    (refine wBegin ?_; ((conv => arg 5; whnf); repeat (refine xS ?_; conv => arg 5; whnf)))
    refine wD <| loopN ⟨⟨i + 1, h1'⟩, by dsimp only; omega, ?_⟩
    rw [hw]
    dsimp only
    rw [hashesL_succ, puts_snoc]
    ((try dsimp only); refine Ent.renC [0, 1] hC ?_ ?_ <;> repeat' (first | exact trivial | exact rfl | exact ⟨_, rfl, rfl, rfl, Nat.le_refl _, fun _ _ => rfl⟩ | exact ⟨_, rfl, rfl, rfl, fun _ _ => rfl⟩ | exact ⟨_, rfl, rfl, rfl⟩ | exact ⟨_, rfl, rfl⟩ | refine ⟨_, rfl, rfl, rfl, by omega, fun k hk => ?_⟩ | refine ⟨?_, ?_⟩ | fail))
  · (refine wGo ?_; ((conv => arg 5; whnf); repeat (refine xS ?_; conv => arg 5; whnf)))
    have h1' : i = n := (by (try simp only [ww] at *); omega)
    subst h1'
    exact wD <| cutE <| loopX <| blockX (Ends.shutN (.inl rfl) (Ent.refl _) rfl rfl rfl)
def SigM.parts (s : SigM) : List (List UInt8) := numL s.idx 1 :: (hashesL s.opn 16 ++ (hashesL s.shut 16 ++ hashesL s.path 3))
theorem sig_can (ty : TypeId) (W : WrM) (s : SigM) (hs : FitsN s.idx 1) (hW : W.b.length ≤ 131072) : Acts Tryz.prog 146 (.abs (wrP ty W)) (.abs (wrP ty (W.puts s.parts))) [.plain s.x] [] (.tup []) := by
  have h1 := put_len (b := numL s.idx 1) hW
  have h2 := puts_len (cs := hashesL s.opn 16) h1
  have h3 := puts_len (cs := hashesL s.shut 16) h2
  refine Acts.of Tryz.T_ok Tryz.func146 rfl _ _ _ _ _ rfl rfl rfl (fun C hC => ?_)
  (replace hC : C.n0 = 2 := hC; change Tri _ _ _ ⟨_, _, 2⟩ _)
  refine Tri.of Tryz.mixed Tryz.T_ok ?_
  (refine wBegin ?_; ((conv => arg 5; whnf); repeat (refine xS ?_; conv => arg 5; whnf)))
  (apply wP; exact (call_op rfl (entersB_of Tryz.func121 (by kernel_rfl)) rfl ((wnum_can ty W s.idx 1 hs (by omega)).at [] rfl rfl rfl ⟨lend_plain rfl, lend_plain rfl, trivial⟩ trivial)); ((conv => arg 5; whnf); repeat (refine xS ?_; conv => arg 5; whnf)))
  (apply wP; exact (call_op rfl (entersB_of Tryz.func147 (by kernel_rfl)) rfl ((row_can ty (W.put (numL s.idx 1)) s.opn 16 (by decide) h1).at [2] rfl rfl rfl ⟨lend_sla rfl rfl (fun _ _ => rfl) rfl, trivial⟩ trivial)); ((conv => arg 5; whnf); repeat (refine xS ?_; conv => arg 5; whnf)))
  (apply wP; exact (call_op rfl (entersB_of Tryz.func147 (by kernel_rfl)) rfl ((row_can ty ((W.put (numL s.idx 1)).puts (hashesL s.opn 16)) s.shut 16 (by decide) h2).at [2] rfl rfl rfl ⟨lend_sla rfl rfl (fun _ _ => rfl) rfl, trivial⟩ trivial)); ((conv => arg 5; whnf); repeat (refine xS ?_; conv => arg 5; whnf)))
  (apply wP; exact (call_op rfl (entersB_of Tryz.func147 (by kernel_rfl)) rfl ((row_can ty (((W.put (numL s.idx 1)).puts (hashesL s.opn 16)).puts (hashesL s.shut 16)) s.path 3 (by decide) h3).at [2] rfl rfl rfl ⟨lend_sla rfl rfl (fun _ _ => rfl) rfl, trivial⟩ trivial)); ((conv => arg 5; whnf); repeat (refine xS ?_; conv => arg 5; whnf)))
  have e : W.puts s.parts = (((W.put (numL s.idx 1)).puts (hashesL s.opn 16)).puts (hashesL s.shut 16)).puts (hashesL s.path 3) := by
    show (W.put (numL s.idx 1)).puts _ = _
    rw [puts_append, puts_append]
  rw [e]
  exact wD (Ends.shutN (.inl rfl) (Ent.refl _) rfl rfl rfl)
end Go.Proofs.YtmoohekgheoliaaGreatDoor
namespace Go.Proofs.YtmoohekgheoliaaGreatDoor
set_option maxRecDepth 100000
open Go.Sx
theorem flatMap_take_succ {E F : Type} [Inhabited E] (f : E → List F) {l : List E} {i : Nat} (hi : i < l.length) : (l.take (i + 1)).flatMap f = (l.take i).flatMap f ++ f (l.getD i default) := by
  rw [List.take_add_one, List.flatMap_append]
  have : l[i]?.toList = [l.getD i default] := by rw [List.getElem?_eq_getElem hi, List.getD_eq_getElem?_getD, List.getElem?_eq_getElem hi]; rfl
  rw [this]; simp
theorem all_at {E : Type} [Inhabited E] {p : E → Bool} {l : List E} (h : l.all p = true) {i : Nat} (hi : i < l.length) : p (l.getD i default) = true := by
  rw [List.getD_eq_getElem?_getD, List.getElem?_eq_getElem hi]
  exact List.all_eq_true.1 h _ (List.getElem_mem hi)
theorem within_iff {n a b : Int} : withinB n a b = true ↔ a ≤ n ∧ n ≤ b := by simp [withinB]
theorem fits_within {n b : Int} {w : Nat} (h : withinB n 0 b = true) (hw : 1 ≤ w ∧ w ≤ 7) (hb : b < 2 ^ (8 * w)) : FitsN n w := by
  rw [within_iff] at h
  exact ⟨hw.1, hw.2, h.1, Int.lt_of_le_of_lt h.2 hb⟩
theorem fits_money {n : Int} (h : moneyB n = true) : FitsN n 7 := by
  rw [moneyB, within_iff] at h
  exact ⟨by decide, by decide, by omega, by omega⟩
theorem fits_len {n : Nat} (h : n ≤ 255) : FitsN (n : Int) 1 := ⟨by decide, by decide, by omega, by omega⟩
def OutM.parts (o : OutM) : List (List UInt8) := [o.to.l, numL o.amt.toInt 7]
def outsParts (l : List OutM) : List (List UInt8) := numL (l.length : Int) 1 :: l.flatMap OutM.parts
theorem wouts_can (ty : TypeId) (W : WrM) (l : List OutM) (hl : outsOK l = true) (hW : W.b.length ≤ 131072) : Acts Tryz.prog 122 (.abs (wrP ty W)) (.abs (wrP ty (W.puts (outsParts l)))) [.row 9 l.length (outsF l)] [] (.tup []) := by
  rw [outsOK, Bool.and_eq_true, decide_eq_true_eq] at hl
  obtain ⟨ha, hn⟩ := hl
  refine Acts.of Tryz.T_ok Tryz.func122 rfl _ _ _ _ _ rfl rfl rfl (fun C hC => ?_)
  (replace hC : C.n0 = 2 := hC; change Tri _ _ _ ⟨_, _, 2⟩ _)
  (refine Tri.cut 2 Tryz.mixed Tryz.T_ok ?_; ((conv => arg 5; whnf); repeat (refine xS ?_; conv => arg 5; whnf)))
  (apply wP; exact (call_op rfl (entersB_of Tryz.func121 (by kernel_rfl)) rfl ((wnum_can ty W (l.length : Int) 1 (fits_len (by omega)) (by omega)).at [] rfl rfl rfl ⟨lend_plain rfl, lend_plain rfl, trivial⟩ trivial)); ((conv => arg 5; whnf); repeat (refine xS ?_; conv => arg 5; whnf)))
  refine wD <| cutG <| Tri.block ?_
  refine Tri.loop (α := { i : Nat // i ≤ l.length }) (fun i => ⟨[some (XV.sv (.ptr 0 0 0 0)), none, none, none, none, none, none, none, none, none, none, none, some (XV.sv (.slc 1 9 0 l.length)), some (XV.int .i64 l.length), some (XV.int .i64 i.1)] ++ List.replicate 16 none, [(0, .abs (wrP ty (W.puts (numL (l.length : Int) 1 :: (l.take i.1).flatMap OutM.parts)))), (1, .ro 9 l.length (outsF l))], 2⟩) (fun i => l.length - i.1) ⟨0, Nat.zero_le _⟩ ?_ ?_
  · ((try dsimp only); refine Ent.renC [0, 1] hC ?_ ?_ <;> repeat' (first | exact trivial | exact rfl | exact ⟨_, rfl, rfl, rfl, Nat.le_refl _, fun _ _ => rfl⟩ | exact ⟨_, rfl, rfl, rfl, fun _ _ => rfl⟩ | exact ⟨_, rfl, rfl, rfl⟩ | exact ⟨_, rfl, rfl⟩ | refine ⟨_, rfl, rfl, rfl, by omega, fun k hk => ?_⟩ | refine ⟨?_, ?_⟩ | fail))
  rintro ⟨i, hi⟩
  dsimp only
  (refine Tri.cut 2 Tryz.mixed Tryz.T_ok ?_; ((conv => arg 5; whnf); repeat (refine xS ?_; conv => arg 5; whnf)))
  refine wC (fun h1 => ?_) (fun h1 => ?_)
  · (refine wGo ?_; ((conv => arg 5; whnf); repeat (refine xS ?_; conv => arg 5; whnf)))
    have h1' : i < l.length := (by (try simp only [ww] at *); omega)
    have hw : IntKind.i64.wrap ((i : Int) + 1) = ((i + 1 : Nat) : Int) := (by (try simp only [ww] at *); omega)
    have ho := all_at ha h1'
    rw [outOK, Bool.and_eq_true] at ho
    have hp := puts_len (cs := numL (l.length : Int) 1 :: (l.take i).flatMap OutM.parts) hW
    have hp2 := put_len (b := (l.getD i default).to.l) hp
    refine wD <| cutG <| Tri.seq <| Tri.block <| Tri.of Tryz.mixed Tryz.T_ok ?_
    (refine wBegin ?_; ((conv => arg 5; whnf); repeat (refine xS ?_; conv => arg 5; whnf)))
    (repeat (refine wN ?_ ?_; exact (by (try simp only [ww] at *); omega); refine wGo ?_; ((conv => arg 5; whnf); repeat (refine xS ?_; conv => arg 5; whnf))))
    simp only [Nat.zero_add, Int.toNat_natCast]
    (apply wP; exact (call_op rfl (entersB_of Tryz.func145 (by kernel_rfl)) rfl ((whash_can ty (W.puts (numL (l.length : Int) 1 :: (l.take i).flatMap OutM.parts)) (l.getD i default).to (by omega)).at [] rfl rfl rfl ⟨lend_plain rfl, trivial⟩ trivial)); ((conv => arg 5; whnf); repeat (refine xS ?_; conv => arg 5; whnf)))
    (apply wP; exact (call_op rfl (entersB_of Tryz.func121 (by kernel_rfl)) rfl ((wnum_can ty ((W.puts (numL (l.length : Int) 1 :: (l.take i).flatMap OutM.parts)).put (l.getD i default).to.l) (l.getD i default).amt.toInt 7 (fits_money ho.2) (by omega)).at [] rfl rfl rfl ⟨lend_plain rfl, lend_plain rfl, trivial⟩ trivial)); ((conv => arg 5; whnf); repeat (refine xS ?_; conv => arg 5; whnf)))
    refine wD <| blockN <| cutG <| Tri.of Tryz.mixed Tryz.T_ok ?_
    (refine wBegin ?_; ((conv => arg 5; whnf); repeat (refine xS ?_; conv => arg 5; whnf)))
    refine wD <| loopN ⟨⟨i + 1, h1'⟩, by dsimp only; omega, ?_⟩
    rw [hw]
    dsimp only
    rw [flatMap_take_succ _ h1', ← List.cons_append, puts_append]
    ((try dsimp only); refine Ent.renC [0, 1] hC ?_ ?_ <;> repeat' (first | exact trivial | exact rfl | exact ⟨_, rfl, rfl, rfl, Nat.le_refl _, fun _ _ => rfl⟩ | exact ⟨_, rfl, rfl, rfl, fun _ _ => rfl⟩ | exact ⟨_, rfl, rfl, rfl⟩ | exact ⟨_, rfl, rfl⟩ | refine ⟨_, rfl, rfl, rfl, by omega, fun k hk => ?_⟩ | refine ⟨?_, ?_⟩ | fail))
  · (refine wGo ?_; ((conv => arg 5; whnf); repeat (refine xS ?_; conv => arg 5; whnf)))
    have h1' : i = l.length := (by (try simp only [ww] at *); omega)
    subst h1'
    rw [List.take_length]
    exact wD <| cutE <| loopX <| blockX (Ends.shutN (.inl rfl) (Ent.refl _) rfl rfl rfl)
def FwdM.parts (f : FwdM) : List (List UInt8) := [numL f.side.toInt 1, numL f.acct.toInt 2, f.owner.l, numL f.amt.toInt 7]
def fwdsParts (l : List FwdM) : List (List UInt8) := numL (l.length : Int) 1 :: l.flatMap FwdM.parts
theorem wfwds_can (ty : TypeId) (W : WrM) (l : List FwdM) (hl : fwdsOK l = true) (hW : W.b.length ≤ 131072) : Acts Tryz.prog 124 (.abs (wrP ty W)) (.abs (wrP ty (W.puts (fwdsParts l)))) [.row 11 l.length (fwdsF l)] [] (.tup []) := by
  rw [fwdsOK, Bool.and_eq_true, decide_eq_true_eq] at hl
  obtain ⟨ha, hn⟩ := hl
  refine Acts.of Tryz.T_ok Tryz.func124 rfl _ _ _ _ _ rfl rfl rfl (fun C hC => ?_)
  (replace hC : C.n0 = 2 := hC; change Tri _ _ _ ⟨_, _, 2⟩ _)
  (refine Tri.cut 2 Tryz.mixed Tryz.T_ok ?_; ((conv => arg 5; whnf); repeat (refine xS ?_; conv => arg 5; whnf)))
  (apply wP; exact (call_op rfl (entersB_of Tryz.func121 (by kernel_rfl)) rfl ((wnum_can ty W (l.length : Int) 1 (fits_len (by omega)) (by omega)).at [] rfl rfl rfl ⟨lend_plain rfl, lend_plain rfl, trivial⟩ trivial)); ((conv => arg 5; whnf); repeat (refine xS ?_; conv => arg 5; whnf)))
  refine wD <| cutG <| Tri.block ?_
  refine Tri.loop (α := { i : Nat // i ≤ l.length }) (fun i => ⟨[some (XV.sv (.ptr 0 0 0 0)), none, none, none, none, none, none, none, none, none, none, none, some (XV.sv (.slc 1 11 0 l.length)), some (XV.int .i64 l.length), some (XV.int .i64 i.1)] ++ List.replicate 28 none, [(0, .abs (wrP ty (W.puts (numL (l.length : Int) 1 :: (l.take i.1).flatMap FwdM.parts)))), (1, .ro 11 l.length (fwdsF l))], 2⟩) (fun i => l.length - i.1) ⟨0, Nat.zero_le _⟩ ?_ ?_
  · ((try dsimp only); refine Ent.renC [0, 1] hC ?_ ?_ <;> repeat' (first | exact trivial | exact rfl | exact ⟨_, rfl, rfl, rfl, Nat.le_refl _, fun _ _ => rfl⟩ | exact ⟨_, rfl, rfl, rfl, fun _ _ => rfl⟩ | exact ⟨_, rfl, rfl, rfl⟩ | exact ⟨_, rfl, rfl⟩ | refine ⟨_, rfl, rfl, rfl, by omega, fun k hk => ?_⟩ | refine ⟨?_, ?_⟩ | fail))
  rintro ⟨i, hi⟩
  dsimp only
  (refine Tri.cut 2 Tryz.mixed Tryz.T_ok ?_; ((conv => arg 5; whnf); repeat (refine xS ?_; conv => arg 5; whnf)))
  refine wC (fun h1 => ?_) (fun h1 => ?_)
  · (refine wGo ?_; ((conv => arg 5; whnf); repeat (refine xS ?_; conv => arg 5; whnf)))
    have h1' : i < l.length := (by (try simp only [ww] at *); omega)
    have hw : IntKind.i64.wrap ((i : Int) + 1) = ((i + 1 : Nat) : Int) := (by (try simp only [ww] at *); omega)
    have ho := all_at ha h1'
    rw [fwdOK, acctB, Bool.and_eq_true, Bool.and_eq_true, Bool.and_eq_true] at ho
    obtain ⟨V, hV, hp⟩ : ∃ V, W.puts (numL (l.length : Int) 1 :: (l.take i).flatMap FwdM.parts) = V ∧ V.b.length ≤ 131072 := ⟨_, rfl, puts_len hW⟩
    have hp1 := put_len (b := numL (l.getD i default).side.toInt 1) hp
    have hp2 := put_len (b := numL (l.getD i default).acct.toInt 2) hp1
    have hp3 := put_len (b := (l.getD i default).owner.l) hp2
    rw [hV]
    refine wD <| cutG <| Tri.seq <| Tri.block <| Tri.of Tryz.mixed Tryz.T_ok ?_
    (refine wBegin ?_; ((conv => arg 5; whnf); repeat (refine xS ?_; conv => arg 5; whnf)))
    (repeat (refine wN ?_ ?_; exact (by (try simp only [ww] at *); omega); refine wGo ?_; ((conv => arg 5; whnf); repeat (refine xS ?_; conv => arg 5; whnf))))
    simp only [Nat.zero_add, Int.toNat_natCast]
    (apply wP; exact (call_op rfl (entersB_of Tryz.func121 (by kernel_rfl)) rfl ((wnum_can ty V (l.getD i default).side.toInt 1 (fits_within ho.1.1.1 (by decide) (by decide)) (by omega)).at [] rfl rfl rfl ⟨lend_plain rfl, lend_plain rfl, trivial⟩ trivial)); ((conv => arg 5; whnf); repeat (refine xS ?_; conv => arg 5; whnf)))
    (apply wP; exact (call_op rfl (entersB_of Tryz.func121 (by kernel_rfl)) rfl ((wnum_can ty (V.put (numL (l.getD i default).side.toInt 1)) (l.getD i default).acct.toInt 2 (fits_within ho.1.1.2 (by decide) (by decide)) (by omega)).at [] rfl rfl rfl ⟨lend_plain rfl, lend_plain rfl, trivial⟩ trivial)); ((conv => arg 5; whnf); repeat (refine xS ?_; conv => arg 5; whnf)))
    (apply wP; exact (call_op rfl (entersB_of Tryz.func145 (by kernel_rfl)) rfl ((whash_can ty ((V.put (numL (l.getD i default).side.toInt 1)).put (numL (l.getD i default).acct.toInt 2)) (l.getD i default).owner (by omega)).at [] rfl rfl rfl ⟨lend_plain rfl, trivial⟩ trivial)); ((conv => arg 5; whnf); repeat (refine xS ?_; conv => arg 5; whnf)))
    (apply wP; exact (call_op rfl (entersB_of Tryz.func121 (by kernel_rfl)) rfl ((wnum_can ty (((V.put (numL (l.getD i default).side.toInt 1)).put (numL (l.getD i default).acct.toInt 2)).put (l.getD i default).owner.l) (l.getD i default).amt.toInt 7 (fits_money ho.2) (by omega)).at [] rfl rfl rfl ⟨lend_plain rfl, lend_plain rfl, trivial⟩ trivial)); ((conv => arg 5; whnf); repeat (refine xS ?_; conv => arg 5; whnf)))
    refine wD <| blockN <| cutG <| Tri.of Tryz.mixed Tryz.T_ok ?_
    (refine wBegin ?_; ((conv => arg 5; whnf); repeat (refine xS ?_; conv => arg 5; whnf)))
    refine wD <| loopN ⟨⟨i + 1, h1'⟩, by dsimp only; omega, ?_⟩
    rw [hw]
    dsimp only
    rw [flatMap_take_succ _ h1', ← List.cons_append, puts_append, hV]
    ((try dsimp only); refine Ent.renC [0, 1] hC ?_ ?_ <;> repeat' (first | exact trivial | exact rfl | exact ⟨_, rfl, rfl, rfl, Nat.le_refl _, fun _ _ => rfl⟩ | exact ⟨_, rfl, rfl, rfl, fun _ _ => rfl⟩ | exact ⟨_, rfl, rfl, rfl⟩ | exact ⟨_, rfl, rfl⟩ | refine ⟨_, rfl, rfl, rfl, by omega, fun k hk => ?_⟩ | refine ⟨?_, ?_⟩ | fail))
  · (refine wGo ?_; ((conv => arg 5; whnf); repeat (refine xS ?_; conv => arg 5; whnf)))
    have h1' : i = l.length := (by (try simp only [ww] at *); omega)
    subst h1'
    rw [List.take_length]
    exact wD <| cutE <| loopX <| blockX (Ends.shutN (.inl rfl) (Ent.refl _) rfl rfl rfl)
def InM.parts (x : InM) : List (List UInt8) := x.pt.tx.l :: numL x.pt.no.toInt 1 :: x.key.l :: x.sig.parts
def insParts (l : List InM) : List (List UInt8) := numL (l.length : Int) 1 :: l.flatMap InM.parts
theorem range_all_at {p : Nat → Bool} {n i : Nat} (h : (List.range n).all p = true) (hi : i < n) : p i = true := List.all_eq_true.1 h i (List.mem_range.2 hi)
set_option maxHeartbeats 1000000 in
theorem wins_can (ty : TypeId) (W : WrM) (l : List InM) (hl : insOK l = true) (hW : W.b.length ≤ 131072) : Acts Tryz.prog 123 (.abs (wrP ty W)) (.abs (wrP ty (W.puts (insParts l)))) [.row 298 l.length (insF l)] [] (.tup []) := by
  rw [insOK, Bool.and_eq_true, within_iff] at hl
  obtain ⟨ha, hn⟩ := hl
  refine Acts.of Tryz.T_ok Tryz.func123 rfl _ _ _ _ _ rfl rfl rfl (fun C hC => ?_)
  (replace hC : C.n0 = 2 := hC; change Tri _ _ _ ⟨_, _, 2⟩ _)
  (refine Tri.cut 2 Tryz.mixed Tryz.T_ok ?_; ((conv => arg 5; whnf); repeat (refine xS ?_; conv => arg 5; whnf)))
  (apply wP; exact (call_op rfl (entersB_of Tryz.func121 (by kernel_rfl)) rfl ((wnum_can ty W (l.length : Int) 1 (fits_len (by omega)) (by omega)).at [] rfl rfl rfl ⟨lend_plain rfl, lend_plain rfl, trivial⟩ trivial)); ((conv => arg 5; whnf); repeat (refine xS ?_; conv => arg 5; whnf)))
  refine wD <| cutG <| Tri.block ?_
  refine Tri.loop (α := { i : Nat // i ≤ l.length }) (fun i => ⟨[some (XV.sv (.ptr 0 0 0 0)), none, none, none, none, none, none, none, none, none, none, none, some (XV.sv (.slc 1 298 0 l.length)), some (XV.int .i64 l.length), some (XV.int .i64 i.1)] ++ List.replicate 28 none, [(0, .abs (wrP ty (W.puts (numL (l.length : Int) 1 :: (l.take i.1).flatMap InM.parts)))), (1, .ro 298 l.length (insF l))], 2⟩) (fun i => l.length - i.1) ⟨0, Nat.zero_le _⟩ ?_ ?_
  · ((try dsimp only); refine Ent.renC [0, 1] hC ?_ ?_ <;> repeat' (first | exact trivial | exact rfl | exact ⟨_, rfl, rfl, rfl, Nat.le_refl _, fun _ _ => rfl⟩ | exact ⟨_, rfl, rfl, rfl, fun _ _ => rfl⟩ | exact ⟨_, rfl, rfl, rfl⟩ | exact ⟨_, rfl, rfl⟩ | refine ⟨_, rfl, rfl, rfl, by omega, fun k hk => ?_⟩ | refine ⟨?_, ?_⟩ | fail))
  rintro ⟨i, hi⟩
  dsimp only
  (refine Tri.cut 2 Tryz.mixed Tryz.T_ok ?_; ((conv => arg 5; whnf); repeat (refine xS ?_; conv => arg 5; whnf)))
  refine wC (fun h1 => ?_) (fun h1 => ?_)
  · (refine wGo ?_; ((conv => arg 5; whnf); repeat (refine xS ?_; conv => arg 5; whnf)))
    have h1' : i < l.length := (by (try simp only [ww] at *); omega)
    have hw : IntKind.i64.wrap ((i : Int) + 1) = ((i + 1 : Nat) : Int) := (by (try simp only [ww] at *); omega)
    have ho := range_all_at ha h1'
    rw [insAt, Bool.and_eq_true, Bool.and_eq_true] at ho
    obtain ⟨V, hV, hp⟩ : ∃ V, W.puts (numL (l.length : Int) 1 :: (l.take i).flatMap InM.parts) = V ∧ V.b.length ≤ 131072 := ⟨_, rfl, puts_len hW⟩
    have hp1 := put_len (b := (l.getD i default).pt.tx.l) hp
    have hp2 := put_len (b := numL (l.getD i default).pt.no.toInt 1) hp1
    have hp3 := put_len (b := (l.getD i default).key.l) hp2
    rw [hV]
    refine wD <| cutG <| Tri.seq <| Tri.block <| Tri.of Tryz.mixed Tryz.T_ok ?_
    (refine wBegin ?_; ((conv => arg 5; whnf); repeat (refine xS ?_; conv => arg 5; whnf)))
    (repeat (refine wN ?_ ?_; exact (by (try simp only [ww] at *); omega); refine wGo ?_; ((conv => arg 5; whnf); repeat (refine xS ?_; conv => arg 5; whnf))))
    simp only [Nat.zero_add, Int.toNat_natCast]
    (apply wP; exact (call_op rfl (entersB_of Tryz.func145 (by kernel_rfl)) rfl ((whash_can ty V (l.getD i default).pt.tx (by omega)).at [] rfl rfl rfl ⟨lend_plain rfl, trivial⟩ trivial)); ((conv => arg 5; whnf); repeat (refine xS ?_; conv => arg 5; whnf)))
    (apply wP; exact (call_op rfl (entersB_of Tryz.func121 (by kernel_rfl)) rfl ((wnum_can ty (V.put (l.getD i default).pt.tx.l) (l.getD i default).pt.no.toInt 1 (fits_within ho.2.1 (by decide) (by decide)) (by omega)).at [] rfl rfl rfl ⟨lend_plain rfl, lend_plain rfl, trivial⟩ trivial)); ((conv => arg 5; whnf); repeat (refine xS ?_; conv => arg 5; whnf)))
    (apply wP; exact (call_op rfl (entersB_of Tryz.func145 (by kernel_rfl)) rfl ((whash_can ty ((V.put (l.getD i default).pt.tx.l).put (numL (l.getD i default).pt.no.toInt 1)) (l.getD i default).key (by omega)).at [] rfl rfl rfl ⟨lend_plain rfl, trivial⟩ trivial)); ((conv => arg 5; whnf); repeat (refine xS ?_; conv => arg 5; whnf)))
    (apply wP; exact (call_op rfl (entersB_of Tryz.func146 (by kernel_rfl)) rfl ((sig_can ty (((V.put (l.getD i default).pt.tx.l).put (numL (l.getD i default).pt.no.toInt 1)).put (l.getD i default).key.l) (l.getD i default).sig (fits_within ho.2.2 (by decide) (by decide)) hp3).at [] rfl rfl rfl ⟨lend_plain rfl, trivial⟩ trivial)); ((conv => arg 5; whnf); repeat (refine xS ?_; conv => arg 5; whnf)))
    refine wD <| blockN <| cutG <| Tri.of Tryz.mixed Tryz.T_ok ?_
    (refine wBegin ?_; ((conv => arg 5; whnf); repeat (refine xS ?_; conv => arg 5; whnf)))
    refine wD <| loopN ⟨⟨i + 1, h1'⟩, by dsimp only; omega, ?_⟩
    rw [hw]
    dsimp only
    rw [flatMap_take_succ _ h1', ← List.cons_append, puts_append, hV]
    ((try dsimp only); refine Ent.renC [0, 1] hC ?_ ?_ <;> repeat' (first | exact trivial | exact rfl | exact ⟨_, rfl, rfl, rfl, Nat.le_refl _, fun _ _ => rfl⟩ | exact ⟨_, rfl, rfl, rfl, fun _ _ => rfl⟩ | exact ⟨_, rfl, rfl, rfl⟩ | exact ⟨_, rfl, rfl⟩ | refine ⟨_, rfl, rfl, rfl, by omega, fun k hk => ?_⟩ | refine ⟨?_, ?_⟩ | fail))
  · (refine wGo ?_; ((conv => arg 5; whnf); repeat (refine xS ?_; conv => arg 5; whnf)))
    have h1' : i = l.length := (by (try simp only [ww] at *); omega)
    subst h1'
    rw [List.take_length]
    exact wD <| cutE <| loopX <| blockX (Ends.shutN (.inl rfl) (Ent.refl _) rfl rfl rfl)
end Go.Proofs.YtmoohekgheoliaaGreatDoor
namespace Go.Proofs.YtmoohekgheoliaaGreatDoor
set_option maxRecDepth 100000
open Go.Sx
theorem wend_can (ty : TypeId) (b : List UInt8) (hb : b.length ≤ 1000000) : Does Tryz.prog 128 [(.abs (wrP ty ⟨b, 0⟩), .abs (wrP ty ⟨b, 0⟩))] [] [] (.tup [.one (.slc 0 1 0 b.length), .one (.raw (.int .i64 0))]) (some (.vec 5 1 b.length (rowB b))) := by
  refine Does.of Tryz.T_ok Tryz.func128 rfl _ _ _ _ _ rfl rfl rfl 18 (fun C hC => ?_)
  (replace hC : C.n0 = 1 := hC; change Tri _ _ _ ⟨_, _, 1⟩ _)
  refine WrM.opens ty ⟨b, 0⟩ 0 rfl (Tri.of Tryz.mixed Tryz.T_ok ?_)
  (refine wBegin ?_; ((conv => arg 5; whnf); repeat (refine xS ?_; conv => arg 5; whnf)))
  (refine wFd rfl ?_; refine wGo ?_; ((conv => arg 5; whnf); repeat (refine xS ?_; conv => arg 5; whnf)))
  (apply wP; exact (call_op rfl (entersB_of Tryz.func148 (by kernel_rfl)) rfl ((clone_can b (Nat.le_trans hb (by decide))).at [2] ⟨lend_vec0 rfl rfl, trivial⟩ trivial)); ((conv => arg 5; whnf); repeat (refine xS ?_; conv => arg 5; whnf)))
  exact wD (Ends.does (.inr rfl) (WrM.shuts ty ⟨b, 0⟩ 0 rfl rfl rfl rfl rfl (Nat.le_refl _) (fun _ _ => rfl)) rfl rfl (Nat.le_of_ble_eq_true rfl) rfl)
abbrev twr : TypeId := 193
def payParts (t : TxM) : List (List UInt8) := numL t.kind 1 :: (insParts t.ins ++ (outsParts t.outs ++ fwdsParts t.fwds))
def payEnc (t : TxM) : List UInt8 := (payParts t).flatten
theorem flatten_flatMap_le {E : Type} {f : E → List (List UInt8)} {k : Nat} (h : ∀ x, (f x).flatten.length ≤ k) : ∀ l : List E, (l.flatMap f).flatten.length ≤ k * l.length
  | [] => by simp
  | x :: l => by
    have := flatten_flatMap_le h l
    have := h x
    simp only [List.flatMap_cons, List.flatten_append, List.length_append, List.length_cons, Nat.mul_add]
    omega
theorem hashesL_flat (p : Nat → H8) : ∀ n, (hashesL p n).flatten.length = 8 * n
  | 0 => rfl
  | n + 1 => by rw [hashesL_succ, List.flatten_append, List.length_append, hashesL_flat p n]; simp [H8.l_len]; omega
theorem sig_flat (s : SigM) : s.parts.flatten.length = 281 := by
  simp only [SigM.parts, List.flatten_cons, List.flatten_append, List.length_append, hashesL_flat, numL_length]
theorem payEnc_len {t : TxM} (h : payB t = true) : (payEnc t).length ≤ 3000 := by
  rw [payB, Bool.and_eq_true, Bool.and_eq_true, Bool.and_eq_true] at h
  obtain ⟨h1, h2, h3, _⟩ := h
  rw [insOK, Bool.and_eq_true, within_iff] at h1
  rw [outsOK, Bool.and_eq_true, decide_eq_true_eq] at h2
  rw [fwdsOK, Bool.and_eq_true, decide_eq_true_eq] at h3
  have e1 := flatten_flatMap_le (f := InM.parts) (k := 298) (fun x => by simp only [InM.parts, List.flatten_cons, List.length_append, numL_length, H8.l_len, sig_flat]; omega) t.ins
  have e2 := flatten_flatMap_le (f := OutM.parts) (k := 15) (fun x => by simp only [OutM.parts, List.flatten_cons, List.flatten_nil, List.length_append, List.length_nil, numL_length, H8.l_len]; omega) t.outs
  have e3 := flatten_flatMap_le (f := FwdM.parts) (k := 18) (fun x => by simp only [FwdM.parts, List.flatten_cons, List.flatten_nil, List.length_append, List.length_nil, numL_length, H8.l_len]; omega) t.fwds
  simp only [payEnc, payParts, insParts, outsParts, fwdsParts, List.flatten_cons, List.flatten_append, List.length_append, numL_length]
  omega
theorem payEnc_puts {t : TxM} (h : payB t = true) : (((((⟨[], 0⟩ : WrM).put (numL t.kind 1)).puts (insParts t.ins)).puts (outsParts t.outs)).puts (fwdsParts t.fwds)) = ⟨payEnc t, 0⟩ := by
  have := payEnc_len h
  rw [← puts_append, ← puts_append]
  show (⟨[], 0⟩ : WrM).puts (payParts t) = _
  rw [puts_ok rfl (by show 0 + (payEnc t).length ≤ _; omega)]
  rfl
theorem may_true {t : TxM} (hk : t.kind = 2) (hs : Sized t) (hc : t.claim.Wf) (hm : mayPay t hc = true) : Reads Tryz.prog 36 [.box t.ac] [] (XV.bool true) := hm ▸ mayPay_can t hk hs hc
set_option maxHeartbeats 4000000 in
theorem encode_can (t : TxM) (hk : t.kind = 2) (hs : Sized t) (hc : t.claim.Wf) (hm : mayPay t hc = true) : Makes Tryz.prog 95 [.box t.ac] [] (.tup [.one (.slc 0 1 0 (payEnc t).length), .one (.raw (.int .i64 0))]) (.vec 5 1 (payEnc t).length (rowB (payEnc t))) := by
  have hmay := may_true hk hs hc hm
  have hpB : payB t = true := by rw [mayPay, Bool.and_eq_true] at hm; exact hm.1
  have hpp := payEnc_puts hpB
  have hpl := payEnc_len hpB
  rw [payB, Bool.and_eq_true, Bool.and_eq_true, Bool.and_eq_true] at hpB
  obtain ⟨h1, h2, h3, _⟩ := hpB
  have q1 : ((⟨[], 0⟩ : WrM).put (numL t.kind 1)).b.length ≤ 131072 := put_len (by simp)
  have q2 := puts_len (cs := insParts t.ins) q1
  have q3 := puts_len (cs := outsParts t.outs) q2
  refine Makes.of Tryz.T_ok Tryz.func95 rfl _ _ _ _ rfl rfl rfl rfl 43 (fun C hC => ?_)
  (replace hC : C.n0 = 6 := hC; change Tri _ _ _ ⟨_, _, 6⟩ _)
  (refine Tri.cut 3 Tryz.mixed Tryz.T_ok ?_; ((conv => arg 5; whnf); repeat (refine xS ?_; conv => arg 5; whnf)))
  (apply wP; exact (call_op rfl (entersB_of Tryz.func36 (by kernel_rfl)) rfl (hmay.at [0, 1, 2, 3, 4, 5] ⟨lend_tx (t := t) (lend_ro0 rfl rfl) (lend_ro0 rfl rfl) (lend_ro0 rfl rfl) (lend_ro0 rfl rfl) (lend_ro0 rfl rfl) (lend_ro0 rfl rfl), trivial⟩ trivial)); ((conv => arg 5; whnf); repeat (refine xS ?_; conv => arg 5; whnf)))
  refine wD <| cutG <| Tri.ent (Ent.nilc (c := 13) (j := 0) rfl rfl 5 1) <| Tri.ent (WrM.shuts (i1 := 15) (n := 0) (f := fun _ => []) twr ⟨[], 0⟩ 13 rfl rfl rfl rfl rfl (Nat.zero_le _) (fun i hi => absurd hi (Nat.not_lt_zero _))) <| Tri.of Tryz.mixed Tryz.T_ok ?_
  (refine wBegin ?_; ((conv => arg 5; whnf); repeat (refine xS ?_; conv => arg 5; whnf)))
  (apply wP; exact (call_op rfl (entersB_of Tryz.func121 (by kernel_rfl)) rfl ((wnum_can twr ⟨[], 0⟩ t.kind 1 ⟨by decide, by decide, by omega, by omega⟩ (by decide)).at [] rfl rfl rfl ⟨lend_plain rfl, lend_plain rfl, trivial⟩ trivial)); ((conv => arg 5; whnf); repeat (refine xS ?_; conv => arg 5; whnf)))
  (refine wFd ?_ ?_; (first | refine decide_eq_false ?_ | rw [beq_eq_false_iff_ne] | rw [bne_eq_false_iff_eq]); exact (by (try simp only [ww] at *); omega); refine wGo ?_; ((conv => arg 5; whnf); repeat (refine xS ?_; conv => arg 5; whnf)))
  (refine wTd ?_ ?_; (first | refine decide_eq_true ?_ | rw [beq_iff_eq] | rw [bne_iff_ne]); exact (by (try simp only [ww] at *); omega); refine wGo ?_; ((conv => arg 5; whnf); repeat (refine xS ?_; conv => arg 5; whnf)))
  (apply wP; exact (call_op rfl (entersB_of Tryz.func123 (by kernel_rfl)) rfl ((wins_can twr ((⟨[], 0⟩ : WrM).put (numL t.kind 1)) t.ins h1 q1).at [0] rfl rfl rfl ⟨lend_ro0 rfl rfl, trivial⟩ trivial)); ((conv => arg 5; whnf); repeat (refine xS ?_; conv => arg 5; whnf)))
  (apply wP; exact (call_op rfl (entersB_of Tryz.func122 (by kernel_rfl)) rfl ((wouts_can twr (((⟨[], 0⟩ : WrM).put (numL t.kind 1)).puts (insParts t.ins)) t.outs h2 q2).at [1] rfl rfl rfl ⟨lend_ro0 rfl rfl, trivial⟩ trivial)); ((conv => arg 5; whnf); repeat (refine xS ?_; conv => arg 5; whnf)))
  (apply wP; exact (call_op rfl (entersB_of Tryz.func124 (by kernel_rfl)) rfl ((wfwds_can twr ((((⟨[], 0⟩ : WrM).put (numL t.kind 1)).puts (insParts t.ins)).puts (outsParts t.outs)) t.fwds h3 q3).at [2] rfl rfl rfl ⟨lend_ro0 rfl rfl, trivial⟩ trivial)); ((conv => arg 5; whnf); repeat (refine xS ?_; conv => arg 5; whnf)))
  rw [hpp]
  (apply wP; exact (call_op rfl (entersB_of Tryz.func128 (by kernel_rfl)) rfl ((wend_can twr (payEnc t) (by omega)).at1 [] rfl rfl rfl trivial trivial)); ((conv => arg 5; whnf); repeat (refine xS ?_; conv => arg 5; whnf)))
  exact wD (Ends.made (.inr rfl) (Ent.refl _) rfl (Nat.le_of_ble_eq_true rfl) rfl)
end Go.Proofs.YtmoohekgheoliaaGreatDoor
namespace Go.Proofs.YtmoohekgheoliaaGreatDoor
set_option maxRecDepth 100000
open Go.Sx
theorem part_here {M : Mem} {rd : List Nat} {q n i sz cp k : Nat} {ln : Nat → Nat} {g : Nat → Nat → List Value} {ad : Nat → Option Addr} {cell : List Value} {f : Nat → List Value} (hm : M.get q = some (.ext (PartsAt sz n ln g ad))) (hrd : nmem q rd = true) (hi : i < n) (hc : cell = [.slice (ad i) (ln i) cp]) (hk : ln i = k) (hf : g i = f) : PartIn M rd sz cell k f :=
  ⟨q, n, ln, g, ad, i, cp, hm, hrd, hi, hc, hk, hf⟩
theorem parts_cons {M : Mem} {rd : List Nat} {q1 q2 cp0 n : Nat} {ad0 : Option Addr} {ad : Nat → Option Addr} {cp : Nat → Nat} {e : List UInt8} {bss : List (List UInt8)} {F : Nat → List Value}
    (h1 : M.get q1 = some (.ext (PartsAt 1 1 (fun _ => e.length) (fun _ => rowB e) (fun _ => ad0)))) (r1 : nmem q1 rd = true) (h2 : M.get q2 = some (.ext (PartsAt 1 bss.length (fun i => (bss.getD i []).length) (fun i => rowB (bss.getD i [])) ad))) (r2 : nmem q2 rd = true)
    (hF : F = joinF (cutF [.slice ad0 e.length cp0] 1) 1 (fun i => [.slice (ad (0 + i)) ((bss.getD (0 + i) []).length) (cp (0 + i))])) (hn : n = bss.length) : ∀ i, i < n + 1 → PartIn M rd 1 (F i) (((e :: bss).getD i []).length) (rowB ((e :: bss).getD i [])) := by
  subst hF hn
  intro i hi
  cases i with
  | zero => exact part_here (i := 0) h1 r1 (by decide) rfl rfl rfl
  | succ i =>
    refine part_here (i := i) (cp := cp i) h2 r2 (by omega) ?_ rfl rfl
    simp only [joinF, nblt, show ¬ i + 1 < 1 by omega, decide_false, cond_false, Nat.add_sub_cancel, Nat.zero_add]
set_option maxHeartbeats 2000000 in
theorem digest_pay (p : UInt8) (t : TxM) (bss : List (List UInt8)) (hk : t.kind = 2) (hs : Sized t) (hc : t.claim.Wf) (hm : mayPay t hc = true) (hb : bss.length ≤ 1000) (hsh : Short (encAll p (payEnc t :: bss))) : Reads Tryz.prog 56 [.plain (.one (.raw (u8 p))), .box t.ac, partsA bss] [stepsP] (.tup [(dig p (payEnc t :: bss)).x, .one (.raw (.bool true))]) := by
  refine Reads.of Tryz.T_ok Tryz.func56 rfl _ _ _ rfl rfl (fun C hC => ?_)
  (replace hC : C.n0 = 9 := hC; change Tri _ _ _ ⟨_, _, 9⟩ _)
  (refine Tri.cut 2 Tryz.mixed Tryz.T_ok ?_; ((conv => arg 5; whnf); repeat (refine xS ?_; conv => arg 5; whnf)))
  (apply wP; exact (call_op rfl (entersB_of Tryz.func95 (by kernel_rfl)) rfl ((encode_can t hk hs hc hm).at [1, 2, 3, 4, 5, 6] ⟨lend_tx (t := t) (lend_ro0 rfl rfl) (lend_ro0 rfl rfl) (lend_ro0 rfl rfl) (lend_ro0 rfl rfl) (lend_ro0 rfl rfl) (lend_ro0 rfl rfl), trivial⟩ trivial)); ((conv => arg 5; whnf); repeat (refine xS ?_; conv => arg 5; whnf)))
  refine wD <| cutG <| Tri.openRows (c := 7) rfl fun ad cp => Tri.freeze 8 (c := 13) rfl rfl (Nat.le_refl _) fun ad0 cp0 => Tri.of Tryz.mixed Tryz.T_ok ?_
  (refine wBegin ?_; ((conv => arg 5; whnf); repeat (refine xS ?_; conv => arg 5; whnf)))
  (refine wP _ _ (append_op Tryz.T_ok rfl rfl rfl rfl rfl [25, 7] (old_vec rfl rfl (Nat.le_refl _) rfl) (new_ro (lo := 0) rfl rfl (Nat.le_of_eq (Nat.zero_add _)) rfl) rfl (fun _ _ => rfl) (by simp only [maxLen]; omega) (by dsimp only; omega)) ?_; ((conv => arg 5; whnf); repeat (refine xS ?_; conv => arg 5; whnf)))
  rw [Nat.add_comm 1 bss.length]
  (apply wP; exact (call_op rfl (entersB_of Tryz.func96 (by kernel_rfl)) rfl ((of_can p (payEnc t :: bss) hsh).at [27, 19, 20, 8] ⟨lend_plain rfl, lend_rows_vec rfl rfl (parts_cons (q1 := 20) (q2 := 19) rfl rfl rfl rfl rfl rfl), trivial⟩ ⟨lend_ext (c := 8) rfl rfl, trivial⟩)); ((conv => arg 5; whnf); repeat (refine xS ?_; conv => arg 5; whnf)))
  exact wD (Ends.plain (.inr rfl) rfl rfl)
theorem id_pay (t : TxM) (hk : t.kind = 2) (hs : Sized t) (hc : t.claim.Wf) (hm : mayPay t hc = true) : Reads Tryz.prog 33 [.box t.ac] [stepsP] (.tup [(dig 120 [payEnc t]).x, .one (.raw (.bool true))]) := by
  have hl : (payEnc t).length ≤ 3000 := by
    rw [mayPay, Bool.and_eq_true] at hm
    exact payEnc_len hm.1
  refine Reads.of Tryz.T_ok Tryz.func33 rfl _ _ _ rfl rfl (fun C hC => ?_)
  (replace hC : C.n0 = 7 := hC; change Tri _ _ _ ⟨_, _, 7⟩ _)
  refine Tri.of Tryz.mixed Tryz.T_ok ?_
  (refine wBegin ?_; ((conv => arg 5; whnf); repeat (refine xS ?_; conv => arg 5; whnf)))
  (apply wP; exact (call_op rfl (entersB_of Tryz.func56 (by kernel_rfl)) rfl ((digest_pay 120 t [] hk hs hc hm (by decide) (short1 _ _ (by omega))).at [0, 1, 2, 3, 4, 5, 6] ⟨lend_plain rfl, lend_tx (t := t) (lend_ro0 rfl rfl) (lend_ro0 rfl rfl) (lend_ro0 rfl rfl) (lend_ro0 rfl rfl) (lend_ro0 rfl rfl) (lend_ro0 rfl rfl), lend_rows_nil _ _ _, trivial⟩ ⟨lend_ext (c := 6) rfl rfl, trivial⟩)); ((conv => arg 5; whnf); repeat (refine xS ?_; conv => arg 5; whnf)))
  exact wD (Ends.plain (.inr rfl) rfl rfl)
end Go.Proofs.YtmoohekgheoliaaGreatDoor
