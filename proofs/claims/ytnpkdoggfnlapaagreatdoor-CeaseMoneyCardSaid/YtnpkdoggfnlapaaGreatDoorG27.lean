/- Parts Zp Zq. -/
import Derived.Test.YtnpkdoggfnlapaaGreatDoorG26
import Derived.Test.YtnpkdoggfnlapaaGreatDoorG25
import Derived.Test.YtnpkdoggfnlapaaGreatDoorG23
import Derived.Test.YtnpkdoggfnlapaaGreatDoorG24
set_option linter.unusedSimpArgs false
set_option linter.unusedVariables false
namespace Go.Proofs.YtnpkdoggfnlapaaGreatDoor
set_option maxRecDepth 100000
open Go.Sx
section
variable {C : Ctx} {slots : List (Option XV)} {mem : Mem} {nx : Nat}
theorem Reg.shutsP (tS tE : TypeId) (L L' : List SideM) (c : Nat) {i1 q q2 m n sz k : Nat} {G : Nat → List Value} {f : Nat → List Value} {ad ad' : Nat → Nat → Option Addr × Nat} {p : Option Addr × Nat} (h0 : 0 < L'.length) (k0 : mem.get c = some (.cells tS [.slc i1 42 0 m])) (k1 : mem.get i1 = some (.vec tE 42 n G)) (k2 : mem.get q = some (.abs (PartsO n (regF L) ad))) (k3 : mem.get q2 = some (.abs (PartsO 1 (fun _ => [.row sz k f]) fun _ _ => p)))
    (hids : (Nat.beq c i1 || Nat.beq c q || Nat.beq i1 q || Nat.beq c q2 || Nat.beq i1 q2) = false) (hm : m = L'.length) (hn : n = L'.length) (hG : ∀ i, i < n → G i = fillA 0 (regF L' i) (ad' i)) (hF : ∀ i, i < n → ∀ (j : Nat) (x : AC), (regF L' i)[j]? = some x → (∃ u, x = AC.raw u) ∨ ((regF L i)[j]? = some x ∧ ad' i j = ad i j) ∨ (x = .row sz k f ∧ ad' i j = p)) :
    Ent C ⟨slots, mem, nx⟩ ⟨slots, (c, .abs (regP tS tE L')) :: Mem.dels ((i1, .abs (DeepP tE 42 n (regF L'))) :: mem.dels [i1, q, q2]) [c, i1], nx⟩ := by
  simp only [Bool.or_eq_false_iff, nbeq, decide_eq_false_iff_not] at hids
  obtain ⟨⟨⟨⟨d1, d2⟩, d3⟩, d4⟩, d5⟩ := hids
  refine (Ent.shutDeep (S := ⟨slots, mem, nx⟩) (F := regF L') (ad := ad') [q, q2] k1 (by omega) (Nat.le_refl _) (by simp [d3, d5]) hG (fun i hi j x hx => ?_)).trans ?_
  · rcases hF i hi j x hx with h | ⟨h, e⟩ | ⟨h, e⟩
    · exact .inl h
    · rw [e]; exact Backed.old (by simp) k2 hi h
    · rw [e, h]
      have := Backed.old (M := mem) (qs := [q, q2]) (q := q2) (i := 0) (j := 0) (x := .row sz k f) (by simp) k3 Nat.one_pos rfl
      exact this
  · refine Reg.shuts tS tE L' c h0 ?_ ?_ (by simpa [nbeq] using d1) hm hn fun _ _ => rfl
    · simp only [Mem.get, nbeq, Mem.get_dels]
      rw [show decide (i1 = c) = false from decide_eq_false (fun e => d1 e.symm)]
      simp only [cond_false]
      rw [if_neg (by simp only [List.mem_cons, List.not_mem_nil, or_false, not_or]; exact ⟨d1, d2, d4⟩)]
      exact k0
    · simp [Mem.get, nbeq]
end
def adAt (ad : Nat → Nat → Option Addr × Nat) (s : Nat) (p : Option Addr × Nat) (i j : Nat) : Option Addr × Nat := if i = s then (if j = 41 then p else ad i j) else ad i j
theorem adAt_self (ad : Nat → Nat → Option Addr × Nat) (s : Nat) (p : Option Addr × Nat) : adAt ad s p s = fun j => if j = 41 then p else ad s j := by funext j; rw [adAt, if_pos rfl]
theorem adAt_ne {ad : Nat → Nat → Option Addr × Nat} {s i : Nat} {p : Option Addr × Nat} (h : i ≠ s) : adAt ad s p i = ad i := by funext j; rw [adAt, if_neg h]
theorem used_rows {x y : SideM} (h1 : x.par.keys = y.par.keys) (h2 : x.cert.outs = y.cert.outs) (h3 : x.cert.sigs = y.cert.sigs) {j : Nat} {a : AC} (h : x.ac[j]? = some a) : (∃ u, a = AC.raw u) ∨ (y.ac[j]? = some a ∧ j ≠ 41) ∨ (a = .row 1 x.used.length (intsF x.used) ∧ j = 41) := by
  have hj : j < 42 := by have := (List.getElem?_eq_some_iff.1 h).1; rwa [SideM.ac_len] at this
  by_cases e : j = 41
  · subst e
    refine .inr (.inr ⟨?_, rfl⟩)
    have h4 : x.ac[41]? = some (.row 1 x.used.length (intsF x.used)) := rfl
    rw [h4] at h
    exact (Option.some.inj h).symm
  · have h5 : ({ x with used := y.used } : SideM).ac[j]? = x.ac[j]? := by
      have e1 : ({ x with used := y.used } : SideM).ac.take 41 = x.ac.take 41 := rfl
      rw [← List.getElem?_take_of_lt (l := ({ x with used := y.used } : SideM).ac) (show j < 41 by omega), e1, List.getElem?_take_of_lt (by omega)]
    rw [← h5] at h
    rcases side_rows (x := { x with used := y.used }) (y := y) h1 h2 h3 rfl h with h6 | h6
    · exact .inl h6
    · exact .inr (.inl ⟨h6, e⟩)
def rtkSt1 (L : List SideM) (R : RC) (c : ClaimM) : St :=
  ⟨[some (XV.sv (.ptr 0 0 0 0)), none, none, none, none, none, none, none, none, some (XV.sv (.ptr 9 0 0 0))] ++ List.replicate 114 none,
   [(0, .abs (rReg L)), (1, .abs (rcP R)), (9, .cells 46 (c.cells.map .raw))], 10⟩
def movedX (x : SideM) (c : ClaimM) : SideM := { x with bal := IntKind.i64.wrap (x.bal - c.st.amt), clm := IntKind.i64.wrap (x.clm + c.st.amt) }
def rtkSt2 (L : List SideM) (R : RC) (c : ClaimM) (ad : Nat → Nat → Option Addr × Nat) (x : SideM) (k : Nat) : St :=
  ⟨[some (XV.sv (.ptr 0 0 0 0)), none, none, none, none, none, none, none, none, some (XV.sv (.ptr 11 0 0 0)), none, none, none, some (XV.sv (.ptr 12 0 0 0)), some (XV.sv (.slc 13 1 0 (bldU x.used c.acct k).length)), some (XV.bool (doneU x.used c.acct k)), some (XV.int .i64 k)] ++ List.replicate 107 none,
   [(0, .cells rrS [.slc 9 42 0 L.length]), (1, .abs (rcP R)), (9, .vec rrE 42 L.length fun i => fillA 0 (regF L i) (ad i)), (10, .abs (PartsO L.length (regF L) ad)), (11, .cells 46 (c.cells.map .raw)), (12, .cells 109 ((fillA 0 (movedX x c).ac (ad c.side.toNat)).map .raw)), (13, .vec 3 1 (bldU x.used c.acct k).length (intsF (bldU x.used c.acct k)))], 14⟩
def rtkSt3 (L : List SideM) (R : RC) (c : ClaimM) (ad : Nat → Nat → Option Addr × Nat) (x : SideM) : St :=
  ⟨[some (XV.sv (.ptr 0 0 0 0)), none, none, none, none, none, none, none, none, some (XV.sv (.ptr 11 0 0 0)), none, none, none, some (XV.sv (.ptr 12 0 0 0)), some (XV.sv (.slc 13 1 0 (insU x.used c.acct).length))] ++ List.replicate 109 none,
   [(0, .cells rrS [.slc 9 42 0 L.length]), (1, .abs (rcP R)), (9, .vec rrE 42 L.length fun i => fillA 0 (regF L i) (ad i)), (10, .abs (PartsO L.length (regF L) ad)), (11, .cells 46 (c.cells.map .raw)), (12, .cells 109 ((fillA 0 (movedX x c).ac (ad c.side.toNat)).map .raw)), (13, .vec 3 1 (insU x.used c.acct).length (intsF (insU x.used c.acct)))], 14⟩
theorem cut1_one {n : Int} : ∀ i, i < 1 → ((cutF [Value.int .i64 n] 1 (0 + i)).all fun v => v.oneCell') = true := fun i hi => by
  obtain rfl := Nat.lt_one_iff.1 hi
  rfl
set_option maxHeartbeats 8000000 in
theorem rtake_can (L : List SideM) (R : RC) (c : ClaimM) (h : Int64) (hL : ∀ i, i < L.length → (L.getD i default).Sized) (hl : L.length ≤ 1000) (hPC : R.P.length = R.C.length) (hR : R.P.length < 900000) (hu : ∀ i, i < L.length → (L.getD i default).used.length < 900000) :
    Does Tryz.prog 24 [(.abs (rReg L), .abs (rReg (rtakeE L R c h).1.1)), (.abs (rcP R), .abs (rcP (rtakeE L R c h).1.2))] [.box (claimTx c).ac, .plain (.one (.raw (.int .i64 h.toInt)))] [] (XV.int .i64 (rtakeE L R c h).2) none := by
  have hmay := rmay5_can c
  refine Does.of Tryz.T_ok Tryz.func24 rfl _ _ _ _ _ rfl rfl rfl 0 (fun C hC => ?_)
  (replace hC : C.n0 = 9 := hC; change Tri _ _ _ ⟨_, _, 9⟩ _)
  cases hb : claimOK c with
  | false =>
    rw [hb] at hmay
    have he : checkE L c = 4 := by rw [checkE, if_pos hb]
    have ht : rtakeE L R c h = ((L, R), 4) := by rw [rtakeE, he, if_neg (by decide)]
    rw [ht]
    refine Tri.of Tryz.mixed Tryz.T_ok ?_
    (refine wBegin ?_; ((conv => arg 5; whnf); repeat (refine xS ?_; conv => arg 5; whnf)))
    repeat (first | (refine wFd rfl ?_; refine wGo ?_; ((conv => arg 5; whnf); repeat (refine xS ?_; conv => arg 5; whnf))) | (refine wTd rfl ?_; refine wGo ?_; ((conv => arg 5; whnf); repeat (refine xS ?_; conv => arg 5; whnf))))
    (apply wP; exact (call_op rfl (entersB_of Tryz.func57 (by kernel_rfl)) rfl (hmay.at [2, 3, 4, 5, 6, 7] ⟨lend_tx (t := claimTx c) (lend_ro0 rfl rfl) (lend_ro0 rfl rfl) (lend_ro0 rfl rfl) (lend_ro0 rfl rfl) (lend_ro0 rfl rfl) (lend_ro0 rfl rfl), trivial⟩ trivial)); ((conv => arg 5; whnf); repeat (refine xS ?_; conv => arg 5; whnf)))
    exact wD (Sx.Ends.shutN2 (.inr rfl) (Ent.refl _) rfl rfl rfl rfl)
  | true =>
    rw [hb] at hmay
    obtain ⟨⟨s1, s2⟩, ⟨a1, a2⟩, w1, ⟨m1, m2⟩, n1, n2⟩ := claimOK_iff.1 hb
    (refine Tri.cut 5 Tryz.mixed Tryz.T_ok ?_; ((conv => arg 5; whnf); repeat (refine xS ?_; conv => arg 5; whnf)))
    repeat (first | (refine wFd rfl ?_; refine wGo ?_; ((conv => arg 5; whnf); repeat (refine xS ?_; conv => arg 5; whnf))) | (refine wTd rfl ?_; refine wGo ?_; ((conv => arg 5; whnf); repeat (refine xS ?_; conv => arg 5; whnf))))
    (apply wP; exact (call_op rfl (entersB_of Tryz.func57 (by kernel_rfl)) rfl (hmay.at [2, 3, 4, 5, 6, 7] ⟨lend_tx (t := claimTx c) (lend_ro0 rfl rfl) (lend_ro0 rfl rfl) (lend_ro0 rfl rfl) (lend_ro0 rfl rfl) (lend_ro0 rfl rfl) (lend_ro0 rfl rfl), trivial⟩ trivial)); ((conv => arg 5; whnf); repeat (refine xS ?_; conv => arg 5; whnf)))
    (apply wP; exact (call_op rfl (entersB_of Tryz.func43 (by kernel_rfl)) rfl ((rcheck_can L c hL hl).at [] rfl rfl rfl ⟨lend_plain rfl, trivial⟩ trivial)); ((conv => arg 5; whnf); repeat (refine xS ?_; conv => arg 5; whnf)))
    refine wC (fun h1 => ?_) (fun h1 => ?_)
    · have h1' : checkE L c ≠ 0 := by simpa using h1
      have ht : rtakeE L R c h = ((L, R), checkE L c) := by rw [rtakeE, if_neg h1']
      rw [ht]
      (refine wGo ?_; ((conv => arg 5; whnf); repeat (refine xS ?_; conv => arg 5; whnf)))
      exact wD <| cutR <| Sx.Ends.shutN2 (.inr rfl) (Ent.refl _) rfl rfl rfl rfl
    have h1' : checkE L c = 0 := by simpa using h1
    have ht : rtakeE L R c h = if (routsGo (claimID c) h false R 0 [claimPay c]).2 = 0 then ((L.set c.side.toNat (takeX (L.getD c.side.toNat default) c), (routsGo (claimID c) h false R 0 [claimPay c]).1), 0) else ((L, (routsGo (claimID c) h false R 0 [claimPay c]).1), (routsGo (claimID c) h false R 0 [claimPay c]).2) := by rw [rtakeE, if_pos h1']
    rw [ht]
    have hout := raddouts_can R (claimID c) [claimPay c] h false (show 1 ≤ 1000 by decide) hPC hR
    obtain ⟨⟨R', e⟩, ho⟩ : ∃ p, routsGo (claimID c) h false R 0 [claimPay c] = p := ⟨_, rfl⟩
    rw [ho] at hout ⊢
    dsimp only at hout ⊢
    have hamt : (claimPay c).amt.toInt = c.st.amt := amt64 hb
    (refine wGo ?_; ((conv => arg 5; whnf); repeat (refine xS ?_; conv => arg 5; whnf)))
    refine wD <| cutG <| ?_
    (refine Tri.cut 3 Tryz.mixed Tryz.T_ok ?_; ((conv => arg 5; whnf); repeat (refine xS ?_; conv => arg 5; whnf)))
    (apply wP; exact (call_op rfl (entersB_of Tryz.func16 (by kernel_rfl)) rfl ((rid5_can c hb).at [2, 3, 4, 5, 6, 7] ⟨lend_tx (t := claimTx c) (lend_ro0 rfl rfl) (lend_ro0 rfl rfl) (lend_ro0 rfl rfl) (lend_ro0 rfl rfl) (lend_ro0 rfl rfl) (lend_ro0 rfl rfl), trivial⟩ trivial)); ((conv => arg 5; whnf); repeat (refine xS ?_; conv => arg 5; whnf)))
    (apply wP; exact (call_op rfl (entersB_of Tryz.func58 (by kernel_rfl)) rfl (hout.at [46] rfl rfl rfl ⟨lend_plain rfl, lend_vecN (lo := 0) rfl rfl rfl (Nat.le_refl _) (fun i hi => by obtain rfl := Nat.lt_one_iff.1 hi; show (claimPay c).cells = _; rw [OutM.cells, show i64 (claimPay c).amt = .int .i64 c.st.amt from congrArg _ hamt]; rfl), lend_plain rfl, lend_plain rfl, trivial⟩ trivial)); ((conv => arg 5; whnf); repeat (refine xS ?_; conv => arg 5; whnf)))
    refine wC (fun h2 => ?_) (fun h2 => ?_)
    · have h2' : e ≠ 0 := by simpa using h2
      rw [if_neg h2']
      (refine wGo ?_; ((conv => arg 5; whnf); repeat (refine xS ?_; conv => arg 5; whnf)))
      exact wD <| cutR <| Sx.Ends.shutN2 (.inr rfl) (Ent.refl _) rfl rfl rfl rfl
    have h2' : e = 0 := by simpa using h2
    rw [if_pos h2']
    have hi : c.side.toNat < L.length := by
      rcases Nat.lt_or_ge c.side.toNat L.length with h | h
      · exact h
      · rw [checkE, if_neg (by rw [hb]; simp), if_pos (by omega)] at h1'; cases h1'
    have h0 : 0 < L.length := by omega
    have hx0 : checkX (L.getD c.side.toNat default) c = 0 := by
      rw [checkE, if_neg (by rw [hb]; simp), if_neg (by omega)] at h1'; exact h1'
    obtain ⟨q1, q2, q3, q4⟩ := checkX_zero hx0
    have hlu := hu _ hi
    obtain ⟨x, hx⟩ : ∃ x, L.getD c.side.toNat default = x := ⟨_, rfl⟩
    rw [hx] at q2 hlu
    (refine wGo ?_; ((conv => arg 5; whnf); repeat (refine xS ?_; conv => arg 5; whnf)))
    refine wD <| cutG <| Tri.ent (S' := rtkSt1 L R' c) ?_ ?_
    · unfold rtkSt1
      ((try dsimp only); refine Ent.renC [0, 1, 2, 3, 4, 5, 6, 7, 8, 21] hC ?_ ?_ <;> repeat' (first | exact trivial | exact rfl | exact ⟨_, rfl, rfl, rfl, Nat.le_refl _, fun _ _ => rfl⟩ | exact ⟨_, rfl, rfl, rfl, fun _ _ => rfl⟩ | exact ⟨_, rfl, rfl, rfl⟩ | exact ⟨_, rfl, rfl⟩ | refine ⟨_, rfl, rfl, rfl, by omega, fun k hk => ?_⟩ | refine ⟨?_, ?_⟩ | fail))
    unfold rtkSt1
    refine Reg.opens rrS rrE L 0 h0 rfl (Nat.le_of_ble_eq_true rfl) (fun ad => ?_)
    (refine Tri.cut 4 Tryz.mixed Tryz.T_ok ?_; ((conv => arg 5; whnf); repeat (refine xS ?_; conv => arg 5; whnf)))
    (repeat (refine wN ?_ ?_; exact (by (try simp only [ww] at *); omega); refine wGo ?_; ((conv => arg 5; whnf); repeat (refine xS ?_; conv => arg 5; whnf))))
    simp only [Nat.zero_add]
    refine wD <| cutG <| Tri.ent (Ent.nils (t := 14) rfl 3 1) <| Tri.seq ?_
    (refine Tri.cut 1 Tryz.mixed Tryz.T_ok ?_; ((conv => arg 5; whnf); repeat (refine xS ?_; conv => arg 5; whnf)))
    refine wD <| cutG <| Tri.block ?_
    refine Tri.loop (α := { k : Nat // k ≤ x.used.length }) (fun k => rtkSt2 L R' c ad x k.1) (fun k => x.used.length - k.1) ⟨0, Nat.zero_le _⟩ ?_ ?_
    · unfold rtkSt2
      rw [hx]
      ((try dsimp only); refine Ent.renC [0, 1, 2, 3, 4, 5, 6, 7, 8, 11, 12, 9, 21, 41] hC ?_ ?_ <;> repeat' (first | exact trivial | exact rfl | exact ⟨_, rfl, rfl, rfl, Nat.le_refl _, fun _ _ => rfl⟩ | exact ⟨_, rfl, rfl, rfl, fun _ _ => rfl⟩ | exact ⟨_, rfl, rfl, rfl⟩ | exact ⟨_, rfl, rfl⟩ | refine ⟨_, rfl, rfl, rfl, by omega, fun k hk => ?_⟩ | refine ⟨?_, ?_⟩ | fail))
      · exact Nat.le_refl 0
      · exact fun k hk => absurd hk (Nat.not_lt_zero _)
    rintro ⟨k, hk⟩
    have hbl := bldU_len x.used c.acct k hk
    dsimp only
    unfold rtkSt2
    rw [hx]
    (refine Tri.cut 1 Tryz.mixed Tryz.T_ok ?_; ((conv => arg 5; whnf); repeat (refine xS ?_; conv => arg 5; whnf)))
    refine wC (fun h3 => ?_) (fun h3 => ?_)
    · (refine wGo ?_; ((conv => arg 5; whnf); repeat (refine xS ?_; conv => arg 5; whnf)))
      have h3' : k < x.used.length := by have h9 : ((k : Nat) : Int) < ((x.used.length : Nat) : Int) := of_decide_eq_true h3; omega
      have hw : IntKind.i64.wrap ((k : Int) + 1) = ((k + 1 : Nat) : Int) := (by (try simp only [ww] at *); omega)
      have hds := doneU_succ (a := c.acct) h3'
      have hre : regF L c.side.toNat = x.ac := by rw [regF, hx]
      refine wD <| cutG <| Tri.seq <| Tri.block <| Tri.of Tryz.mixed Tryz.T_ok ?_
      (refine wBegin ?_; ((conv => arg 5; whnf); repeat (refine xS ?_; conv => arg 5; whnf)))
      refine wC (fun h4 => ?_) (fun h4 => ?_)
      · -- not yet
        have h4' : doneU x.used c.acct k = false := by simpa using h4
        (refine wGo ?_; ((conv => arg 5; whnf); repeat (refine xS ?_; conv => arg 5; whnf)))
        (refine wP _ _ (partIndex_op Tryz.T_ok rfl rfl rfl rfl rfl (I := c.side.toNat) (J := 41) (F := regF L) (ad := ad) (q := 10) (f := intsF x.used) rfl rfl rfl hi (by rw [hre]; rfl) h3') ?_; ((conv => arg 5; whnf); repeat (refine xS ?_; conv => arg 5; whnf)))
        (refine wP _ _ (partLoad_op Tryz.T_ok rfl rfl (I := c.side.toNat) (J := 41) (F := regF L) (ad := ad) (q := 10) (sz := 1) (f := intsF x.used) rfl rfl hi (by rw [hre]; rfl) rfl h3' rfl) ?_; ((conv => arg 5; whnf); repeat (refine xS ?_; conv => arg 5; whnf)))
        refine wC (fun h5 => ?_) (fun h5 => ?_)
        · have h5' : c.acct < x.used.getD k 0 := of_decide_eq_true h5
          (refine wGo ?_; ((conv => arg 5; whnf); repeat (refine xS ?_; conv => arg 5; whnf)))
          (refine wP _ _ (append_op Tryz.T_ok rfl rfl rfl rfl rfl [13, 34] (old_vec rfl rfl (Nat.le_refl _) rfl) (new_vec (lo := 0) rfl rfl (Nat.le_of_eq (Nat.zero_add _)) rfl) rfl cut1_one (by simp only [maxLen]; omega) (by dsimp only; omega)) ?_; ((conv => arg 5; whnf); repeat (refine xS ?_; conv => arg 5; whnf)))
          (refine wP _ _ (partIndex_op Tryz.T_ok rfl rfl rfl rfl rfl (I := c.side.toNat) (J := 41) (F := regF L) (ad := ad) (q := 10) (f := intsF x.used) rfl rfl rfl hi (by rw [hre]; rfl) h3') ?_; ((conv => arg 5; whnf); repeat (refine xS ?_; conv => arg 5; whnf)))
          (refine wP _ _ (partLoad_op Tryz.T_ok rfl rfl (I := c.side.toNat) (J := 41) (F := regF L) (ad := ad) (q := 10) (sz := 1) (f := intsF x.used) rfl rfl hi (by rw [hre]; rfl) rfl h3' rfl) ?_; ((conv => arg 5; whnf); repeat (refine xS ?_; conv => arg 5; whnf)))
          (refine wP _ _ (append_op Tryz.T_ok rfl rfl rfl rfl rfl [35, 44] (old_vec rfl rfl (Nat.le_refl _) rfl) (new_vec (lo := 0) rfl rfl (Nat.le_of_eq (Nat.zero_add _)) rfl) rfl cut1_one (by simp only [maxLen]; omega) (by dsimp only; omega)) ?_; ((conv => arg 5; whnf); repeat (refine xS ?_; conv => arg 5; whnf)))
          refine wD <| blockN <| cutG <| Tri.of Tryz.mixed Tryz.T_ok ?_
          (refine wBegin ?_; ((conv => arg 5; whnf); repeat (refine xS ?_; conv => arg 5; whnf)))
          refine wD <| loopN ⟨⟨k + 1, h3'⟩, by dsimp only; omega, ?_⟩
          rw [hw]
          dsimp only
          rw [bldU_now h3' q2 h4' h5', hds, h4', ltB, decide_eq_true h5']
          simp only [List.length_append]
          ((try dsimp only); refine Ent.renC [0, 1, 2, 3, 4, 5, 6, 7, 8, 9, 10, 11, 12, 45] hC ?_ ?_ <;> repeat' (first | exact trivial | exact rfl | exact ⟨_, rfl, rfl, rfl, Nat.le_refl _, fun _ _ => rfl⟩ | exact ⟨_, rfl, rfl, rfl, fun _ _ => rfl⟩ | exact ⟨_, rfl, rfl, rfl⟩ | exact ⟨_, rfl, rfl⟩ | refine ⟨_, rfl, rfl, rfl, by omega, fun k hk => ?_⟩ | refine ⟨?_, ?_⟩ | fail))
          · exact Nat.le_refl _
          · exact fun i hi => join_ints (l := bldU x.used c.acct k ++ [c.acct]) (by rw [List.length_append]; rfl) (fun j hj => join_ints rfl (fun _ _ => rfl) rfl (by rw [List.length_append] at hj; exact hj)) rfl hi
        · have h5' : ¬ c.acct < x.used.getD k 0 := of_decide_eq_false h5
          (refine wGo ?_; ((conv => arg 5; whnf); repeat (refine xS ?_; conv => arg 5; whnf)))
          (refine wP _ _ (partIndex_op Tryz.T_ok rfl rfl rfl rfl rfl (I := c.side.toNat) (J := 41) (F := regF L) (ad := ad) (q := 10) (f := intsF x.used) rfl rfl rfl hi (by rw [hre]; rfl) h3') ?_; ((conv => arg 5; whnf); repeat (refine xS ?_; conv => arg 5; whnf)))
          (refine wP _ _ (partLoad_op Tryz.T_ok rfl rfl (I := c.side.toNat) (J := 41) (F := regF L) (ad := ad) (q := 10) (sz := 1) (f := intsF x.used) rfl rfl hi (by rw [hre]; rfl) rfl h3' rfl) ?_; ((conv => arg 5; whnf); repeat (refine xS ?_; conv => arg 5; whnf)))
          (refine wP _ _ (append_op Tryz.T_ok rfl rfl rfl rfl rfl [13, 37] (old_vec rfl rfl (Nat.le_refl _) rfl) (new_vec (lo := 0) rfl rfl (Nat.le_of_eq (Nat.zero_add _)) rfl) rfl cut1_one (by simp only [maxLen]; omega) (by dsimp only; omega)) ?_; ((conv => arg 5; whnf); repeat (refine xS ?_; conv => arg 5; whnf)))
          refine wD <| blockN <| cutG <| Tri.of Tryz.mixed Tryz.T_ok ?_
          (refine wBegin ?_; ((conv => arg 5; whnf); repeat (refine xS ?_; conv => arg 5; whnf)))
          refine wD <| loopN ⟨⟨k + 1, h3'⟩, by dsimp only; omega, ?_⟩
          rw [hw]
          dsimp only
          rw [bldU_no h3' h4' h5', hds, h4', ltB, decide_eq_false h5']
          simp only [List.length_append]
          ((try dsimp only); refine Ent.renC [0, 1, 2, 3, 4, 5, 6, 7, 8, 9, 10, 11, 12, 38] hC ?_ ?_ <;> repeat' (first | exact trivial | exact rfl | exact ⟨_, rfl, rfl, rfl, Nat.le_refl _, fun _ _ => rfl⟩ | exact ⟨_, rfl, rfl, rfl, fun _ _ => rfl⟩ | exact ⟨_, rfl, rfl, rfl⟩ | exact ⟨_, rfl, rfl⟩ | refine ⟨_, rfl, rfl, rfl, by omega, fun k hk => ?_⟩ | refine ⟨?_, ?_⟩ | fail))
          · exact Nat.le_refl _
          · exact fun i hi => join_ints rfl (fun _ _ => rfl) rfl hi
      · have h4' : doneU x.used c.acct k = true := by simpa using h4
        (refine wGo ?_; ((conv => arg 5; whnf); repeat (refine xS ?_; conv => arg 5; whnf)))
        (refine wP _ _ (partIndex_op Tryz.T_ok rfl rfl rfl rfl rfl (I := c.side.toNat) (J := 41) (F := regF L) (ad := ad) (q := 10) (f := intsF x.used) rfl rfl rfl hi (by rw [hre]; rfl) h3') ?_; ((conv => arg 5; whnf); repeat (refine xS ?_; conv => arg 5; whnf)))
        (refine wP _ _ (partLoad_op Tryz.T_ok rfl rfl (I := c.side.toNat) (J := 41) (F := regF L) (ad := ad) (q := 10) (sz := 1) (f := intsF x.used) rfl rfl hi (by rw [hre]; rfl) rfl h3' rfl) ?_; ((conv => arg 5; whnf); repeat (refine xS ?_; conv => arg 5; whnf)))
        (refine wP _ _ (append_op Tryz.T_ok rfl rfl rfl rfl rfl [13, 37] (old_vec rfl rfl (Nat.le_refl _) rfl) (new_vec (lo := 0) rfl rfl (Nat.le_of_eq (Nat.zero_add _)) rfl) rfl cut1_one (by simp only [maxLen]; omega) (by dsimp only; omega)) ?_; ((conv => arg 5; whnf); repeat (refine xS ?_; conv => arg 5; whnf)))
        refine wD <| blockN <| cutG <| Tri.of Tryz.mixed Tryz.T_ok ?_
        (refine wBegin ?_; ((conv => arg 5; whnf); repeat (refine xS ?_; conv => arg 5; whnf)))
        refine wD <| loopN ⟨⟨k + 1, h3'⟩, by dsimp only; omega, ?_⟩
        rw [hw]
        dsimp only
        rw [bldU_yes h3' h4', hds, h4', Bool.true_or]
        simp only [List.length_append]
        ((try dsimp only); refine Ent.renC [0, 1, 2, 3, 4, 5, 6, 7, 8, 9, 10, 11, 12, 38] hC ?_ ?_ <;> repeat' (first | exact trivial | exact rfl | exact ⟨_, rfl, rfl, rfl, Nat.le_refl _, fun _ _ => rfl⟩ | exact ⟨_, rfl, rfl, rfl, fun _ _ => rfl⟩ | exact ⟨_, rfl, rfl, rfl⟩ | exact ⟨_, rfl, rfl⟩ | refine ⟨_, rfl, rfl, rfl, by omega, fun k hk => ?_⟩ | refine ⟨?_, ?_⟩ | fail))
        · exact Nat.le_refl _
        · exact fun i hi => join_ints rfl (fun _ _ => rfl) rfl hi
    · (refine wGo ?_; ((conv => arg 5; whnf); repeat (refine xS ?_; conv => arg 5; whnf)))
      have h3' : k = x.used.length := by have h9 : ¬ ((k : Nat) : Int) < ((x.used.length : Nat) : Int) := of_decide_eq_false h3; omega
      subst h3'
      have hend := bldU_end q2
      refine wD <| cutE <| loopX <| blockX <| cutG <| Tri.merge (rtkSt3 L R' c ad x) (Tri.of Tryz.mixed Tryz.T_ok ?_) ?_
      · (refine wBegin ?_; ((conv => arg 5; whnf); repeat (refine xS ?_; conv => arg 5; whnf)))
        refine wC (fun h4 => ?_) (fun h4 => ?_)
        · have h4' : doneU x.used c.acct x.used.length = false := by simpa using h4
          rw [if_neg (by rw [h4']; simp)] at hend
          (refine wGo ?_; ((conv => arg 5; whnf); repeat (refine xS ?_; conv => arg 5; whnf)))
          (refine wP _ _ (append_op Tryz.T_ok rfl rfl rfl rfl rfl [13, 24] (old_vec rfl rfl (Nat.le_refl _) rfl) (new_vec (lo := 0) rfl rfl (Nat.le_of_eq (Nat.zero_add _)) rfl) rfl cut1_one (by simp only [maxLen]; omega) (by dsimp only; omega)) ?_; ((conv => arg 5; whnf); repeat (refine xS ?_; conv => arg 5; whnf)))
          refine wD ⟨rfl, ?_⟩
          unfold rtkSt3
          rw [hend]
          simp only [List.length_append]
          ((try dsimp only); refine Ent.renC [0, 1, 2, 3, 4, 5, 6, 7, 8, 9, 10, 11, 12, 25] hC ?_ ?_ <;> repeat' (first | exact trivial | exact rfl | exact ⟨_, rfl, rfl, rfl, Nat.le_refl _, fun _ _ => rfl⟩ | exact ⟨_, rfl, rfl, rfl, fun _ _ => rfl⟩ | exact ⟨_, rfl, rfl, rfl⟩ | exact ⟨_, rfl, rfl⟩ | refine ⟨_, rfl, rfl, rfl, by omega, fun k hk => ?_⟩ | refine ⟨?_, ?_⟩ | fail))
          · exact Nat.le_refl _
          · exact fun i hi => join_ints rfl (fun _ _ => rfl) rfl hi
        · have h4' : doneU x.used c.acct x.used.length = true := by simpa using h4
          rw [if_pos h4'] at hend
          (refine wGo ?_; ((conv => arg 5; whnf); repeat (refine xS ?_; conv => arg 5; whnf)))
          refine wD ⟨rfl, ?_⟩
          unfold rtkSt3
          rw [hend]
          ((try dsimp only); refine Ent.renC [0, 1, 2, 3, 4, 5, 6, 7, 8, 9, 10, 11, 12, 13] hC ?_ ?_ <;> repeat' (first | exact trivial | exact rfl | exact ⟨_, rfl, rfl, rfl, Nat.le_refl _, fun _ _ => rfl⟩ | exact ⟨_, rfl, rfl, rfl, fun _ _ => rfl⟩ | exact ⟨_, rfl, rfl, rfl⟩ | exact ⟨_, rfl, rfl⟩ | refine ⟨_, rfl, rfl, rfl, by omega, fun k hk => ?_⟩ | refine ⟨?_, ?_⟩ | fail))
      unfold rtkSt3
      obtain ⟨u, hu'⟩ : ∃ u, insU x.used c.acct = u := ⟨_, rfl⟩
      have htx : takeX x c = { movedX x c with used := u } := by rw [← hu']; rfl
      rw [hu', htx]
      refine Tri.part (t := 14) rfl rfl (fun p => Tri.of Tryz.mixed Tryz.T_ok ?_)
      (refine wBegin ?_; ((conv => arg 5; whnf); repeat (refine xS ?_; conv => arg 5; whnf)))
      (repeat (refine wN ?_ ?_; exact (by (try simp only [ww] at *); omega); refine wGo ?_; ((conv => arg 5; whnf); repeat (refine xS ?_; conv => arg 5; whnf))))
      simp only [Nat.zero_add]
      have hll : ∀ y : SideM, (L.set c.side.toNat y).length = L.length := fun y => List.length_set ..
      refine wD (Sx.Ends.shutN2 (.inr rfl) (Reg.shutsP rrS rrE L (L.set c.side.toNat { movedX x c with used := u }) 0 (i1 := 9) (q := 10) (q2 := 14) (ad := ad) (ad' := adAt ad c.side.toNat p) (p := p) (sz := 1) (k := u.length) (f := intsF u) (by rw [hll]; exact h0) rfl rfl rfl rfl rfl (hll _).symm (hll _).symm (fun i hi' => ?_) (fun i hi' j y hy => ?_)) rfl rfl rfl rfl)
      · by_cases hki : i = c.side.toNat
        · subst hki
          rw [updF_eq, regF_at hi, adAt_self]; rfl
        · rw [updF_ne hki, regF_ne hki, adAt_ne hki]
      · by_cases hki : i = c.side.toNat
        · subst hki
          rw [regF_at hi] at hy
          rw [adAt_self]
          have hre : regF L c.side.toNat = x.ac := by rw [regF, hx]
          rw [hre]
          rcases used_rows (x := { movedX x c with used := u }) (y := x) rfl rfl rfl hy with h6 | ⟨h6, h7⟩ | ⟨h6, h7⟩
          · exact .inl h6
          · exact .inr (.inl ⟨h6, if_neg h7⟩)
          · exact .inr (.inr ⟨h6, if_pos h7⟩)
        · rw [regF_ne hki] at hy
          rw [adAt_ne hki]
          exact .inr (.inl ⟨hy, rfl⟩)
end Go.Proofs.YtnpkdoggfnlapaaGreatDoor
namespace Go.Proofs.YtnpkdoggfnlapaaGreatDoor
set_option maxRecDepth 100000
open Go.Sx
def usedF (f : Nat → Bool) : Nat → List Value := fun i => [.bool (f i)]
structure MoneyLI (a : AcsM) (n : Int) (ord : List UInt8) where
  i : Nat
  x : SideM
  S : USet
  R : RC
  used : Nat → Bool
  le : i ≤ ord.length
  inv : MoneyI a n used x S
  twin : Twin S R
  kept : Kept x i
  steps : S.steps.length ≤ i
def moMem (a : AcsM) (ord : List UInt8) (x : SideM) (S : USet) (R : RC) (used : Nat → Bool) : Mem :=
  [(0, .ro 1 a.pl.length (rowW a.pl)), (1, .ro 1 a.am.length (rowW a.am)), (3, .ro 1 ord.length (rowB ord)), (4, .ext stepsP), (5, .cells 24 [.slc 0 1 0 a.pl.length, .slc 1 1 0 a.am.length]), (6, .abs (pReg [x])), (7, .abs (rReg [x])), (8, .abs (usetP S)), (9, .abs (rcP R)), (10, .vec 4 1 a.pl.length (usedF used))]
def moSt (a : AcsM) (ord : List UInt8) (n : Int) (x : SideM) (S : USet) (R : RC) (used : Nat → Bool) (i : Option XV) : St :=
  ⟨[none, none, some (XV.sv (.slc 3 1 0 ord.length)), some (XV.sv (.ptr 5 0 0 0)), none, none, none, some (XV.int .i64 n), some (XV.sv (.ptr 6 0 0 0)), some (XV.sv (.ptr 7 0 0 0)), some (XV.sv (.ptr 8 0 0 0)), some (XV.sv (.ptr 9 0 0 0)), some (XV.int .i64 x.bal), some (XV.sv (.slc 10 1 0 a.pl.length)), i] ++ List.replicate 147 none,
   moMem a ord x S R used, 11⟩
def moSt0 (a : AcsM) (ord : List UInt8) (n : Int) (x : SideM) : St :=
  ⟨[none, none, some (XV.sv (.slc 3 1 0 ord.length)), some (XV.sv (.ptr 5 0 0 0)), none, none, none, some (XV.int .i64 n), some (XV.sv (.ptr 6 0 0 0)), some (XV.sv (.ptr 7 0 0 0)), some (XV.sv (.ptr 8 0 0 0)), some (XV.sv (.ptr 9 0 0 0))] ++ List.replicate 150 none,
   [(0, .ro 1 a.pl.length (rowW a.pl)), (1, .ro 1 a.am.length (rowW a.am)), (3, .ro 1 ord.length (rowB ord)), (4, .ext stepsP), (5, .cells 24 [.slc 0 1 0 a.pl.length, .slc 1 1 0 a.am.length]), (6, .abs (pReg [x])), (7, .abs (rReg [x])), (8, .abs (usetP USet.empty)), (9, .abs (rcP RC.empty))], 10⟩
def moSt1 (a : AcsM) (ord : List UInt8) (n : Int) (left : Int) (x : SideM) (S : USet) (R : RC) (used : Nat → Bool) (i k : Nat) (e : Int) : St :=
  ⟨[none, none, some (XV.sv (.slc 3 1 0 ord.length)), some (XV.sv (.ptr 5 0 0 0)), none, none, none, some (XV.int .i64 n), some (XV.sv (.ptr 6 0 0 0)), some (XV.sv (.ptr 7 0 0 0)), some (XV.sv (.ptr 8 0 0 0)), some (XV.sv (.ptr 9 0 0 0)), some (XV.int .i64 left), some (XV.sv (.slc 10 1 0 a.pl.length)), some (XV.int .i64 i), some (XV.int .i64 k), none, some (XV.int .i64 e), some (XV.bool (decide ((accA a k).amt ≤ left)))] ++ List.replicate 143 none,
   moMem a ord x S R used, 11⟩
theorem rtake1_can (x : SideM) (R : RC) (c : ClaimM) (h : Int64) (hx : x.Sized) (hPC : R.P.length = R.C.length) (hR : R.P.length < 900000) (hu : x.used.length < 900000) :
    Does Tryz.prog 24 [(.abs (rReg [x]), .abs (rReg (rtakeE [x] R c h).1.1)), (.abs (rcP R), .abs (rcP (rtakeE [x] R c h).1.2))] [.box (claimTx c).ac, .plain (.one (.raw (.int .i64 h.toInt)))] [] (XV.int .i64 (rtakeE [x] R c h).2) none := by
  refine rtake_can [x] R c h (fun i hi => ?_) (by show 1 ≤ 1000; decide) hPC hR (fun i hi => ?_)
  · obtain rfl : i = 0 := by have : i < 1 := hi; omega
    exact hx
  · obtain rfl : i = 0 := by have : i < 1 := hi; omega
    exact hu
set_option maxHeartbeats 8000000 in
theorem ceaseMoney_walk (a : AcsM) (mo : UInt16) (ord : List UInt8) (hl1 : a.pl.length ≤ maxLen) (hl2 : a.am.length ≤ maxLen) (hl3 : ord.length ≤ maxLen) : Reads Tryz.prog 4 [.box a.ac, .plain (.one (.raw (u16 mo))), .row 1 ord.length (rowB ord)] [stepsP] (XV.bool true) := by
  refine Reads.of Tryz.T_ok Tryz.func4 rfl _ _ _ rfl rfl (fun C hC => ?_)
  (replace hC : C.n0 = 5 := hC; change Tri _ _ _ ⟨_, _, 5⟩ _)
  (refine Tri.cut 3 Tryz.mixed Tryz.T_ok ?_; ((conv => arg 5; whnf); repeat (refine xS ?_; conv => arg 5; whnf)))
  (apply wP; exact (call_op rfl (entersB_of Tryz.func13 (by kernel_rfl)) rfl (awake16.at [4] trivial ⟨lend_ext (c := 4) rfl rfl, trivial⟩)); ((conv => arg 5; whnf); repeat (refine xS ?_; conv => arg 5; whnf)))
  (apply wP; exact (call_op rfl (entersB_of Tryz.func14 (by kernel_rfl)) rfl ((fair_can a hl1 hl2).at [0, 1] ⟨lend_acs (lend_ro0 rfl rfl) (lend_ro0 rfl rfl), trivial⟩ trivial)); ((conv => arg 5; whnf); repeat (refine xS ?_; conv => arg 5; whnf)))
  refine wC (fun h1 => ?_) (fun h1 => ?_)
  · (refine wGo ?_; ((conv => arg 5; whnf); repeat (refine xS ?_; conv => arg 5; whnf)))
    exact wD <| cutR <| Ends.plain (.inr rfl) rfl rfl
  have hf : Fair a := fair_of (by simpa using h1)
  have f1 := hf.few
  have f2 := hf.le
  (refine wGo ?_; ((conv => arg 5; whnf); repeat (refine xS ?_; conv => arg 5; whnf)))
  refine wC (fun h2 => ?_) (fun h2 => ?_)
  · (refine wGo ?_; ((conv => arg 5; whnf); repeat (refine xS ?_; conv => arg 5; whnf)))
    exact wD <| cutR <| Ends.plain (.inr rfl) rfl rfl
  have hn : 0 < a.pl.length := by simp only [beq_eq_false_iff_ne] at h2; omega
  (refine wGo ?_; ((conv => arg 5; whnf); repeat (refine xS ?_; conv => arg 5; whnf)))
  refine wC (fun h2 => ?_) (fun h2 => ?_)
  · (refine wGo ?_; ((conv => arg 5; whnf); repeat (refine xS ?_; conv => arg 5; whnf)))
    exact wD <| cutR <| Ends.plain (.inr rfl) rfl rfl
  have ho : ord.length ≤ 40 := by simp only [decide_eq_false_iff_not] at h2; omega
  (refine wGo ?_; ((conv => arg 5; whnf); repeat (refine xS ?_; conv => arg 5; whnf)))
  refine wD <| cutG <| ?_
  have hmo := mo.toNat_lt
  obtain ⟨n, hnn⟩ : ∃ n : Int, ((1 + mo.toNat % 200 : Nat) : Int) = n := ⟨_, rfl⟩
  have hmon : IntKind.i64.wrap (1 + Int.tmod (IntKind.i64.wrap (mo.toNat : Int)) 200) = n := by
    rw [show (200 : Int) = ((200 : Nat) : Int) from rfl, tm_nat mo.toNat_lt, wrap_id (by omega), ← hnn]; omega
  have hn1 : 1 ≤ n := by omega
  have hn2 : n ≤ 200 := by omega
  (refine Tri.cut 3 Tryz.mixed Tryz.T_ok ?_; ((conv => arg 5; whnf); repeat (refine xS ?_; conv => arg 5; whnf)))
  simp only [hmon]
  (apply wP; exact (call_op rfl (entersB_of Tryz.func18 (by kernel_rfl)) rfl ((fill16_can a hf n true).at [0, 1] ⟨lend_acs (lend_ro0 rfl rfl) (lend_ro0 rfl rfl), lend_plain rfl, lend_plain rfl, trivial⟩ trivial)); ((conv => arg 5; whnf); repeat (refine xS ?_; conv => arg 5; whnf)))
  (apply wP; exact (call_op rfl (entersB_of Tryz.func19 (by kernel_rfl)) rfl (new_spec)); ((conv => arg 5; whnf); repeat (refine xS ?_; conv => arg 5; whnf)))
  have hst := start_is a (m := n) true hn1 (by omega)
  obtain ⟨z, hz⟩ : ∃ z, sideC a n true = z := ⟨_, rfl⟩
  rw [hz] at hst ⊢
  refine wD <| cutG <| Tri.ent (Ent.nilc (c := 38) (e := 78) (cs := [.raw (.slice none 0 0), .raw (.slice none 0 0)]) (j := 0) rfl rfl 65 9) <|
    Tri.ent (Ent.nilc (c := 38) (e := 78) (cs := [.slc 41 9 0 0, .raw (.slice none 0 0)]) (j := 1) rfl rfl 162 11) <|
    Tri.ent (Ent.shut3 (i0 := 38) (i1 := 41) (i2 := 42) (M := RC.empty.mem) (inv := True) rfl trivial rfl rfl rfl rfl rfl rfl rfl rfl ⟨rfl, rfl⟩ ⟨rfl, rfl, Nat.le_refl _, fun i hi => absurd hi (Nat.not_lt_zero i)⟩ ⟨rfl, rfl, Nat.le_refl _, fun i hi => absurd hi (Nat.not_lt_zero i)⟩) <|
    Tri.ent (Ent.unpack (c := 30) (l := fill14Pack [z]) rfl) <| Tri.ent (S' := moSt0 a ord n z) ?_ ?_
  · unfold moSt0
    ((try dsimp only); refine Ent.renC [0, 1, 2, 3, 4, 5, 43, 44, 36, 38] hC ?_ ?_ <;> repeat' (first | exact trivial | exact rfl | exact ⟨_, rfl, rfl, rfl, Nat.le_refl _, fun _ _ => rfl⟩ | exact ⟨_, rfl, rfl, rfl, fun _ _ => rfl⟩ | exact ⟨_, rfl, rfl, rfl⟩ | exact ⟨_, rfl, rfl⟩ | refine ⟨_, rfl, rfl, rfl, by omega, fun k hk => ?_⟩ | refine ⟨?_, ?_⟩ | fail))
  unfold moSt0
  (refine Tri.cut 3 Tryz.mixed Tryz.T_ok ?_; ((conv => arg 5; whnf); repeat (refine xS ?_; conv => arg 5; whnf)))
  refine wN ⟨rfl, Int.natCast_nonneg _, by omega⟩ ?_
  (refine wGo ?_; ((conv => arg 5; whnf); repeat (refine xS ?_; conv => arg 5; whnf)))
  simp only [Int.toNat_natCast]
  have hmi : MoneyI a n (fun _ => false) z USet.empty := ⟨keep_start hst hn1, hst.ceased, hst.root, fun k hk => by rw [hst.used]; simp⟩
  refine wD <| cutG <| Tri.seq ?_
  (refine Tri.cut 1 Tryz.mixed Tryz.T_ok ?_; ((conv => arg 5; whnf); repeat (refine xS ?_; conv => arg 5; whnf)))
  refine wD <| cutG <| Tri.block ?_
  refine Tri.loop (α := MoneyLI a n ord) (fun p => moSt a ord n p.x p.S p.R p.used (some (XV.int .i64 p.i))) (fun p => ord.length - p.i) ⟨0, z, USet.empty, RC.empty, fun _ => false, Nat.zero_le _, hmi, Twin.empty, hst.kept, Nat.le_refl _⟩ ?_ ?_
  · unfold moSt moMem
    dsimp only
    rw [hst.bal]
    ((try dsimp only); refine Ent.renC [0, 1, 2, 3, 4, 5, 6, 7, 8, 9, 21] hC ?_ ?_ <;> repeat' (first | exact trivial | exact rfl | exact ⟨_, rfl, rfl, rfl, Nat.le_refl _, fun _ _ => rfl⟩ | exact ⟨_, rfl, rfl, rfl, fun _ _ => rfl⟩ | exact ⟨_, rfl, rfl, rfl⟩ | exact ⟨_, rfl, rfl⟩ | refine ⟨_, rfl, rfl, rfl, by omega, fun k hk => ?_⟩ | refine ⟨?_, ?_⟩ | fail))
  rintro ⟨i, x, S, R, used, hi, hm, htw, hkp, hs⟩
  dsimp only
  unfold moSt moMem
  (refine Tri.cut 1 Tryz.mixed Tryz.T_ok ?_; ((conv => arg 5; whnf); repeat (refine xS ?_; conv => arg 5; whnf)))
  refine wC (fun h3 => ?_) (fun h3 => ?_)
  · (refine wGo ?_; ((conv => arg 5; whnf); repeat (refine xS ?_; conv => arg 5; whnf)))
    have h3' : i < ord.length := (by (try simp only [ww] at *); omega)
    have hw : IntKind.i64.wrap ((i : Int) + 1) = ((i + 1 : Nat) : Int) := (by (try simp only [ww] at *); omega)
    have hob := (ord.getD i 0).toNat_lt
    have hk := Nat.mod_lt (ord.getD i 0).toNat hn
    have hek : Int.tmod (IntKind.i64.wrap (((ord.getD i 0).toNat : Nat) : Int)) (a.pl.length : Int) = (((ord.getD i 0).toNat % a.pl.length : Nat) : Int) := tm_nat (by omega)
    obtain ⟨k, hkk⟩ : ∃ k, (ord.getD i 0).toNat % a.pl.length = k := ⟨_, rfl⟩
    rw [hkk] at hk hek
    obtain ⟨x', S', e, t1, t2, t3, t4, t5, t6, t7, t8, t9, t10⟩ := hm.step hf (by omega) hk 30
    obtain ⟨r1, r2, r3⟩ := twin_take htw [x] (claimN a k) 30
    have hlen := htw.lens
    have hul := hkp.used
    have hrl : R.P.length ≤ i := by rw [hlen.1, ← hm.keep.len]; exact hul
    have hk' : Kept x' (i + 1) := ⟨t9.trans hkp.par, t10.trans hkp.cert, by omega⟩
    have hok := claimN_ok (a := a) hk
    have ham := accA_amt a k
    have kc := claim16_can a hf k (by omega) 0
    rw [bendC_zero] at kc
    have k1 := take1_can x S (claimN a k) 30 (hkp.sized (by omega)) (by omega) hm.keep.up (by omega) t1
    have k2 := rtake1_can x R (claimN a k) 30 (hkp.sized (by omega)) hlen.2 (by omega) (by omega)
    have k3 := side_in [x'] 0 Nat.one_pos (hk'.sized (by omega))
    rw [show [x'].getD 0 default = x' from rfl] at k3
    rw [t1] at r1 r2 r3
    dsimp only at r1 r2 r3
    rw [r1, r2] at k2
    obtain ⟨R', hR'⟩ : ∃ R', (rtakeE [x] R (claimN a k) 30).1.2 = R' := ⟨_, rfl⟩
    rw [hR'] at k2 r3
    obtain ⟨c, hc⟩ : ∃ c, claimN a k = c := ⟨_, rfl⟩
    rw [hc] at k1 k2 kc
    refine wD <| cutG <| Tri.seq <| Tri.block ?_
    (refine Tri.cut 5 Tryz.mixed Tryz.T_ok ?_; ((conv => arg 5; whnf); repeat (refine xS ?_; conv => arg 5; whnf)))
    (repeat (refine wN ?_ ?_; exact (by (try simp only [ww] at *); omega); refine wGo ?_; ((conv => arg 5; whnf); repeat (refine xS ?_; conv => arg 5; whnf))))
    simp only [Nat.zero_add, Int.toNat_natCast, hek]
    (apply wP; exact (call_op rfl (entersB_of Tryz.func17 (by kernel_rfl)) rfl (kc.at [0, 1] ⟨lend_acs (lend_ro0 rfl rfl) (lend_ro0 rfl rfl), lend_plain rfl, lend_plain rfl, trivial⟩ trivial)); ((conv => arg 5; whnf); repeat (refine xS ?_; conv => arg 5; whnf)))
    (apply wP; exact (call_op rfl (entersB_of Tryz.func20 (by kernel_rfl)) rfl (k1.at2 [4] rfl rfl rfl rfl ⟨lend_tx (t := claimTx c) (lend_nil _ _) (lend_nil _ _) (lend_nil _ _) (lend_nil _ _) (lend_nil _ _) (lend_nil _ _), lend_plain rfl, trivial⟩ ⟨lend_ext (c := 4) rfl rfl, trivial⟩)); ((conv => arg 5; whnf); repeat (refine xS ?_; conv => arg 5; whnf)))
    (apply wP; exact (call_op rfl (entersB_of Tryz.func24 (by kernel_rfl)) rfl (k2.at2 [] rfl rfl rfl rfl ⟨lend_tx (t := claimTx c) (lend_nil _ _) (lend_nil _ _) (lend_nil _ _) (lend_nil _ _) (lend_nil _ _) (lend_nil _ _), lend_plain rfl, trivial⟩ trivial)); ((conv => arg 5; whnf); repeat (refine xS ?_; conv => arg 5; whnf)))
    refine wFd (by simp) ?_
    (refine wGo ?_; ((conv => arg 5; whnf); repeat (refine xS ?_; conv => arg 5; whnf)))
    (apply wP; exact (call_op rfl (entersB_of Tryz.func15 (by kernel_rfl)) rfl ((state_can a k (by omega) (by omega)).at [0, 1] ⟨lend_acs (lend_ro0 rfl rfl) (lend_ro0 rfl rfl), lend_plain rfl, trivial⟩ trivial)); ((conv => arg 5; whnf); repeat (refine xS ?_; conv => arg 5; whnf)))
    refine wD <| cutG <| Tri.ent (S' := moSt1 a ord n x.bal x' S' R' used i k e) ?_ ?_
    · unfold moSt1 moMem
      ((try dsimp only); refine Ent.renC [0, 1, 2, 3, 4, 5, 6, 7, 8, 9, 10] hC ?_ ?_ <;> repeat' (first | exact trivial | exact rfl | exact ⟨_, rfl, rfl, rfl, Nat.le_refl _, fun _ _ => rfl⟩ | exact ⟨_, rfl, rfl, rfl, fun _ _ => rfl⟩ | exact ⟨_, rfl, rfl, rfl⟩ | exact ⟨_, rfl, rfl⟩ | refine ⟨_, rfl, rfl, rfl, by omega, fun k hk => ?_⟩ | refine ⟨?_, ?_⟩ | fail))
    unfold moSt1 moMem
    have hkI : (0 : Int) ≤ (k : Int) ∧ ((k : Nat) : Int) < ((a.pl.length : Nat) : Int) := ⟨Int.natCast_nonneg _, Int.ofNat_lt.2 hk⟩
    have htn : (0 + ((k : Nat) : Int).toNat) = k := by rw [Nat.zero_add, Int.toNat_natCast]
    refine Tri.merge (moSt1 a ord n x.bal x' S' R' used i k e) (Tri.of Tryz.mixed Tryz.T_ok ?_) ?_
    · (refine wBegin ?_; ((conv => arg 5; whnf); repeat (refine xS ?_; conv => arg 5; whnf)))
      refine wN hkI ?_
      (refine wGo ?_; ((conv => arg 5; whnf); repeat (refine xS ?_; conv => arg 5; whnf)))
      simp only [htn]
      refine wN hk ?_
      (refine wGo ?_; ((conv => arg 5; whnf); repeat (refine xS ?_; conv => arg 5; whnf)))
      refine wC (fun h4 => ?_) (fun h4 => ?_)
      · have he13 := t2 h4
        (refine wGo ?_; ((conv => arg 5; whnf); repeat (refine xS ?_; conv => arg 5; whnf)))
        refine wFd (by rw [he13]; rfl) ?_
        (refine wGo ?_; ((conv => arg 5; whnf); repeat (refine xS ?_; conv => arg 5; whnf)))
        refine wN hkI ?_
        (refine wGo ?_; ((conv => arg 5; whnf); repeat (refine xS ?_; conv => arg 5; whnf)))
        simp only [htn]
        refine wN hk ?_
        (refine wGo ?_; ((conv => arg 5; whnf); repeat (refine xS ?_; conv => arg 5; whnf)))
        refine wFd (by rw [h4]; rfl) ?_
        (refine wGo ?_; ((conv => arg 5; whnf); repeat (refine xS ?_; conv => arg 5; whnf)))
        refine wD ⟨rfl, ?_⟩
        unfold moSt1 moMem
        ((try dsimp only); refine Ent.renC [0, 1, 2, 3, 4, 5, 6, 7, 8, 9, 10] hC ?_ ?_ <;> repeat' (first | exact trivial | exact rfl | exact ⟨_, rfl, rfl, rfl, Nat.le_refl _, fun _ _ => rfl⟩ | exact ⟨_, rfl, rfl, rfl, fun _ _ => rfl⟩ | exact ⟨_, rfl, rfl, rfl⟩ | exact ⟨_, rfl, rfl⟩ | refine ⟨_, rfl, rfl, rfl, by omega, fun k hk => ?_⟩ | refine ⟨?_, ?_⟩ | fail))
      · (refine wGo ?_; ((conv => arg 5; whnf); repeat (refine xS ?_; conv => arg 5; whnf)))
        refine wN hkI ?_
        (refine wGo ?_; ((conv => arg 5; whnf); repeat (refine xS ?_; conv => arg 5; whnf)))
        simp only [htn]
        refine wN hk ?_
        (refine wGo ?_; ((conv => arg 5; whnf); repeat (refine xS ?_; conv => arg 5; whnf)))
        refine wTd (by rw [h4]; rfl) ?_
        (refine wGo ?_; ((conv => arg 5; whnf); repeat (refine xS ?_; conv => arg 5; whnf)))
        refine wC (fun h5 => ?_) (fun h5 => ?_)
        · have he5 := t3 h4 (by have h9 : decide ((accA a k).amt ≤ x.bal) = false := by simpa using h5
                                have := of_decide_eq_false h9; omega)
          (refine wGo ?_; ((conv => arg 5; whnf); repeat (refine xS ?_; conv => arg 5; whnf)))
          refine wFd (by rw [he5]; rfl) ?_
          (refine wGo ?_; ((conv => arg 5; whnf); repeat (refine xS ?_; conv => arg 5; whnf)))
          refine wD ⟨rfl, ?_⟩
          unfold moSt1 moMem
          ((try dsimp only); refine Ent.renC [0, 1, 2, 3, 4, 5, 6, 7, 8, 9, 10] hC ?_ ?_ <;> repeat' (first | exact trivial | exact rfl | exact ⟨_, rfl, rfl, rfl, Nat.le_refl _, fun _ _ => rfl⟩ | exact ⟨_, rfl, rfl, rfl, fun _ _ => rfl⟩ | exact ⟨_, rfl, rfl, rfl⟩ | exact ⟨_, rfl, rfl⟩ | refine ⟨_, rfl, rfl, rfl, by omega, fun k hk => ?_⟩ | refine ⟨?_, ?_⟩ | fail))
        · (refine wGo ?_; ((conv => arg 5; whnf); repeat (refine xS ?_; conv => arg 5; whnf)))
          refine wD ⟨rfl, ?_⟩
          unfold moSt1 moMem
          ((try dsimp only); refine Ent.renC [0, 1, 2, 3, 4, 5, 6, 7, 8, 9, 10] hC ?_ ?_ <;> repeat' (first | exact trivial | exact rfl | exact ⟨_, rfl, rfl, rfl, Nat.le_refl _, fun _ _ => rfl⟩ | exact ⟨_, rfl, rfl, rfl, fun _ _ => rfl⟩ | exact ⟨_, rfl, rfl, rfl⟩ | exact ⟨_, rfl, rfl⟩ | refine ⟨_, rfl, rfl, rfl, by omega, fun k hk => ?_⟩ | refine ⟨?_, ?_⟩ | fail))
    unfold moSt1 moMem
    obtain ⟨used', hu'⟩ : ∃ used', (fun j => if e = 0 ∧ j = k then true else used j) = used' := ⟨_, rfl⟩
    rw [hu'] at t6
    refine Tri.merge (moSt a ord n x' S' R' used' (some (XV.int .i64 i))) (Tri.of Tryz.mixed Tryz.T_ok ?_) ?_
    · (refine wBegin ?_; ((conv => arg 5; whnf); repeat (refine xS ?_; conv => arg 5; whnf)))
      refine wC (fun h6 => ?_) (fun h6 => ?_)
      · have h6' : e = 0 := by simpa using h6
        have hb' := t5 h6'
        have hbal : IntKind.i64.wrap (x.bal - (accA a k).amt) = x'.bal := by
          have := hm.keep.bal
          have := hm.keep.sum
          have := hm.keep.clm
          rw [hb']; exact wrap_id (by omega)
        (refine wGo ?_; ((conv => arg 5; whnf); repeat (refine xS ?_; conv => arg 5; whnf)))
        (apply wP; exact (call_op rfl (entersB_of Tryz.func15 (by kernel_rfl)) rfl ((state_can a k (by omega) (by omega)).at [0, 1] ⟨lend_acs (lend_ro0 rfl rfl) (lend_ro0 rfl rfl), lend_plain rfl, trivial⟩ trivial)); ((conv => arg 5; whnf); repeat (refine xS ?_; conv => arg 5; whnf)))
        refine wN hkI ?_
        (refine wGo ?_; ((conv => arg 5; whnf); repeat (refine xS ?_; conv => arg 5; whnf)))
        simp only [htn, hbal]
        refine wN hk ?_
        (refine wGo ?_; ((conv => arg 5; whnf); repeat (refine xS ?_; conv => arg 5; whnf)))
        refine wD ⟨rfl, ?_⟩
        unfold moSt moMem
        refine Ent.trans (Ent.chg0 (c := 10) (g := usedF used') rfl ?_) ?_
        · intro j hj
          rw [← hu']
          by_cases hjk : j = k
          · subst hjk
            rw [updF_eq, usedF]
            simp [usedF, h6']
          · rw [updF_ne hjk, usedF, usedF, if_neg (fun h => hjk h.2)]
        ((try dsimp only); refine Ent.renC [0, 1, 2, 3, 4, 5, 6, 7, 8, 9, 10] hC ?_ ?_ <;> repeat' (first | exact trivial | exact rfl | exact ⟨_, rfl, rfl, rfl, Nat.le_refl _, fun _ _ => rfl⟩ | exact ⟨_, rfl, rfl, rfl, fun _ _ => rfl⟩ | exact ⟨_, rfl, rfl, rfl⟩ | exact ⟨_, rfl, rfl⟩ | refine ⟨_, rfl, rfl, rfl, by omega, fun k hk => ?_⟩ | refine ⟨?_, ?_⟩ | fail))
      · have h6' : e ≠ 0 := by simpa using h6
        obtain ⟨q1, q2⟩ := t4 h6'
        have huu : used' = used := by rw [← hu']; funext j; exact if_neg (fun h => h6' h.1)
        (refine wGo ?_; ((conv => arg 5; whnf); repeat (refine xS ?_; conv => arg 5; whnf)))
        refine wD ⟨rfl, ?_⟩
        unfold moSt moMem
        rw [huu, q1]
        ((try dsimp only); refine Ent.renC [0, 1, 2, 3, 4, 5, 6, 7, 8, 9, 10] hC ?_ ?_ <;> repeat' (first | exact trivial | exact rfl | exact ⟨_, rfl, rfl, rfl, Nat.le_refl _, fun _ _ => rfl⟩ | exact ⟨_, rfl, rfl, rfl, fun _ _ => rfl⟩ | exact ⟨_, rfl, rfl, rfl⟩ | exact ⟨_, rfl, rfl⟩ | refine ⟨_, rfl, rfl, rfl, by omega, fun k hk => ?_⟩ | refine ⟨?_, ?_⟩ | fail))
    have kb := t6.keep.bal
    have kc' := t6.keep.clm
    have ks := t6.keep.sum
    have kt := t6.keep.tot
    have hdif : IntKind.i64.wrap (n - x'.bal) = x'.clm := by rw [wrap_id (by omega)]; omega
    unfold moSt moMem
    refine Tri.of Tryz.mixed Tryz.T_ok ?_
    (refine wBegin ?_; ((conv => arg 5; whnf); repeat (refine xS ?_; conv => arg 5; whnf)))
    (apply wP; exact (call_op rfl (entersB_of Tryz.func22 (by kernel_rfl)) rfl (k3.at1 [] rfl rfl rfl ⟨lend_plain rfl, trivial⟩ trivial)); ((conv => arg 5; whnf); repeat (refine xS ?_; conv => arg 5; whnf)))
    refine wFd (by simp) ?_
    (refine wGo ?_; ((conv => arg 5; whnf); repeat (refine xS ?_; conv => arg 5; whnf)))
    refine wFd (by rw [hdif]; simp) ?_
    (refine wGo ?_; ((conv => arg 5; whnf); repeat (refine xS ?_; conv => arg 5; whnf)))
    (apply wP; exact (call_op rfl (entersB_of Tryz.func23 (by kernel_rfl)) rfl (total_spec S' (c0 := 8) rfl rfl)); ((conv => arg 5; whnf); repeat (refine xS ?_; conv => arg 5; whnf)))
    refine wFd (by rw [hdif, kt]; simp) ?_
    (refine wGo ?_; ((conv => arg 5; whnf); repeat (refine xS ?_; conv => arg 5; whnf)))
    refine wFd (decide_eq_false (by omega)) ?_
    (refine wGo ?_; ((conv => arg 5; whnf); repeat (refine xS ?_; conv => arg 5; whnf)))
    refine wD <| blockN <| cutG <| Tri.of Tryz.mixed Tryz.T_ok ?_
    (refine wBegin ?_; ((conv => arg 5; whnf); repeat (refine xS ?_; conv => arg 5; whnf)))
    refine wD <| loopN ⟨⟨i + 1, x', S', R', used', h3', t6, r3, hk', by omega⟩, by dsimp only; omega, ?_⟩
    rw [hw]
    ((try dsimp only); refine Ent.renC [0, 1, 2, 3, 4, 5, 6, 7, 8, 9, 10] hC ?_ ?_ <;> repeat' (first | exact trivial | exact rfl | exact ⟨_, rfl, rfl, rfl, Nat.le_refl _, fun _ _ => rfl⟩ | exact ⟨_, rfl, rfl, rfl, fun _ _ => rfl⟩ | exact ⟨_, rfl, rfl, rfl⟩ | exact ⟨_, rfl, rfl⟩ | refine ⟨_, rfl, rfl, rfl, by omega, fun k hk => ?_⟩ | refine ⟨?_, ?_⟩ | fail))
  · (refine wGo ?_; ((conv => arg 5; whnf); repeat (refine xS ?_; conv => arg 5; whnf)))
    refine wD <| cutE <| loopX <| blockX <| cutG <| Tri.of Tryz.mixed Tryz.T_ok ?_
    (refine wBegin ?_; ((conv => arg 5; whnf); repeat (refine xS ?_; conv => arg 5; whnf)))
    exact wD (Ends.plain (.inr rfl) rfl rfl)
end Go.Proofs.YtnpkdoggfnlapaaGreatDoor
