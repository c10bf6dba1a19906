/- Parts Lc Wf Wg Yb Yc Yd. -/
import Derived.Test.YtnpkdoggfnlapaaGreatDoorG20
import Derived.Test.YtnpkdoggfnlapaaGreatDoorG17
import Derived.Test.YtnpkdoggfnlapaaGreatDoorG19
set_option linter.unusedSimpArgs false
set_option linter.unusedVariables false
namespace Go.Proofs.YtnpkdoggfnlapaaGreatDoor
set_option maxRecDepth 100000
open Go.Sx
theorem puts_cons (W : WrM) (c : List UInt8) (cs : List (List UInt8)) : W.puts (c :: cs) = (W.put c).puts cs := rfl
def claimP (c : ClaimM) : List (List UInt8) := numL c.side 1 :: numL c.acct 2 :: c.st.owner.l :: numL c.st.amt 7 :: numL c.st.nonce 1 :: hashesL c.proof 16
theorem claimOK_iff {c : ClaimM} : claimOK c = true ↔ (0 ≤ c.side ∧ c.side ≤ 7) ∧ (0 ≤ c.acct ∧ c.acct ≤ 65535) ∧ zeroB c.st.owner = false ∧ (1 ≤ c.st.amt ∧ c.st.amt ≤ 1125899906842624) ∧ (0 ≤ c.st.nonce ∧ c.st.nonce ≤ 255) := by
  simp only [claimOK, acctB, moneyB, withinB, Bool.and_eq_true, decide_eq_true_eq, Bool.not_eq_true']
  constructor
  · rintro ⟨⟨h1, h2⟩, h3, h4, h5⟩; exact ⟨h1, h2, h3, h4, h5⟩
  · rintro ⟨h1, h2, h3, h4, h5⟩; exact ⟨⟨h1, h2⟩, h3, h4, h5⟩
theorem wclaim_can (ty : TypeId) (W : WrM) (c : ClaimM) (hc : claimOK c = true) (hW : W.b.length ≤ 131072) : Acts Tryz.prog 189 (.abs (wrP ty W)) (.abs (wrP ty (W.puts (claimP c)))) [.plain c.x] [] (.tup []) := by
  obtain ⟨f1, f2, _, f3, f4⟩ := claimOK_iff.1 hc
  have p1 := put_len (b := numL c.side 1) hW
  have p2 := put_len (b := numL c.acct 2) p1
  have p3 := put_len (b := c.st.owner.l) p2
  have p4 := put_len (b := numL c.st.amt 7) p3
  have p5 := put_len (b := numL c.st.nonce 1) p4
  refine Acts.of Tryz.T_ok Tryz.func189 rfl _ _ _ _ _ rfl rfl rfl (fun C hC => ?_)
  (replace hC : C.n0 = 2 := hC; change Tri _ _ _ ⟨_, _, 2⟩ _)
  refine Tri.of Tryz.mixed Tryz.T_ok ?_
  (refine xB ?_)
  (apply wP; exact (call_op rfl (entersB_of Tryz.func183 (by kernel_rfl)) rfl ((wnum_can ty W c.side 1 ⟨by decide, by decide, by omega, by omega⟩ (by omega)).at [] rfl rfl rfl ⟨lend_plain rfl, lend_plain rfl, trivial⟩ trivial)); refine xZ ?_)
  (apply wP; exact (call_op rfl (entersB_of Tryz.func183 (by kernel_rfl)) rfl ((wnum_can ty (W.put (numL c.side 1)) c.acct 2 ⟨by decide, by decide, by omega, by omega⟩ (by omega)).at [] rfl rfl rfl ⟨lend_plain rfl, lend_plain rfl, trivial⟩ trivial)); refine xZ ?_)
  (apply wP; exact (call_op rfl (entersB_of Tryz.func213 (by kernel_rfl)) rfl ((whash_can ty ((W.put (numL c.side 1)).put (numL c.acct 2)) c.st.owner (by omega)).at [] rfl rfl rfl ⟨lend_plain rfl, trivial⟩ trivial)); refine xZ ?_)
  (apply wP; exact (call_op rfl (entersB_of Tryz.func183 (by kernel_rfl)) rfl ((wnum_can ty (((W.put (numL c.side 1)).put (numL c.acct 2)).put c.st.owner.l) c.st.amt 7 ⟨by decide, by decide, by omega, by omega⟩ (by omega)).at [] rfl rfl rfl ⟨lend_plain rfl, lend_plain rfl, trivial⟩ trivial)); refine xZ ?_)
  (apply wP; exact (call_op rfl (entersB_of Tryz.func183 (by kernel_rfl)) rfl ((wnum_can ty ((((W.put (numL c.side 1)).put (numL c.acct 2)).put c.st.owner.l).put (numL c.st.amt 7)) c.st.nonce 1 ⟨by decide, by decide, by omega, by omega⟩ (by omega)).at [] rfl rfl rfl ⟨lend_plain rfl, lend_plain rfl, trivial⟩ trivial)); refine xZ ?_)
  (apply wP; exact (call_op rfl (entersB_of Tryz.func215 (by kernel_rfl)) rfl ((row_can ty (((((W.put (numL c.side 1)).put (numL c.acct 2)).put c.st.owner.l).put (numL c.st.amt 7)).put (numL c.st.nonce 1)) c.proof 16 (by decide) p5).at [2] rfl rfl rfl ⟨lend_sla rfl rfl (fun _ _ => rfl) rfl, trivial⟩ trivial)); refine xZ ?_)
  exact wD (Ends.shutN (.inl rfl) (Ent.refl _) rfl rfl rfl)
def SgdM.parts (s : SgdM) : List (List UInt8) := numL s.key 1 :: s.sig.parts
abbrev EncOK (t : TxM) (b : List UInt8) : Prop := Makes Tryz.prog 153 [.box t.ac] [] (.tup [.one (.slc 0 1 0 b.length), .one (.raw (.int .i64 0))]) (.vec 5 1 b.length (rowB b))
abbrev EncBad (t : TxM) : Prop := Reads Tryz.prog 153 [.box t.ac] [] (.tup [.one (.raw (.slice none 0 0)), .one (.raw (.int .i64 1))])
abbrev MayIs (t : TxM) (b : Bool) : Prop := Reads Tryz.prog 82 [.box t.ac] [] (XV.bool b)
theorem enc_bad {t : TxM} (hmay : MayIs t false) : EncBad t := by
  refine Reads.of Tryz.T_ok Tryz.func153 rfl _ _ _ rfl rfl (fun C hC => ?_)
  (replace hC : C.n0 = 6 := hC; change Tri _ _ _ ⟨_, _, 6⟩ _)
  refine Tri.of Tryz.mixed Tryz.T_ok ?_
  (refine xB ?_)
  (apply wP; exact (call_op rfl (entersB_of Tryz.func82 (by kernel_rfl)) rfl (hmay.at [0, 1, 2, 3, 4, 5] ⟨lend_tx (t := t) (lend_ro0 rfl rfl) (lend_ro0 rfl rfl) (lend_ro0 rfl rfl) (lend_ro0 rfl rfl) (lend_ro0 rfl rfl) (lend_ro0 rfl rfl), trivial⟩ trivial)); refine xZ ?_)
  exact wD (Ends.plain (.inr rfl) rfl rfl)
def claimEncB (c : ClaimM) : List UInt8 := (numL 5 1 :: claimP c).flatten
theorem claimEncB_len (c : ClaimM) : (claimEncB c).length = 148 := by
  simp only [claimEncB, claimP, List.flatten_cons, List.length_append, numL_length, H8.l_len, hashesL_flat]
set_option maxHeartbeats 4000000 in
theorem enc5 {t : TxM} (hk : t.kind = 5) (hb : claimOK t.claim = true) (hmay : MayIs t true) : EncOK t (claimEncB t.claim) := by
  have hl := claimEncB_len t.claim
  have q1 : ((⟨[], 0⟩ : WrM).put (numL t.kind 1)).b.length ≤ 131072 := put_len (by simp)
  have hpp : ((⟨[], 0⟩ : WrM).put (numL t.kind 1)).puts (claimP t.claim) = ⟨claimEncB t.claim, 0⟩ := by
    rw [hk, ← puts_cons, puts_ok rfl (by show 0 + (claimEncB t.claim).length ≤ _; omega), List.nil_append]; rfl
  refine Makes.of Tryz.T_ok Tryz.func153 rfl _ _ _ _ rfl rfl rfl rfl 41 (fun C hC => ?_)
  (replace hC : C.n0 = 6 := hC; change Tri _ _ _ ⟨_, _, 6⟩ _)
  (refine Tri.cut 3 Tryz.mixed Tryz.T_ok ?_; refine xZ ?_)
  (apply wP; exact (call_op rfl (entersB_of Tryz.func82 (by kernel_rfl)) rfl (hmay.at [0, 1, 2, 3, 4, 5] ⟨lend_tx (t := t) (lend_ro0 rfl rfl) (lend_ro0 rfl rfl) (lend_ro0 rfl rfl) (lend_ro0 rfl rfl) (lend_ro0 rfl rfl) (lend_ro0 rfl rfl), trivial⟩ trivial)); refine xZ ?_)
  refine wD <| cutG <| Tri.ent (Ent.nilc (c := 13) (j := 0) rfl rfl 5 1) <| Tri.ent (WrM.shuts (i1 := 15) (n := 0) (f := fun _ => []) twr ⟨[], 0⟩ 13 rfl rfl rfl rfl rfl (Nat.zero_le _) (fun i hi => absurd hi (Nat.not_lt_zero _))) <| Tri.of Tryz.mixed Tryz.T_ok ?_
  (refine xB ?_)
  (apply wP; exact (call_op rfl (entersB_of Tryz.func183 (by kernel_rfl)) rfl ((wnum_can twr ⟨[], 0⟩ t.kind 1 ⟨by decide, by decide, by omega, by omega⟩ (by decide)).at [] rfl rfl rfl ⟨lend_plain rfl, lend_plain rfl, trivial⟩ trivial)); refine xZ ?_)
  (refine wFd ?_ ?_; (first | refine decide_eq_false ?_ | rw [beq_eq_false_iff_ne] | rw [bne_eq_false_iff_eq]); exact xW; refine xG ?_)
  (refine wFd ?_ ?_; (first | refine decide_eq_false ?_ | rw [beq_eq_false_iff_ne] | rw [bne_eq_false_iff_eq]); exact xW; refine xG ?_)
  (refine wFd ?_ ?_; (first | refine decide_eq_false ?_ | rw [beq_eq_false_iff_ne] | rw [bne_eq_false_iff_eq]); exact xW; refine xG ?_)
  (refine wFd ?_ ?_; (first | refine decide_eq_false ?_ | rw [beq_eq_false_iff_ne] | rw [bne_eq_false_iff_eq]); exact xW; refine xG ?_)
  (refine wTd ?_ ?_; (first | refine decide_eq_true ?_ | rw [beq_iff_eq] | rw [bne_iff_ne]); exact xW; refine xG ?_)
  (apply wP; exact (call_op rfl (entersB_of Tryz.func189 (by kernel_rfl)) rfl ((wclaim_can twr ((⟨[], 0⟩ : WrM).put (numL t.kind 1)) t.claim hb q1).at [] rfl rfl rfl ⟨lend_plain rfl, trivial⟩ trivial)); refine xZ ?_)
  rw [hpp]
  (apply wP; exact (call_op rfl (entersB_of Tryz.func190 (by kernel_rfl)) rfl ((wend_can twr (claimEncB t.claim) (by omega)).at1 [] rfl rfl rfl trivial trivial)); refine xZ ?_)
  exact wD (Ends.made (.inr rfl) (Ent.refl _) rfl (Nat.le_of_ble_eq_true rfl) rfl)
set_option maxHeartbeats 2000000 in
theorem digest_of (p : UInt8) {t : TxM} {b : List UInt8} (bss : List (List UInt8)) (he : EncOK t b) (hb : bss.length ≤ 1000) (hsh : Short (encAll p (b :: bss))) : Reads Tryz.prog 98 [.plain (.one (.raw (u8 p))), .box t.ac, partsA bss] [stepsP] (.tup [(dig p (b :: bss)).x, .one (.raw (.bool true))]) := by
  refine Reads.of Tryz.T_ok Tryz.func98 rfl _ _ _ rfl rfl (fun C hC => ?_)
  (replace hC : C.n0 = 9 := hC; change Tri _ _ _ ⟨_, _, 9⟩ _)
  (refine Tri.cut 2 Tryz.mixed Tryz.T_ok ?_; refine xZ ?_)
  (apply wP; exact (call_op rfl (entersB_of Tryz.func153 (by kernel_rfl)) rfl (he.at [1, 2, 3, 4, 5, 6] ⟨lend_tx (t := t) (lend_ro0 rfl rfl) (lend_ro0 rfl rfl) (lend_ro0 rfl rfl) (lend_ro0 rfl rfl) (lend_ro0 rfl rfl) (lend_ro0 rfl rfl), trivial⟩ trivial)); refine xZ ?_)
  refine wD <| cutG <| Tri.openRows (c := 7) rfl fun ad cp => Tri.freeze 8 (c := 13) rfl rfl (Nat.le_refl _) fun ad0 cp0 => Tri.of Tryz.mixed Tryz.T_ok ?_
  (refine xB ?_)
  (refine wP _ _ (append_op Tryz.T_ok rfl rfl rfl rfl rfl [25, 7] (old_vec rfl rfl (Nat.le_refl _) rfl) (new_ro (lo := 0) rfl rfl (Nat.le_of_eq (Nat.zero_add _)) rfl) rfl (fun _ _ => rfl) (by simp only [maxLen]; omega) (by dsimp only; omega)) ?_; refine xZ ?_)
  rw [Nat.add_comm 1 bss.length]
  (apply wP; exact (call_op rfl (entersB_of Tryz.func146 (by kernel_rfl)) rfl ((of_can p (b :: bss) hsh).at [27, 19, 20, 8] ⟨lend_plain rfl, lend_rows_vec rfl rfl (parts_cons (q1 := 20) (q2 := 19) rfl rfl rfl rfl rfl rfl), trivial⟩ ⟨lend_ext (c := 8) rfl rfl, trivial⟩)); refine xZ ?_)
  exact wD (Ends.plain (.inr rfl) rfl rfl)
theorem digest_no (p : UInt8) {t : TxM} (bss : List (List UInt8)) (he : EncBad t) : Reads Tryz.prog 98 [.plain (.one (.raw (u8 p))), .box t.ac, partsA bss] [stepsP] (.tup [zeroH.x, .one (.raw (.bool false))]) := by
  refine Reads.of Tryz.T_ok Tryz.func98 rfl _ _ _ rfl rfl (fun C hC => ?_)
  (replace hC : C.n0 = 9 := hC; change Tri _ _ _ ⟨_, _, 9⟩ _)
  refine Tri.of Tryz.mixed Tryz.T_ok ?_
  (refine xB ?_)
  (apply wP; exact (call_op rfl (entersB_of Tryz.func153 (by kernel_rfl)) rfl (he.at [1, 2, 3, 4, 5, 6] ⟨lend_tx (t := t) (lend_ro0 rfl rfl) (lend_ro0 rfl rfl) (lend_ro0 rfl rfl) (lend_ro0 rfl rfl) (lend_ro0 rfl rfl) (lend_ro0 rfl rfl), trivial⟩ trivial)); refine xZ ?_)
  exact wD (Ends.plain (.inr rfl) rfl rfl)
theorem id_of {t : TxM} {b : List UInt8} (he : EncOK t b) (hl : b.length ≤ 900000000) : Reads Tryz.prog 51 [.box t.ac] [stepsP] (.tup [(dig 120 [b]).x, .one (.raw (.bool true))]) := by
  refine Reads.of Tryz.T_ok Tryz.func51 rfl _ _ _ rfl rfl (fun C hC => ?_)
  (replace hC : C.n0 = 7 := hC; change Tri _ _ _ ⟨_, _, 7⟩ _)
  refine Tri.of Tryz.mixed Tryz.T_ok ?_
  (refine xB ?_)
  (apply wP; exact (call_op rfl (entersB_of Tryz.func98 (by kernel_rfl)) rfl ((digest_of 120 [] he (by decide) (short1 _ _ hl)).at [0, 1, 2, 3, 4, 5, 6] ⟨lend_plain rfl, lend_tx (t := t) (lend_ro0 rfl rfl) (lend_ro0 rfl rfl) (lend_ro0 rfl rfl) (lend_ro0 rfl rfl) (lend_ro0 rfl rfl) (lend_ro0 rfl rfl), lend_rows_nil _ _ _, trivial⟩ ⟨lend_ext (c := 6) rfl rfl, trivial⟩)); refine xZ ?_)
  exact wD (Ends.plain (.inr rfl) rfl rfl)
theorem id_no {t : TxM} (he : EncBad t) : Reads Tryz.prog 51 [.box t.ac] [stepsP] (.tup [zeroH.x, .one (.raw (.bool false))]) := by
  refine Reads.of Tryz.T_ok Tryz.func51 rfl _ _ _ rfl rfl (fun C hC => ?_)
  (replace hC : C.n0 = 7 := hC; change Tri _ _ _ ⟨_, _, 7⟩ _)
  refine Tri.of Tryz.mixed Tryz.T_ok ?_
  (refine xB ?_)
  (apply wP; exact (call_op rfl (entersB_of Tryz.func98 (by kernel_rfl)) rfl ((digest_no 120 [] he).at [0, 1, 2, 3, 4, 5, 6] ⟨lend_plain rfl, lend_tx (t := t) (lend_ro0 rfl rfl) (lend_ro0 rfl rfl) (lend_ro0 rfl rfl) (lend_ro0 rfl rfl) (lend_ro0 rfl rfl) (lend_ro0 rfl rfl), lend_rows_nil _ _ _, trivial⟩ ⟨lend_ext (c := 6) rfl rfl, trivial⟩)); refine xZ ?_)
  exact wD (Ends.plain (.inr rfl) rfl rfl)
end Go.Proofs.YtnpkdoggfnlapaaGreatDoor
namespace Go.Proofs.YtnpkdoggfnlapaaGreatDoor
set_option maxRecDepth 100000
open Go.Sx
def KND (l : List (Pt × Coin)) : Prop := (l.map (·.1)).Nodup
theorem mget_put_ne {l : List (Pt × Coin)} {k q : Pt} {v : Coin} (h : q ≠ k) : mget (mput l k v) q = mget l q := by
  induction l with
  | nil => simp [mput, mget, Ne.symm h]
  | cons x r ih =>
    simp only [mput]
    by_cases e : x.1 = k
    · rw [if_pos e]
      simp only [mget]
      rw [if_neg (Ne.symm h), if_neg (fun e2 => h (e2.symm.trans e))]
    · rw [if_neg e]
      simp only [mget, ih]
theorem mget_put_self {l : List (Pt × Coin)} {k : Pt} {v : Coin} : mget (mput l k v) k = some v := by
  induction l with
  | nil => simp [mput, mget]
  | cons x r ih =>
    simp only [mput]
    by_cases e : x.1 = k
    · rw [if_pos e]; simp [mget]
    · rw [if_neg e]; simp only [mget, if_neg e, ih]
theorem absent_of {l : List (Pt × Coin)} {k : Pt} (h : mget l k = none) : k ∉ l.map (·.1) := by
  induction l with
  | nil => simp
  | cons x r ih =>
    simp only [mget] at h
    by_cases e : x.1 = k
    · rw [if_pos e] at h; cases h
    · rw [if_neg e] at h
      simp only [List.map_cons, List.mem_cons, not_or]
      exact ⟨Ne.symm e, ih h⟩
theorem knd_put {l : List (Pt × Coin)} {k : Pt} {v : Coin} (hn : KND l) (h : mget l k = none) : KND (mput l k v) ∧ (mput l k v).length = l.length + 1 := by
  have ha := absent_of h
  have e : mput l k v = l ++ [(k, v)] := mput_none fun x hx e => ha (e ▸ List.mem_map_of_mem hx)
  rw [e]
  refine ⟨?_, by simp⟩
  simp only [KND, List.map_append, List.map_cons, List.map_nil]
  rw [List.nodup_append]
  refine ⟨hn, by simp, fun a h1 b h2 => ?_⟩
  simp only [List.mem_singleton] at h2
  subst h2
  rintro rfl
  exact ha h1
end Go.Proofs.YtnpkdoggfnlapaaGreatDoor
namespace Go.Proofs.YtnpkdoggfnlapaaGreatDoor
set_option maxRecDepth 100000
open Go.Sx
end Go.Proofs.YtnpkdoggfnlapaaGreatDoor
namespace Go.Proofs.YtnpkdoggfnlapaaGreatDoor
set_option maxRecDepth 100000
open Go.Sx
def overH (a b : H8) : H8 := if (zeroB a && zeroB b) = true then zeroH else dig 110 [a.l, b.l]
theorem zeroB_zero : zeroB zeroH = true := by decide
theorem overH_zero : overH zeroH zeroH = zeroH := by rw [overH, if_pos (by rw [zeroB_zero]; rfl)]
abbrev LvM := List (Nat × H8)
def putGo (i : Nat) (h : H8) : LvM → Bool → LvM
  | [], done => if done = true then [] else [(i, h)]
  | (a, x) :: r, done => (if !done && decide (i ≤ a) then [(i, h)] else []) ++ ((if a = i then [] else [(a, x)]) ++ putGo i h r (done || decide (i ≤ a)))
def lvPut (l : LvM) (i : Nat) (h : H8) : LvM := putGo i h l (zeroB h)
def lvGet : LvM → Nat → H8
  | [], _ => zeroH
  | (a, x) :: r, i => if a = i then x else lvGet r i
theorem lvGet_append (a b : LvM) (j : Nat) (h : ∀ x ∈ a, x.1 ≠ j) : lvGet (a ++ b) j = lvGet b j := by
  induction a with
  | nil => rfl
  | cons x r ih =>
    obtain ⟨p, q⟩ := x
    have h1 : p ≠ j := h _ (List.mem_cons_self ..)
    rw [List.cons_append, lvGet, if_neg h1]
    exact ih fun x hx => h x (List.mem_cons_of_mem _ hx)
theorem putGo_other {i : Nat} {h : H8} {j : Nat} (hj : j ≠ i) : ∀ (l : LvM) (d : Bool), lvGet (putGo i h l d) j = lvGet l j
  | [], d => by
    cases d
    · show (if i = j then h else zeroH) = zeroH
      rw [if_neg (fun e => hj e.symm)]
    · rfl
  | (a, x) :: r, d => by
    have ih := putGo_other (h := h) hj r (d || decide (i ≤ a))
    rw [putGo, lvGet_append]
    · by_cases e : a = i
      · rw [if_pos e, List.nil_append, ih, lvGet, if_neg (by omega)]
      · rw [if_neg e]
        show (if a = j then x else lvGet (putGo i h r _) j) = _
        rw [ih]; rfl
    · intro y hy
      split at hy
      · simp only [List.mem_singleton] at hy; subst hy; exact fun e => hj e.symm
      · simp at hy
theorem putGo_done {i : Nat} {h : H8} : ∀ (l : LvM), lvGet (putGo i h l true) i = zeroH
  | [] => rfl
  | (a, x) :: r => by
    have ih := putGo_done (i := i) (h := h) r
    rw [putGo]
    simp only [Bool.not_true, Bool.false_and, Bool.true_or, Bool.false_eq_true, if_false, List.nil_append]
    by_cases e : a = i
    · rw [if_pos e, List.nil_append, ih]
    · rw [if_neg e]
      show (if a = i then x else lvGet (putGo i h r true) i) = _
      rw [if_neg e, ih]
theorem putGo_at {i : Nat} {h : H8} : ∀ (l : LvM), lvGet (putGo i h l false) i = h
  | [] => by
    show (if i = i then h else zeroH) = h
    rw [if_pos rfl]
  | (a, x) :: r => by
    have ih := putGo_at (i := i) (h := h) r
    rw [putGo]
    by_cases e : i ≤ a
    · rw [decide_eq_true e]
      show (if i = i then h else _) = h
      rw [if_pos rfl]
    · rw [decide_eq_false e]
      simp only [Bool.not_false, Bool.and_false, Bool.or_false, Bool.false_eq_true, if_false, List.nil_append]
      rw [if_neg (show ¬ a = i by omega)]
      show (if a = i then x else lvGet (putGo i h r false) i) = _
      rw [if_neg (show ¬ a = i by omega), ih]
theorem lvPut_get (l : LvM) (i : Nat) (h : H8) (j : Nat) : lvGet (lvPut l i h) j = if j = i then h else lvGet l j := by
  by_cases e : j = i
  · subst e
    rw [if_pos rfl, lvPut]
    cases hz : zeroB h
    · exact putGo_at l
    · rw [putGo_done]
      simp only [zeroB, decide_eq_true_eq] at hz
      exact hz.symm
  · rw [if_neg e, lvPut, putGo_other e]
theorem putGo_len {i : Nat} {h : H8} : ∀ (l : LvM) (d : Bool), (putGo i h l d).length ≤ l.length + 1
  | [], d => by cases d <;> simp [putGo]
  | (a, x) :: r, d => by
    have ih := putGo_len (i := i) (h := h) r
    rw [putGo]
    by_cases e : i ≤ a
    · by_cases e2 : a = i
      · simp only [if_pos e2, List.nil_append, List.length_append]
        have := ih (d || decide (i ≤ a))
        split <;> simp <;> omega
      · rw [decide_eq_true e, Bool.or_true]
        simp only [if_neg e2, List.length_append]
        have h3 : ∀ l : LvM, (putGo i h l true).length ≤ l.length := by
          intro l
          induction l with
          | nil => simp [putGo]
          | cons y r ih =>
            obtain ⟨p, q⟩ := y
            rw [putGo]
            simp only [Bool.not_true, Bool.false_and, Bool.false_eq_true, if_false, List.nil_append, Bool.true_or, List.length_append, List.length_cons]
            split <;> simp <;> omega
        have := h3 r
        split <;> simp <;> omega
    · rw [decide_eq_false e, Bool.and_false, Bool.or_false]
      have := ih d
      simp only [Bool.false_eq_true, if_false, List.nil_append, List.length_append, List.length_cons]
      split <;> simp <;> omega
theorem lvPut_len (l : LvM) (i : Nat) (h : H8) : (lvPut l i h).length ≤ l.length + 1 := putGo_len l _
def someIn (l : LvM) (f k : Nat) : Bool := l.any fun x => decide (f ≤ x.1) && decide (x.1 < f + 2 ^ k)
def nodeH (l : LvM) : Nat → Nat → H8
  | f, 0 => if someIn l f 0 = true then lvGet l f else zeroH
  | f, k + 1 => if someIn l f (k + 1) = true then overH (nodeH l f k) (nodeH l (f + 2 ^ k) k) else zeroH
def nodeG (g : Nat → H8) : Nat → Nat → H8
  | f, 0 => g f
  | f, k + 1 => overH (nodeG g f k) (nodeG g (f + 2 ^ k) k)
theorem lvGet_none {l : LvM} {j : Nat} (h : ∀ x ∈ l, x.1 ≠ j) : lvGet l j = zeroH := by
  have := lvGet_append l [] j h
  rwa [List.append_nil] at this
theorem nodeG_zero {g : Nat → H8} : ∀ (k f : Nat), (∀ j, f ≤ j → j < f + 2 ^ k → g j = zeroH) → nodeG g f k = zeroH
  | 0, f, h => h f (Nat.le_refl _) (by omega)
  | k + 1, f, h => by
    have e : 2 ^ (k + 1) = 2 ^ k + 2 ^ k := by rw [Nat.pow_succ]; omega
    rw [nodeG, nodeG_zero k f fun j h1 h2 => h j h1 (by omega), nodeG_zero k (f + 2 ^ k) fun j h1 h2 => h j (by omega) (by omega), overH_zero]
theorem nodeH_eq (l : LvM) : ∀ (k f : Nat), nodeH l f k = nodeG (lvGet l) f k := by
  have hn : ∀ k f, someIn l f k = false → nodeG (lvGet l) f k = zeroH := by
    intro k f h
    refine nodeG_zero k f fun j h1 h2 => lvGet_none fun x hx e => ?_
    rw [someIn, List.any_eq_false] at h
    have := h x hx
    simp only [Bool.and_eq_true, decide_eq_true_eq] at this
    omega
  intro k
  induction k with
  | zero =>
    intro f
    cases h : someIn l f 0
    · rw [nodeH, if_neg (by rw [h]; simp), hn 0 f h]
    · rw [nodeH, if_pos h]; rfl
  | succ k ih =>
    intro f
    cases h : someIn l f (k + 1)
    · rw [nodeH, if_neg (by rw [h]; simp), hn (k + 1) f h]
    · rw [nodeH, if_pos h, ih, ih]; rfl
def sibN (m : Nat) : Nat := if m % 2 = 1 then m - 1 else m + 1
def upS (leaf : H8) (i : Nat) (p : Nat → H8) : Nat → H8
  | 0 => leaf
  | k + 1 => if i / 2 ^ k % 2 = 1 then overH (p k) (upS leaf i p k) else overH (upS leaf i p k) (p k)
def provS (l : LvM) (i : Nat) (k : Nat) : H8 := nodeH l (sibN (i / 2 ^ k) * 2 ^ k) k
theorem upS_node (l : LvM) (i : Nat) : ∀ n, upS (lvGet l i) i (provS l i) n = nodeG (lvGet l) (i / 2 ^ n * 2 ^ n) n
  | 0 => by simp [upS, nodeG]
  | n + 1 => by
    have ih := upS_node l i n
    have e : 2 ^ (n + 1) = 2 * 2 ^ n := by rw [Nat.pow_succ]; omega
    have e1 : i / 2 ^ (n + 1) = i / 2 ^ n / 2 := by rw [Nat.pow_succ, ← Nat.div_div_eq_div_mul]
    rw [upS, ih, provS, nodeH_eq, nodeG, e1, e]
    obtain ⟨m, hm⟩ : ∃ m, i / 2 ^ n = m := ⟨_, rfl⟩
    obtain ⟨c, hc⟩ : ∃ c, 2 ^ n = c := ⟨_, rfl⟩
    rw [hm, hc]
    unfold sibN
    by_cases h : m % 2 = 1
    · rw [if_pos h, if_pos h]
      have e2 : m - 1 = m / 2 * 2 := by omega
      have e3 : m = m / 2 * 2 + 1 := by omega
      have e4 : (m - 1) * c = m / 2 * (2 * c) := by rw [e2, Nat.mul_assoc]
      have e5 : m * c = m / 2 * (2 * c) + c := by
        conv => lhs; rw [e3]
        rw [Nat.add_mul, Nat.mul_assoc, Nat.one_mul]
      rw [e4, e5]
    · rw [if_neg h, if_neg h]
      have e3 : m = m / 2 * 2 := by omega
      have e4 : m * c = m / 2 * (2 * c) := by
        conv => lhs; rw [e3]
        rw [Nat.mul_assoc]
      have e5 : (m + 1) * c = m / 2 * (2 * c) + c := by rw [Nat.add_mul, e4, Nat.one_mul]
      rw [e4, e5]
theorem upS_top (l : LvM) (i : Nat) (hi : i < 65536) : upS (lvGet l i) i (provS l i) 16 = nodeH l 0 16 := by
  rw [upS_node, nodeH_eq, show i / 2 ^ 16 = 0 from Nat.div_eq_of_lt hi, Nat.zero_mul]
end Go.Proofs.YtnpkdoggfnlapaaGreatDoor
namespace Go.Proofs.YtnpkdoggfnlapaaGreatDoor
set_option maxRecDepth 100000
open Go.Sx
def insU : List Int → Int → List Int
  | [], a => [a]
  | x :: r, a => if x < a then x :: insU r a else a :: x :: r
def posU : List Int → Int → Nat
  | [], _ => 0
  | x :: r, a => if x < a then posU r a + 1 else 0
abbrev Rising (l : List Int) : Prop := l.Pairwise (· < ·)
theorem posU_le : ∀ (l : List Int) (a : Int), posU l a ≤ l.length
  | [], _ => Nat.le_refl _
  | x :: r, a => by
    have := posU_le r a
    rw [posU]
    split
    · simp only [List.length_cons]; omega
    · exact Nat.zero_le _
theorem insU_eq : ∀ (l : List Int) (a : Int), insU l a = l.take (posU l a) ++ a :: l.drop (posU l a)
  | [], _ => rfl
  | x :: r, a => by
    rw [insU, posU]
    split
    · rw [insU_eq r a]; rfl
    · rfl
theorem insU_len (l : List Int) (a : Int) : (insU l a).length = l.length + 1 := by
  have := posU_le l a
  rw [insU_eq]
  simp only [List.length_append, List.length_take, List.length_cons, List.length_drop]
  omega
theorem mem_insU {l : List Int} {a b : Int} : b ∈ insU l a ↔ b = a ∨ b ∈ l := by
  induction l with
  | nil => simp [insU]
  | cons x r ih =>
    rw [insU]
    split
    · simp only [List.mem_cons, ih]
      constructor
      · rintro (h | h | h)
        · exact .inr (.inl h)
        · exact .inl h
        · exact .inr (.inr h)
      · rintro (h | h | h)
        · exact .inr (.inl h)
        · exact .inl h
        · exact .inr (.inr h)
    · simp only [List.mem_cons]
theorem rising_ins {l : List Int} {a : Int} (h : Rising l) (ha : a ∉ l) : Rising (insU l a) := by
  induction l with
  | nil => simp [insU]
  | cons x r ih =>
    have h1 := List.pairwise_cons.1 h
    simp only [List.mem_cons, not_or] at ha
    rw [insU]
    split
    · rename_i hx
      refine List.pairwise_cons.2 ⟨fun y hy => ?_, ih h1.2 ha.2⟩
      rcases mem_insU.1 hy with rfl | hy
      · exact hx
      · exact h1.1 y hy
    · rename_i hx
      have hxa : a < x := by omega
      refine List.pairwise_cons.2 ⟨fun y hy => ?_, h⟩
      rcases List.mem_cons.1 hy with rfl | hy
      · exact hxa
      · exact Int.lt_trans hxa (h1.1 y hy)
theorem posU_of {l : List Int} {a : Int} {p : Nat} (hp : p ≤ l.length) (h1 : ∀ j, j < p → l.getD j 0 < a) (h2 : p < l.length → ¬ l.getD p 0 < a) : posU l a = p := by
  induction l generalizing p with
  | nil => simp only [List.length_nil] at hp; rw [posU]; omega
  | cons x r ih =>
    rw [posU]
    cases p with
    | zero =>
      have := h2 (by simp)
      rw [List.getD_cons_zero] at this
      rw [if_neg this]
    | succ p =>
      have := h1 0 (by omega)
      rw [List.getD_cons_zero] at this
      rw [if_pos this, ih (p := p) (by simpa using hp) (fun j hj => ?_) (fun h => ?_)]
      · have := h1 (j + 1) (by omega)
        rwa [List.getD_cons_succ] at this
      · have := h2 (by simpa using h)
        rwa [List.getD_cons_succ] at this
theorem rising_get {l : List Int} (h : Rising l) {i j : Nat} (hij : i < j) (hj : j < l.length) : l.getD i 0 < l.getD j 0 := by
  rw [List.getD_eq_getElem?_getD, List.getD_eq_getElem?_getD, List.getElem?_eq_getElem (by omega), List.getElem?_eq_getElem hj]
  exact List.pairwise_iff_getElem.1 h i j (by omega) hj hij
def leafA (i : Int) (a : AccM) : H8 := dig 97 [numL i 2, a.owner.l, numL a.amt 7, numL a.nonce 1]
def proofOK (root : H8) (c : ClaimM) : Bool := decide (upS (leafA c.acct c.st) c.acct.toNat c.proof 16 = root)
def checkX (x : SideM) (c : ClaimM) : Int := if x.ceased = false then 14 else if c.acct ∈ x.used then 13 else if proofOK x.root c = false then 12 else if x.bal < c.st.amt then 5 else 0
def checkE (L : List SideM) (c : ClaimM) : Int := if claimOK c = false then 4 else if (L.length : Int) ≤ c.side then 8 else checkX (L.getD c.side.toNat default) c
def claimPay (c : ClaimM) : OutM := ⟨c.st.owner, Int64.ofInt c.st.amt⟩
def takeX (x : SideM) (c : ClaimM) : SideM := { x with bal := IntKind.i64.wrap (x.bal - c.st.amt), clm := IntKind.i64.wrap (x.clm + c.st.amt), used := insU x.used c.acct }
def claimParts (c : ClaimM) : List (List UInt8) := numL 5 1 :: claimP c
def claimEnc (c : ClaimM) : List UInt8 := (claimParts c).flatten
def claimID (c : ClaimM) : H8 := dig 120 [claimEnc c]
def takeE (L : List SideM) (S : USet) (c : ClaimM) (h : Int64) : (List SideM × USet) × Int :=
  if checkE L c = 0 then
    if (outsGo (claimID c) h false S 0 [claimPay c]).2 = 0 then ((L.set c.side.toNat (takeX (L.getD c.side.toNat default) c), (outsGo (claimID c) h false S 0 [claimPay c]).1), 0)
    else ((L, (outsGo (claimID c) h false S 0 [claimPay c]).1), (outsGo (claimID c) h false S 0 [claimPay c]).2)
  else ((L, S), checkE L c)
theorem outs1 (id : H8) (h : Int64) (S : USet) (o : OutM) : outsGo id h false S 0 [o] = if S.has (ptAt id 0) = true then (S, 6) else if S.okB (ptAt id 0) ⟨o.to, o.amt, h, false⟩ = true then (S.add1 (ptAt id 0) ⟨o.to, o.amt, h, false⟩, 0) else (S, 5) := rfl
theorem takeE_cases (x : SideM) (S : USet) (c : ClaimM) (h : Int64) :
    (∃ e, e ≠ 0 ∧ takeE [x] S c h = (([x], S), e)) ∨
    (takeE [x] S c h = (([takeX x c], S.add1 (ptAt (claimID c) 0) ⟨c.st.owner, Int64.ofInt c.st.amt, h, false⟩), 0) ∧ claimOK c = true ∧ checkX x c = 0 ∧ S.has (ptAt (claimID c) 0) = false ∧ S.okB (ptAt (claimID c) 0) ⟨c.st.owner, Int64.ofInt c.st.amt, h, false⟩ = true) := by
  unfold takeE
  by_cases h1 : checkE [x] c = 0
  · rw [if_pos h1]
    have h1' := h1
    unfold checkE at h1'
    cases h2 : claimOK c with
    | false => rw [if_pos h2] at h1'; cases h1'
    | true =>
      rw [if_neg (by rw [h2]; simp)] at h1'
      by_cases h3 : (([x] : List SideM).length : Int) ≤ c.side
      · rw [if_pos h3] at h1'; cases h1'
      · rw [if_neg h3] at h1'
        have hs := (claimOK_iff.1 h2).1
        simp only [List.length_singleton] at h3
        have e0 : c.side.toNat = 0 := by omega
        rw [e0] at h1' ⊢
        have h1' : checkX x c = 0 := h1'
        cases h4 : S.has (ptAt (claimID c) 0) with
        | true =>
          have eo : outsGo (claimID c) h false S 0 [claimPay c] = (S, 6) := by rw [outs1, if_pos h4]
          rw [eo]
          exact .inl ⟨6, by decide, rfl⟩
        | false =>
          cases h5 : S.okB (ptAt (claimID c) 0) ⟨c.st.owner, Int64.ofInt c.st.amt, h, false⟩ with
          | false =>
            have e5 : S.okB (ptAt (claimID c) 0) ⟨(claimPay c).to, (claimPay c).amt, h, false⟩ = false := h5
            have eo : outsGo (claimID c) h false S 0 [claimPay c] = (S, 5) := by rw [outs1, if_neg (by rw [h4]; simp), if_neg (by rw [e5]; simp)]
            rw [eo]
            exact .inl ⟨5, by decide, rfl⟩
          | true =>
            have e5 : S.okB (ptAt (claimID c) 0) ⟨(claimPay c).to, (claimPay c).amt, h, false⟩ = true := h5
            have eo : outsGo (claimID c) h false S 0 [claimPay c] = (S.add1 (ptAt (claimID c) 0) ⟨c.st.owner, Int64.ofInt c.st.amt, h, false⟩, 0) := by rw [outs1, if_neg (by rw [h4]; simp), if_pos e5]; rfl
            rw [eo]
            exact .inr ⟨rfl, rfl, h1', rfl, rfl⟩
  · rw [if_neg h1]
    exact .inl ⟨_, h1, rfl⟩
theorem amt64 {c : ClaimM} (h : claimOK c = true) : (Int64.ofInt c.st.amt).toInt = c.st.amt := by
  have := (claimOK_iff.1 h).2.2.2.1
  exact Int64.toInt_ofInt_of_le (by omega) (by omega)
theorem checkX_zero {x : SideM} {c : ClaimM} (h : checkX x c = 0) : x.ceased = true ∧ c.acct ∉ x.used ∧ proofOK x.root c = true ∧ c.st.amt ≤ x.bal := by
  unfold checkX at h
  by_cases h1 : x.ceased = false
  · rw [if_pos h1] at h; cases h
  · rw [if_neg h1] at h
    by_cases h2 : c.acct ∈ x.used
    · rw [if_pos h2] at h; cases h
    · rw [if_neg h2] at h
      by_cases h3 : proofOK x.root c = false
      · rw [if_pos h3] at h; cases h
      · rw [if_neg h3] at h
        by_cases h4 : x.bal < c.st.amt
        · rw [if_pos h4] at h; cases h
        · exact ⟨by simpa using h1, h2, by simpa using h3, by omega⟩
structure KeepI (n : Int) (x : SideM) (S : USet) : Prop where
  sum : x.bal + x.clm = n
  bal : 0 ≤ x.bal
  clm : 0 ≤ x.clm
  tot : S.total = x.clm
  len : x.used.length = S.coins.length
  up : Rising x.used
  nd : KND S.coins
theorem wrap_id {n : Int} (h : -2 ^ 63 ≤ n ∧ n < 2 ^ 63) : IntKind.i64.wrap n = n := by rw [IntKind.wrap_i64]; omega
theorem has_false {S : USet} {p : Pt} (h : S.has p = false) : mget S.coins p = none := by
  have : (mget S.coins p).isSome = false := h
  simpa using this
theorem KeepI.paid {n : Int} {x : SideM} {S : USet} (h : KeepI n x S) (hn : n ≤ 1125899906842624) {c : ClaimM} (h1 : claimOK c = true) (h2 : checkX x c = 0) {p : Pt} {k : Coin} (h3 : S.has p = false) (hk : k.amt.toInt = c.st.amt) : KeepI n (takeX x c) (S.add1 p k) ∧ (takeX x c).bal = x.bal - c.st.amt ∧ (takeX x c).clm = x.clm + c.st.amt := by
  obtain ⟨c1, c2, c3, c4⟩ := checkX_zero h2
  have hb := h.bal
  have hc := h.clm
  have hs := h.sum
  have ha := (claimOK_iff.1 h1).2.2.2.1
  have e1 : IntKind.i64.wrap (x.bal - c.st.amt) = x.bal - c.st.amt := wrap_id (by omega)
  have e2 : IntKind.i64.wrap (x.clm + c.st.amt) = x.clm + c.st.amt := wrap_id (by omega)
  have hp := knd_put (v := k) h.nd (has_false h3)
  refine ⟨⟨?_, ?_, ?_, ?_, ?_, rising_ins h.up c2, hp.1⟩, e1, e2⟩
  · show IntKind.i64.wrap (x.bal - c.st.amt) + IntKind.i64.wrap (x.clm + c.st.amt) = n
    rw [e1, e2]; omega
  · show 0 ≤ IntKind.i64.wrap (x.bal - c.st.amt)
    rw [e1]; omega
  · show 0 ≤ IntKind.i64.wrap (x.clm + c.st.amt)
    rw [e2]; omega
  · show IntKind.i64.wrap (S.total + k.amt.toInt) = IntKind.i64.wrap (x.clm + c.st.amt)
    rw [h.tot, hk]
  · show (insU x.used c.acct).length = (mput S.coins p k).length
    rw [insU_len, h.len, hp.2]
theorem KeepI.take {n : Int} {x : SideM} {S : USet} (h : KeepI n x S) (hn : n ≤ 1125899906842624) (c : ClaimM) (H : Int64) : ∃ x' S' e, takeE [x] S c H = (([x'], S'), e) ∧ KeepI n x' S' ∧ S'.steps.length ≤ S.steps.length + 1 ∧ x'.used.length ≤ x.used.length + 1 ∧ x'.par = x.par ∧ x'.cert = x.cert := by
  rcases takeE_cases x S c H with ⟨e, _, h1⟩ | ⟨h1, h2, h3, h4, _⟩
  · exact ⟨x, S, e, h1, h, Nat.le_succ _, Nat.le_succ _, rfl, rfl⟩
  · refine ⟨_, _, _, h1, (h.paid hn h2 h3 h4 (amt64 h2)).1, ?_, ?_, rfl, rfl⟩
    · show (S.steps ++ [_]).length ≤ _
      rw [List.length_append]; exact Nat.le_refl _
    · show (insU x.used c.acct).length ≤ _
      rw [insU_len]; exact Nat.le_refl _
end Go.Proofs.YtnpkdoggfnlapaaGreatDoor
namespace Go.Proofs.YtnpkdoggfnlapaaGreatDoor
set_option maxRecDepth 100000
open Go.Sx
def u16 (x : UInt16) : Value := .int .u16 (x.toNat : Int)
def rowW (l : List UInt16) : Nat → List Value := fun i => [u16 (l.getD i 0)]
structure AcsM where
  pl : List UInt16
  am : List UInt16
def AcsM.ac (a : AcsM) : List AC := [.row 1 a.pl.length (rowW a.pl), .row 1 a.am.length (rowW a.am)]
def plA (a : AcsM) (i : Nat) : Nat := (a.pl.getD i 0).toNat
def apartB (a : AcsM) (i : Nat) : Bool := (List.range i).all fun k => !decide (plA a k = plA a i)
def fairB (a : AcsM) : Bool := decide (a.pl.length ≤ 12) && (decide (a.pl.length ≤ a.am.length) && (decide (a.am.length ≤ 50) && (List.range a.pl.length).all (apartB a)))
def accA (a : AcsM) (i : Nat) : AccM := ⟨⟨119, byteI (IntKind.u8.wrap ((i : Int) + 1)), 0, 0, 0, 0, 0, 0⟩, 1 + ((a.am.getD i 0).toNat : Int), ((i % 8 : Nat) : Int)⟩
def leafN (a : AcsM) (i : Nat) : H8 := leafA (plA a i : Int) (accA a i)
def treeN (a : AcsM) : Nat → LvM
  | 0 => []
  | k + 1 => lvPut (treeN a k) (plA a k) (leafN a k)
def rootA (a : AcsM) : H8 := nodeH (treeN a a.pl.length) 0 16
def claimN (a : AcsM) (i : Nat) : ClaimM := if i < a.pl.length then ⟨0, plA a i, accA a i, provS (treeN a a.pl.length) (plA a i)⟩ else claim0
def bendC (b : UInt8) (c : ClaimM) : ClaimM :=
  if b = 1 then { c with st := { c.st with amt := IntKind.i64.wrap (c.st.amt + 1) } }
  else if b = 2 then { c with acct := bitI .xor .i64 c.acct 1 }
  else if b = 3 then { c with proof := fun k => if k = 3 then { c.proof 3 with b0 := byteI (bitI .xor .u8 ((c.proof 3).b0.toNat : Int) 1) } else c.proof k }
  else if b = 4 then { c with st := { c.st with owner := { c.st.owner with b2 := byteI (bitI .xor .u8 (c.st.owner.b2.toNat : Int) 1) } } }
  else if b = 5 then { c with st := { c.st with nonce := IntKind.i64.wrap (c.st.nonce + 1) } }
  else c
theorem bendC_zero (c : ClaimM) : bendC 0 c = c := rfl
structure Fair (a : AcsM) : Prop where
  few : a.pl.length ≤ 12
  le : a.pl.length ≤ a.am.length
  am : a.am.length ≤ 50
  apart : ∀ i k, i < a.pl.length → k < a.pl.length → plA a k = plA a i → k = i
theorem fair_of {a : AcsM} (h : fairB a = true) : Fair a := by
  simp only [fairB, Bool.and_eq_true, decide_eq_true_eq, List.all_eq_true, List.mem_range, apartB, Bool.not_eq_true', decide_eq_false_iff_not] at h
  obtain ⟨h1, h2, h3, h4⟩ := h
  refine ⟨h1, h2, h3, fun i k hi hk e => ?_⟩
  rcases Nat.lt_trichotomy k i with hlt | heq | hlt
  · exact absurd e (h4 i hi k hlt)
  · exact heq
  · exact absurd e.symm (h4 k hk i hlt)
theorem plA_lt (a : AcsM) (i : Nat) : plA a i < 65536 := (a.pl.getD i 0).toNat_lt
theorem tree_get {a : AcsM} (hf : Fair a) : ∀ (n : Nat), n ≤ a.pl.length → ∀ k, k < n → lvGet (treeN a n) (plA a k) = leafN a k
  | 0, _, k, hk => absurd hk (Nat.not_lt_zero _)
  | n + 1, hn, k, hk => by
    rw [treeN, lvPut_get]
    by_cases e : plA a k = plA a n
    · rw [if_pos e, hf.apart n k (by omega) (by omega) e]
    · have hkn : k ≠ n := fun h => e (by rw [h])
      rw [if_neg e]
      exact tree_get hf n (by omega) k (by omega)
theorem treeN_len (a : AcsM) : ∀ n, (treeN a n).length ≤ n
  | 0 => Nat.le_refl _
  | n + 1 => by
    have := treeN_len a n
    have := lvPut_len (treeN a n) (plA a n) (leafN a n)
    rw [treeN]; omega
theorem accA_amt (a : AcsM) (i : Nat) : 1 ≤ (accA a i).amt ∧ (accA a i).amt ≤ 65536 := by
  have := (a.am.getD i 0).toNat_lt
  simp only [accA]
  omega
theorem accA_owner (a : AcsM) (i : Nat) : zeroB (accA a i).owner = false := by
  rw [zeroB, decide_eq_false_iff_not]
  intro h
  have := congrArg H8.b0 h
  cases this
theorem claimN_ok {a : AcsM} {i : Nat} (hi : i < a.pl.length) : claimOK (claimN a i) = true := by
  have h1 := accA_amt a i
  have h2 := accA_owner a i
  have h3 := plA_lt a i
  rw [claimN, if_pos hi]
  refine claimOK_iff.2 ⟨⟨Int.le_refl 0, show (0 : Int) ≤ 7 by decide⟩, ⟨?_, ?_⟩, h2, ⟨h1.1, ?_⟩, ?_, ?_⟩
  · exact Int.natCast_nonneg _
  · show ((plA a i : Nat) : Int) ≤ 65535; omega
  · show (accA a i).amt ≤ _; omega
  · exact Int.natCast_nonneg _
  · show ((i % 8 : Nat) : Int) ≤ 255; omega
theorem claimN_proof {a : AcsM} (hf : Fair a) {i : Nat} (hi : i < a.pl.length) : proofOK (rootA a) (claimN a i) = true := by
  rw [claimN, if_pos hi]
  refine decide_eq_true ?_
  show upS (leafA (plA a i : Int) (accA a i)) ((plA a i : Nat) : Int).toNat (provS (treeN a a.pl.length) (plA a i)) 16 = _
  rw [Int.toNat_natCast, show leafA (plA a i : Int) (accA a i) = lvGet (treeN a a.pl.length) (plA a i) from (tree_get hf _ (Nat.le_refl _) i hi).symm]
  exact upS_top _ _ (plA_lt a i)
theorem claimN_side {a : AcsM} {i : Nat} (hi : i < a.pl.length) : (claimN a i).side = 0 := by rw [claimN, if_pos hi]
theorem claimN_acct {a : AcsM} {i : Nat} (hi : i < a.pl.length) : (claimN a i).acct = (plA a i : Int) := by rw [claimN, if_pos hi]
theorem claimN_st {a : AcsM} {i : Nat} (hi : i < a.pl.length) : (claimN a i).st = accA a i := by rw [claimN, if_pos hi]
theorem checkE_one {x : SideM} {c : ClaimM} (h1 : claimOK c = true) (h2 : c.side = 0) : checkE [x] c = checkX x c := by
  rw [checkE, if_neg (by rw [h1]; simp), if_neg (by rw [h2]; simp), h2]; rfl
theorem checkX_good {x : SideM} {c : ClaimM} (h1 : x.ceased = true) (h2 : c.acct ∉ x.used) (h3 : proofOK x.root c = true) (h4 : c.st.amt ≤ x.bal) : checkX x c = 0 := by
  rw [checkX, if_neg (by rw [h1]; simp), if_neg h2, if_neg (by rw [h3]; simp), if_neg (by omega)]
theorem take_paid {x : SideM} {S : USet} {c : ClaimM} {h : Int64} (h1 : claimOK c = true) (h2 : c.side = 0) (h3 : checkX x c = 0) (h4 : S.has (ptAt (claimID c) 0) = false) (h5 : S.okB (ptAt (claimID c) 0) ⟨c.st.owner, Int64.ofInt c.st.amt, h, false⟩ = true) :
    takeE [x] S c h = (([takeX x c], S.add1 (ptAt (claimID c) 0) ⟨c.st.owner, Int64.ofInt c.st.amt, h, false⟩), 0) := by
  have eo : outsGo (claimID c) h false S 0 [claimPay c] = (S.add1 (ptAt (claimID c) 0) ⟨c.st.owner, Int64.ofInt c.st.amt, h, false⟩, 0) := by
    have e5 : S.okB (ptAt (claimID c) 0) ⟨(claimPay c).to, (claimPay c).amt, h, false⟩ = true := h5
    rw [outs1, if_neg (by rw [h4]; simp), if_pos e5]; rfl
  rw [takeE, checkE_one h1 h2, if_pos h3, eo, if_pos rfl, h2]; rfl
theorem take_bad {x : SideM} {S : USet} {c : ClaimM} {h : Int64} {e : Int} (h3 : checkE [x] c = e) (he : e ≠ 0) : takeE [x] S c h = (([x], S), e) := by
  rw [takeE, if_neg (by rw [h3]; exact he), h3]
theorem okB_of {S : USet} {p : Pt} {k : Coin} (h1 : S.has p = false) (h2 : p.no.toInt = 0) (h3 : 1 ≤ k.amt.toInt) (h4 : 0 ≤ S.total) (h5 : S.total + k.amt.toInt ≤ 1125899906842624) : S.okB p k = true := by
  have e : IntKind.i64.wrap (S.total + k.amt.toInt) = S.total + k.amt.toInt := wrap_id (by omega)
  simp only [USet.okB, h1, h2, bothB, mayB, e, Bool.and_eq_true, Bool.not_eq_true', decide_eq_false_iff_not, decide_eq_true_eq, Bool.not_false, and_true]
  omega
end Go.Proofs.YtnpkdoggfnlapaaGreatDoor
