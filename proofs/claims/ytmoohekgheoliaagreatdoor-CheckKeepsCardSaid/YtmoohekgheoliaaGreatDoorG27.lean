/- Proved: whatever the input, drawbridgelaw12.CheckKeeps returns true, and the input reads as it did; condition: the variable hash.steps holds what the program's text lays, and the card ties that to the text. -/
import Derived.Test.YtmoohekgheoliaaGreatDoorG26
import Derived.Test.YtmoohekgheoliaaGreatDoorG09
import Derived.LaidMore
import Derived.LaidHandle
import Derived.MakeChecks
import Derived.Stop.Joined
import Derived.Test.YtmoohekgheoliaaGreatDoorTie
import Derived.Test.YtmoohekgheoliaaGreatDoorCards
set_option linter.unusedSimpArgs false
set_option linter.unusedVariables false
namespace Go.Proofs.YtmoohekgheoliaaGreatDoor
set_option maxRecDepth 100000
open Go.Sx
noncomputable def fsecret {α : Type} (seed : H8) (idx i b : Nat) (k : H8 → α) : α := fdig 115 [seed.l, [byteI (IntKind.u8.wrap (idx : Int)), byteI (IntKind.u8.wrap (i : Int)), byteI (IntKind.u8.wrap (b : Int)), 0]] k
theorem fsecret_eq {α : Type} (seed : H8) (idx i b : Nat) (k : H8 → α) : fsecret seed idx i b k = k (secretH seed (idx : Int) (i : Int) (b : Int)) := fdig_eq _ _ _
noncomputable def fmark {α : Type} (h : H8) (k : H8 → α) : α := fdig 112 [h.l] k
theorem fmark_eq {α : Type} (h : H8) (k : H8 → α) : fmark h k = k (markH h) := fdig_eq _ _ _
noncomputable def fall {α : Type} (seed : H8) (idx : Nat) (n : Nat) : Nat → List UInt8 → (List UInt8 → α) → α :=
  @Nat.rec (fun _ => Nat → List UInt8 → (List UInt8 → α) → α) (fun _ acc k => k acc)
    (fun _ ih i acc k => fsecret seed idx i 0 fun s0 => fmark s0 fun m0 => fsecret seed idx i 1 fun s1 => fmark s1 fun m1 => ih (Nat.succ i) (acc ++ m0.l ++ m1.l) k) n
theorem fall_eq {α : Type} (seed : H8) (idx : Nat) (k : List UInt8 → α) : ∀ n i, fall seed idx n i (allB (fun i b => markH (secretH seed (idx : Int) (i : Int) (b : Int))) i) k = k (allB (fun i b => markH (secretH seed (idx : Int) (i : Int) (b : Int))) (i + n))
  | 0, i => rfl
  | n + 1, i => by
    show (fsecret seed idx i 0 fun s0 => fmark s0 fun m0 => fsecret seed idx i 1 fun s1 => fmark s1 fun m1 => fall seed idx n (Nat.succ i) (allB (fun i b => markH (secretH seed (idx : Int) (i : Int) (b : Int))) i ++ m0.l ++ m1.l) k) = _
    rw [fsecret_eq, fmark_eq, fsecret_eq, fmark_eq]
    rw [show i + (n + 1) = (i + 1) + n by omega]
    exact fall_eq seed idx k n (i + 1)
noncomputable def fpub {α : Type} (seed : H8) (idx : Nat) (k : H8 → α) : α := fall seed idx 16 0 [] fun l => fdig 107 [l] k
theorem fpub_eq {α : Type} (seed : H8) (idx : Nat) (k : H8 → α) : fpub seed idx k = k (pubS seed idx) := by
  have := fall_eq seed idx (fun l => fdig 107 [l] k) 16 0
  rw [fpub]
  refine this.trans ?_
  rw [fdig_eq]
  rfl
noncomputable def ftree {α : Type} (seed : H8) (k : H8 → α) : α :=
  fpub seed 0 fun p0 => fpub seed 1 fun p1 => fpub seed 2 fun p2 => fpub seed 3 fun p3 => fpub seed 4 fun p4 => fpub seed 5 fun p5 => fpub seed 6 fun p6 => fpub seed 7 fun p7 =>
  fdig 108 [p0.l] fun l0 => fdig 108 [p1.l] fun l1 => fdig 108 [p2.l] fun l2 => fdig 108 [p3.l] fun l3 => fdig 108 [p4.l] fun l4 => fdig 108 [p5.l] fun l5 => fdig 108 [p6.l] fun l6 => fdig 108 [p7.l] fun l7 =>
  fdig 109 [l0.l, l1.l] fun a => fdig 109 [l2.l, l3.l] fun b => fdig 109 [l4.l, l5.l] fun c => fdig 109 [l6.l, l7.l] fun d => fdig 109 [a.l, b.l] fun x => fdig 109 [c.l, d.l] fun y => fdig 109 [x.l, y.l] k
theorem ftree_eq {α : Type} (seed : H8) (k : H8 → α) : ftree seed k = k (treeH seed) := by
  rw [ftree]
  simp only [fpub_eq, fdig_eq]
  refine congrArg k ?_
  have h8 : halfN 8 = 4 := rfl
  have h4 : halfN 4 = 2 := rfl
  have h2 : halfN 2 = 1 := rfl
  rw [treeH, rootN_step (n := 8) (by decide), h8, rootN_step (n := 4) (by decide), h4, rootN_step (n := 2) (by decide), h2]
  simp only [show 8 - 4 = 4 from rfl, show 4 - 2 = 2 from rfl, show 2 - 1 = 1 from rfl]
  rw [rootN_step (n := 4) (by decide), h4]
  simp only [show 4 - 2 = 2 from rfl, rootN_step (n := 2) (by decide), h2, show 2 - 1 = 1 from rfl]
  rfl
def isZ (h : H8) : Bool := Nat.beq h.b0.toNat 0
theorem not_zero {h : H8} (e : isZ h = false) : h ≠ zeroH := by
  rintro rfl
  cases e
end Go.Proofs.YtmoohekgheoliaaGreatDoor
namespace Go.Proofs.YtmoohekgheoliaaGreatDoor
set_option maxRecDepth 100000
open Go.Sx
theorem tree2_test : ftree ⟨117, 2, 0, 0, 0, 0, 0, 0⟩ isZ = false := by kernel_rfl
theorem tree2_ne : treeH ⟨117, 2, 0, 0, 0, 0, 0, 0⟩ ≠ zeroH := not_zero ((ftree_eq _ isZ).symm.trans tree2_test)
end Go.Proofs.YtmoohekgheoliaaGreatDoor
namespace Go.Proofs.YtmoohekgheoliaaGreatDoor
set_option maxRecDepth 100000
open Go.Sx
def KND (l : List (Pt × Coin)) : Prop := (l.map (·.1)).Nodup
theorem mget_put_ne {l : List (Pt × Coin)} {k q : Pt} {v : Coin} (h : q ≠ k) : mget (mput l k v) q = mget l q := by
  induction l with
  | nil => simp [mput, mget, Ne.symm h]
  | cons x r ih =>
    simp only [mput]
    by_cases e : x.1 = k
    · rw [if_pos e]
      simp only [mget]
      rw [if_neg (Ne.symm h), if_neg (fun e2 => h (e2.symm.trans e))]
    · rw [if_neg e]
      simp only [mget, ih]
theorem mget_put_self {l : List (Pt × Coin)} {k : Pt} {v : Coin} : mget (mput l k v) k = some v := by
  induction l with
  | nil => simp [mput, mget]
  | cons x r ih =>
    simp only [mput]
    by_cases e : x.1 = k
    · rw [if_pos e]; simp [mget]
    · rw [if_neg e]; simp only [mget, if_neg e, ih]
theorem mget_del_ne {l : List (Pt × Coin)} {k q : Pt} (h : q ≠ k) : mget (mdel l k) q = mget l q := by
  induction l with
  | nil => rfl
  | cons x r ih =>
    simp only [mdel]
    by_cases e : x.1 = k
    · rw [if_pos e]
      simp only [mget]
      rw [if_neg (fun e2 => h (e2.symm.trans e))]
    · rw [if_neg e]; simp only [mget, ih]
theorem mget_absent {l : List (Pt × Coin)} {k : Pt} (h : k ∉ l.map (·.1)) : mget l k = none := mget_none fun x hx e => h (e ▸ List.mem_map_of_mem hx)
theorem mget_del_self {l : List (Pt × Coin)} {k : Pt} (hn : KND l) : mget (mdel l k) k = none := by
  induction l with
  | nil => rfl
  | cons x r ih =>
    simp only [KND, List.map_cons, List.nodup_cons] at hn
    simp only [mdel]
    by_cases e : x.1 = k
    · rw [if_pos e]; subst e; exact mget_absent hn.1
    · rw [if_neg e]; simp only [mget, if_neg e]; exact ih hn.2
theorem mdel_sub {l : List (Pt × Coin)} {k : Pt} : (mdel l k).Sublist l := by
  induction l with
  | nil => exact List.Sublist.slnil
  | cons x r ih =>
    simp only [mdel]
    by_cases e : x.1 = k
    · rw [if_pos e]; exact List.sublist_cons_self _ _
    · rw [if_neg e]; exact ih.cons_cons _
theorem knd_del {l : List (Pt × Coin)} {k : Pt} (hn : KND l) : KND (mdel l k) := List.Nodup.sublist (mdel_sub.map _) hn
theorem absent_of {l : List (Pt × Coin)} {k : Pt} (h : mget l k = none) : k ∉ l.map (·.1) := by
  induction l with
  | nil => simp
  | cons x r ih =>
    simp only [mget] at h
    by_cases e : x.1 = k
    · rw [if_pos e] at h; cases h
    · rw [if_neg e] at h
      simp only [List.map_cons, List.mem_cons, not_or]
      exact ⟨Ne.symm e, ih h⟩
theorem knd_put {l : List (Pt × Coin)} {k : Pt} {v : Coin} (hn : KND l) (h : mget l k = none) : KND (mput l k v) ∧ (mput l k v).length = l.length + 1 := by
  have ha := absent_of h
  have e : mput l k v = l ++ [(k, v)] := mput_none fun x hx e => ha (e ▸ List.mem_map_of_mem hx)
  rw [e]
  refine ⟨?_, by simp⟩
  simp only [KND, List.map_append, List.map_cons, List.map_nil]
  rw [List.nodup_append]
  refine ⟨hn, by simp, fun a h1 b h2 => ?_⟩
  simp only [List.mem_singleton] at h2
  subst h2
  rintro rfl
  exact ha h1
theorem del_len {l : List (Pt × Coin)} {k : Pt} (h : (mget l k).isSome = true) : (mdel l k).length + 1 = l.length := by
  induction l with
  | nil => cases h
  | cons x r ih =>
    simp only [mdel]
    by_cases e : x.1 = k
    · rw [if_pos e]; rfl
    · rw [if_neg e]
      simp only [mget, if_neg e] at h
      simp only [List.length_cons]
      rw [ih h]
end Go.Proofs.YtmoohekgheoliaaGreatDoor
namespace Go.Proofs.YtmoohekgheoliaaGreatDoor
set_option maxRecDepth 100000
open Go.Sx
def sumW : Int → List Int → Int
  | t, [] => t
  | t, x :: r => sumW (IntKind.i64.wrap (t + x)) r
theorem ptAt_inj {id : H8} {i j : Nat} (hi : i < 1000000) (hj : j < 1000000) (h : ptAt id i = ptAt id j) : i = j := by
  have e : Int64.ofNat i = Int64.ofNat j := congrArg Pt.no h
  have a := ofNat_toInt hi
  have b := ofNat_toInt hj
  rw [e, ← b] at a
  omega
theorem outsGo_law (id : H8) (h : Int64) (base : Bool) : ∀ (l : List OutM) (S : USet) (i : Nat) (S' : USet), KND S.coins → i + l.length ≤ 1000 → outsGo id h base S i l = (S', 0) →
    KND S'.coins ∧ S'.coins.length = S.coins.length + l.length ∧ (∀ q, (∀ j, i ≤ j → j < i + l.length → q ≠ ptAt id j) → mget S'.coins q = mget S.coins q) ∧
    (∀ j, j < l.length → mget S'.coins (ptAt id (i + j)) = some ⟨(l.getD j default).to, (l.getD j default).amt, h, base⟩) ∧ S'.total = sumW S.total (l.map fun o => o.amt.toInt)
  | [], S, i, S', hn, hi, hg => by
    rw [outsGo] at hg
    cases hg
    exact ⟨hn, rfl, fun _ _ => rfl, fun j hj => absurd hj (Nat.not_lt_zero _), rfl⟩
  | o :: r, S, i, S', hn, hi, hg => by
    simp only [List.length_cons] at hi
    rw [outsGo] at hg
    by_cases h1 : S.has (ptAt id i) = true
    · rw [if_pos h1] at hg; cases hg
    · rw [if_neg h1] at hg
      by_cases h2 : S.okB (ptAt id i) ⟨o.to, o.amt, h, base⟩ = true
      · rw [if_pos h2] at hg
        have hnone : mget S.coins (ptAt id i) = none := by
          have : (mget S.coins (ptAt id i)).isSome = false := by simpa [USet.has] using h1
          simpa using this
        have hp := knd_put (v := ⟨o.to, o.amt, h, base⟩) hn hnone
        obtain ⟨a1, a2, a3, a4, a5⟩ := outsGo_law id h base r (S.add1 (ptAt id i) ⟨o.to, o.amt, h, base⟩) (i + 1) S' hp.1 (by omega) hg
        refine ⟨a1, ?_, fun q hq => ?_, fun j hj => ?_, ?_⟩
        · rw [a2]
          show (mput S.coins (ptAt id i) ⟨o.to, o.amt, h, base⟩).length + r.length = _
          rw [hp.2]; simp only [List.length_cons]; omega
        · rw [a3 q (fun j h3 h4 => hq j (by omega) (by simp only [List.length_cons]; omega))]
          exact mget_put_ne (hq i (Nat.le_refl _) (by simp only [List.length_cons]; omega))
        · cases j with
          | zero =>
            rw [Nat.add_zero, a3 _ (fun j h3 h4 e => by have := ptAt_inj (by omega) (by omega) e; omega)]
            exact mget_put_self
          | succ j =>
            simp only [List.length_cons] at hj
            have := a4 j (by omega)
            rw [show i + (j + 1) = i + 1 + j by omega, this]
            rfl
        · rw [a5]; rfl
      · rw [if_neg h2] at hg; cases hg
theorem spendAll_law : ∀ (l : List InM) (S : USet), KND S.coins → (∀ x ∈ l, S.has x.pt = true) → (l.map InM.pt).Nodup →
    KND (spendAll S l).coins ∧ (spendAll S l).coins.length + l.length = S.coins.length ∧ (∀ q, q ∉ l.map InM.pt → mget (spendAll S l).coins q = mget S.coins q) ∧ (∀ x ∈ l, mget (spendAll S l).coins x.pt = none) ∧ (spendAll S l).total = sumW S.total (l.map fun x => -(S.get x.pt).amt.toInt)
  | [], S, hn, _, _ => ⟨hn, rfl, fun _ _ => rfl, (fun x hx => absurd hx (by simp)), rfl⟩
  | x :: r, S, hn, hh, hd => by
    simp only [List.map_cons, List.nodup_cons] at hd
    have h0 := hh x (by simp)
    have e : S.spend x.pt = S.spend1 x.pt := by rw [USet.spend, if_pos h0]
    have ne : ∀ y ∈ r, y.pt ≠ x.pt := fun y hy e => hd.1 (e ▸ List.mem_map_of_mem hy)
    have hget : ∀ y ∈ r, mget (S.spend1 x.pt).coins y.pt = mget S.coins y.pt := fun y hy => mget_del_ne (ne y hy)
    obtain ⟨a1, a2, a3, a4, a5⟩ := spendAll_law r (S.spend1 x.pt) (knd_del hn) (fun y hy => by
      show (mget (S.spend1 x.pt).coins y.pt).isSome = true
      rw [hget y hy]; exact hh y (by simp [hy])) hd.2
    have eS : spendAll S (x :: r) = spendAll (S.spend1 x.pt) r := by show spendAll (S.spend x.pt) r = _; rw [e]
    rw [eS]
    refine ⟨a1, ?_, fun q hq => ?_, fun y hy => ?_, ?_⟩
    · have := del_len (l := S.coins) (k := x.pt) h0
      have e2 : (S.spend1 x.pt).coins = mdel S.coins x.pt := rfl
      rw [e2] at a2
      simp only [List.length_cons]; omega
    · simp only [List.map_cons, List.mem_cons, not_or] at hq
      rw [a3 q hq.2]
      exact mget_del_ne hq.1
    · rcases List.mem_cons.1 hy with rfl | hy
      · rw [a3 _ hd.1]; exact mget_del_self hn
      · exact a4 y hy
    · rw [a5]
      show sumW (IntKind.i64.wrap (S.total - (S.get x.pt).amt.toInt)) _ = sumW (IntKind.i64.wrap (S.total + -(S.get x.pt).amt.toInt)) _
      rw [Int.sub_eq_add_neg]
      congr 1
      refine List.map_congr_left fun y hy => ?_
      simp only [USet.get, hget y hy]
end Go.Proofs.YtmoohekgheoliaaGreatDoor
namespace Go.Proofs.YtmoohekgheoliaaGreatDoor
set_option maxRecDepth 100000
open Go.Sx
theorem sumW_wrap : ∀ (l : List Int) (t : Int), IntKind.i64.wrap (sumW t l) = IntKind.i64.wrap (t + l.sum)
  | [], t => by rw [sumW]; simp
  | x :: r, t => by
    rw [sumW, sumW_wrap r, List.sum_cons]
    simp only [IntKind.wrap_i64]
    omega
theorem wrap_self {t : Int} (h : -9223372036854775808 ≤ t ∧ t < 9223372036854775808) : IntKind.i64.wrap t = t := by rw [IntKind.wrap_i64]; omega
theorem wrap_in (n : Int) : -9223372036854775808 ≤ IntKind.i64.wrap n ∧ IntKind.i64.wrap n < 9223372036854775808 := by rw [IntKind.wrap_i64]; omega
theorem sumW_in : ∀ (l : List Int) (t : Int), (-9223372036854775808 ≤ t ∧ t < 9223372036854775808) → -9223372036854775808 ≤ sumW t l ∧ sumW t l < 9223372036854775808
  | [], t, h => h
  | x :: r, t, _ => sumW_in r _ (wrap_in _)
theorem sumW_eq {l : List Int} {t : Int} (h : -9223372036854775808 ≤ t ∧ t < 9223372036854775808) : sumW t l = IntKind.i64.wrap (t + l.sum) := by
  rw [← sumW_wrap, wrap_self (sumW_in l t h)]
theorem sumM_sumW : ∀ (l : List Int) (t r : Int), sumM t l = some r → r = sumW t l
  | [], t, r, h => by cases h; rfl
  | x :: l, t, r, h => by
    rw [sumM] at h
    by_cases e : bothB t x (IntKind.i64.wrap (t + x)) = true
    · rw [if_pos e] at h; exact sumM_sumW l _ r h
    · rw [if_neg e] at h; cases h
theorem overN_eq (t : TxM) : ∀ i, i ≤ t.fwds.length → overN t i = IntKind.i64.wrap ((t.fwds.take i).map fun f => f.amt.toInt).sum
  | 0, _ => rfl
  | i + 1, hi => by
    rw [overN, overN_eq t i (by omega), map_take_succ (fun f : FwdM => f.amt.toInt) (by omega), List.sum_append]
    simp only [List.sum_cons, List.sum_nil, IntKind.wrap_i64]
    omega
theorem firstE_all {S : USet} {t : TxM} {h : Int} {n : Nat} (h0 : firstE S t h n = 0) : ∀ i, i < n → (inAt S t h i).2 = 0 := by
  intro i hi
  have e1 : firstE S t h (i + 1) = 0 := by
    refine Classical.byContradiction fun hne => ?_
    rw [firstE_late (n := n) (m := i + 1) (by omega) hne] at h0
    exact hne h0
  rw [firstE] at e1
  by_cases e : firstE S t h i = 0
  · rw [if_pos e] at e1; exact e1
  · rw [if_neg e] at e1; exact absurd e1 e
theorem inE_ok {S : USet} {t : TxM} {i : Nat} {h : Int} {x : InM} (e : (inE S t i h x).2 = 0) : S.has x.pt = true ∧ (inE S t i h x).1 = S.get x.pt := by
  unfold inE at e ⊢
  by_cases e1 : badIn S x = true
  · rw [if_pos e1] at e; cases e
  · rw [if_neg e1] at e ⊢
    have hb : S.has x.pt = true := by
      cases hh : S.has x.pt
      · exact absurd (by rw [badIn, hh]; rfl) e1
      · rfl
    refine ⟨hb, ?_⟩
    split at e
    · cases e
    · rename_i e2
      rw [if_neg e2]
      split at e
      · cases e
      · rename_i e3
        rw [if_neg e3]
theorem getD_get {E : Type} [Inhabited E] {l : List E} {i : Nat} (h : i < l.length) : l.getD i default = l[i] := by rw [List.getD_eq_getElem?_getD, List.getElem?_eq_getElem h]; rfl
theorem ins_nodup {l : List InM} (h : insOK l = true) : (l.map InM.pt).Nodup := by
  rw [insOK, Bool.and_eq_true] at h
  rw [List.Nodup, List.pairwise_map, List.pairwise_iff_getElem]
  intro i j hi hj hij e
  have ha := range_all_at h.1 hj
  rw [insAt, Bool.and_eq_true, Bool.not_eq_true'] at ha
  have := any_at (p := sameAs (l.getD j default)) hij (Nat.le_of_lt hj) (by rw [sameAs, decide_eq_true_eq, getD_get hi, getD_get hj]; exact e)
  rw [this] at ha
  exact absurd ha.1 (by simp)
end Go.Proofs.YtmoohekgheoliaaGreatDoor
namespace Go.Proofs.YtmoohekgheoliaaGreatDoor
set_option maxRecDepth 100000
open Go.Sx
theorem pay_ok {S : USet} {t : TxM} {h : Int} (e : (payE S t h).2 = 0) : (∀ x ∈ t.ins, S.has x.pt = true) ∧ ∃ a b, a = sumW 0 (t.ins.map fun x => (S.get x.pt).amt.toInt) ∧ b = sumW 0 (payAmts t) ∧ (payE S t h).1 = IntKind.i64.wrap (a - b) ∧ 0 ≤ (payE S t h).1 := by
  unfold payE at e ⊢
  by_cases h0 : firstE S t h t.ins.length = 0
  · rw [if_pos h0] at e ⊢
    have hall := firstE_all h0
    have hin : ∀ i, i < t.ins.length → S.has (t.ins.getD i default).pt = true ∧ (inAt S t h i).1 = S.get (t.ins.getD i default).pt := fun i hi => inE_ok (hall i hi)
    refine ⟨fun x hx => ?_, ?_⟩
    · obtain ⟨i, hi, rfl⟩ := List.getElem_of_mem hx
      have := (hin i hi).1
      rwa [getD_get hi] at this
    have hA : inAmts S t h t.ins.length = t.ins.map fun x => (S.get x.pt).amt.toInt := by
      apply List.ext_getElem
      · simp [inAmts_length]
      · intro i h1 h2
        simp only [List.length_map] at h2
        simp only [inAmts, List.getElem_map, List.getElem_range]
        rw [(hin i h2).2, getD_get h2]
    rw [hA] at e ⊢
    unfold feeE at e ⊢
    split at e
    · cases e
    · rename_i hb
      rw [if_neg hb]
      have hb' : (!(sumM 0 (t.ins.map fun x => (S.get x.pt).amt.toInt)).isSome || (!(sumM 0 (payAmts t)).isSome || !bothB ((sumM 0 (t.ins.map fun x => (S.get x.pt).amt.toInt)).getD 0) ((sumM 0 (payAmts t)).getD 0) (IntKind.i64.wrap ((sumM 0 (t.ins.map fun x => (S.get x.pt).amt.toInt)).getD 0 - (sumM 0 (payAmts t)).getD 0)))) = false := Bool.eq_false_iff.2 hb
      cases ea : sumM 0 (t.ins.map fun x => (S.get x.pt).amt.toInt) with
      | none => rw [ea] at hb'; cases hb'
      | some a =>
        cases eb : sumM 0 (payAmts t) with
        | none => rw [ea, eb] at hb'; cases hb'
        | some b =>
          rw [ea, eb] at hb'
          refine ⟨a, b, sumM_sumW _ _ _ ea, sumM_sumW _ _ _ eb, rfl, ?_⟩
          have hm : bothB a b (IntKind.i64.wrap (a - b)) = true := by simpa using hb'
          rw [bothB, Bool.and_eq_true] at hm
          have := hm.2
          simp only [mayB] at this
          simp at this
          exact this.1
  · rw [if_neg h0] at e
    exact absurd e h0
theorem keeps_law {S : USet} {t : TxM} {H : Int64} {hc : t.claim.Wf} (hn : KND S.coins) (hr : -9223372036854775808 ≤ S.total ∧ S.total < 9223372036854775808) (hS : S.coins.length < 1000000) (hm : mayPay t hc = true) (he : (doE S t H).2.2 = 0) (hne : ∀ i, i < t.ins.length → (t.ins.getD i default).pt.tx ≠ payID t) {nR : Nat} (hR : S.coins.length = nR) :
    KeepsLaw t S (doE S t H).1 H (doE S t H).2.1 nR := by
  have hpB := (mayPay_iff.1 hm).1
  rw [payB, Bool.and_eq_true, Bool.and_eq_true] at hpB
  obtain ⟨hins, houts, _⟩ := hpB
  have hnd := ins_nodup hins
  rw [outsOK, Bool.and_eq_true, decide_eq_true_eq] at houts
  have hlen : t.ins.length ≤ 8 := by rw [insOK, Bool.and_eq_true, within_iff] at hins; omega
  by_cases h1 : (payE S t H.toInt).2 = 0
  · by_cases h2 : (outsGo (payID t) H false (spendAll S t.ins) 0 t.outs).2 = 0
    · obtain ⟨hhas, a, b, ha, hb, hf, hpos⟩ := pay_ok h1
      obtain ⟨s1, s2, s3, s4, s5⟩ := spendAll_law t.ins S hn hhas hnd
      obtain ⟨S', hS'⟩ : ∃ S', (outsGo (payID t) H false (spendAll S t.ins) 0 t.outs).1 = S' := ⟨_, rfl⟩
      have hg : outsGo (payID t) H false (spendAll S t.ins) 0 t.outs = (S', 0) := by rw [← hS', ← h2]
      obtain ⟨o1, o2, o3, o4, o5⟩ := outsGo_law (payID t) H false t.outs (spendAll S t.ins) 0 S' s1 (by omega) hg
      have hd : doE S t H = (S', ((payE S t H.toInt).1, 0)) := by rw [doE, if_pos h1, if_pos h2, hS']
      rw [hd]
      refine ⟨fun i hi => ?_, fun i hi => ?_, hpos, ?_, ?_⟩
      · have := o4 i hi
        rw [Nat.zero_add] at this
        exact ⟨by rw [USet.has, this]; rfl, by rw [USet.get, this]; rfl⟩
      · have hx : t.ins.getD i default ∈ t.ins := by rw [getD_get hi]; exact List.getElem_mem hi
        have hq := o3 (t.ins.getD i default).pt (fun j _ _ e => hne i hi (congrArg Pt.tx e))
        rw [USet.has, hq, s4 _ hx]; rfl
      · have e1 : S'.total = _ := o5
        rw [e1, s5, sumW_eq (sumW_in _ _ hr), sumW_eq hr, overN_eq t _ (Nat.le_refl _), List.take_length]
        show S.total = IntKind.i64.wrap (_ + (payE S t H.toInt).1)
        rw [hf, ha, hb, sumW_eq (by omega), sumW_eq (by omega), payAmts, List.sum_append]
        have hneg : (t.ins.map fun x => -(S.get x.pt).amt.toInt).sum = -(t.ins.map fun x => (S.get x.pt).amt.toInt).sum := by
          generalize t.ins = l
          induction l with
          | nil => rfl
          | cons x r ih => simp only [List.map_cons, List.sum_cons, ih]; omega
        rw [hneg]
        generalize (t.ins.map fun x => (S.get x.pt).amt.toInt).sum = A
        generalize (t.outs.map fun o => o.amt.toInt).sum = O
        generalize (t.fwds.map fun f => f.amt.toInt).sum = W
        simp only [IntKind.wrap_i64]
        omega
      · show ((S'.coins.length : Nat) : Int) = _
        rw [o2, IntKind.wrap_i64, IntKind.wrap_i64]
        omega
    · rw [doE, if_pos h1, if_neg h2] at he
      exact absurd he h2
  · rw [doE, if_neg h1] at he
    exact absurd he h1
end Go.Proofs.YtmoohekgheoliaaGreatDoor
namespace Go.Proofs.YtmoohekgheoliaaGreatDoor
set_option maxRecDepth 100000
open Go.Sx
theorem ptOf_small {i : Nat} (h : i ≤ 60) : ptOf (i : Int) = ⟨⟨116, 0, 0, 0, 0, 0, 0, 0⟩, Int64.ofNat i⟩ := by
  have : ∀ i : Nat, i ≤ 60 → ptOf (i : Int) = ⟨⟨116, 0, 0, 0, 0, 0, 0, 0⟩, Int64.ofNat i⟩ := by decide
  exact this i h
theorem ptOf_ne {i j : Nat} (hi : i ≤ 60) (hj : j ≤ 60) (h : i ≠ j) : ptOf (i : Int) ≠ ptOf (j : Int) := by
  rw [ptOf_small hi, ptOf_small hj]
  intro e
  exact h (ptAt_inj (id := ⟨116, 0, 0, 0, 0, 0, 0, 0⟩) (by omega) (by omega) e)
theorem ptOf_lt {i j : Nat} (hj : j ≤ 60) (h : i < j) : ltPt (ptOf (i : Int)) (ptOf (j : Int)) = true := by
  have : ∀ j : Nat, j ≤ 60 → ∀ i : Nat, i < j → ltPt (⟨⟨116, 0, 0, 0, 0, 0, 0, 0⟩, Int64.ofNat i⟩ : Pt) ⟨⟨116, 0, 0, 0, 0, 0, 0, 0⟩, Int64.ofNat j⟩ = true := by decide
  rw [ptOf_small hj, ptOf_small (by omega)]
  exact this j hj i h
def ptsTo (n : Nat) : List Pt := (List.range n).map fun i : Nat => ptOf (i : Int)
theorem ptsTo_succ (n : Nat) : ptsTo (n + 1) = ptsTo n ++ [ptOf (n : Int)] := by simp [ptsTo, List.range_succ]
theorem ptsTo_len (n : Nat) : (ptsTo n).length = n := by simp [ptsTo]
theorem posIn_all {p : Pt} : ∀ {l : List Pt}, (∀ q ∈ l, ltPt q p = true) → posIn p l = l.length
  | [], _ => rfl
  | q :: r, h => by rw [posIn, if_pos (h q (by simp)), posIn_all fun x hx => h x (by simp [hx])]; rfl
structure FillOk (f : FillM) : Prop where
  n : f.I.length ≤ 60
  keys : f.S.coins.map (·.1) = ptsTo f.I.length
  P : f.R.P = ptsTo f.I.length
  C : f.R.C = f.S.coins.map (·.2)
  tot : f.S.total = f.R.sumN f.R.C.length
  rng : 0 ≤ f.S.total ∧ f.S.total ≤ 1125899906842624
theorem FillOk.zero : FillOk fill0 := ⟨by decide, rfl, rfl, rfl, rfl, by decide⟩
theorem FillOk.fresh {f : FillM} (h : FillOk f) (hn : f.I.length < 60) : mget f.S.coins (ptOf (f.I.length : Int)) = none ∧ f.R.isAt (ptOf (f.I.length : Int)) = false ∧ f.R.pos (ptOf (f.I.length : Int)) = f.R.P.length := by
  have hpos : f.R.pos (ptOf (f.I.length : Int)) = f.R.P.length := by
    rw [RC.pos, h.P]
    refine posIn_all fun q hq => ?_
    simp only [ptsTo, List.mem_map, List.mem_range] at hq
    obtain ⟨i, hi, rfl⟩ := hq
    exact ptOf_lt (by omega) hi
  refine ⟨mget_absent ?_, ?_, hpos⟩
  · rw [h.keys]
    simp only [ptsTo, List.mem_map, List.mem_range]
    rintro ⟨i, hi, e⟩
    exact ptOf_ne (by omega) (by omega) (by omega) e
  · rw [RC.isAt, hpos]; simp
theorem FillOk.nd {f : FillM} (h : FillOk f) : KND f.S.coins := by
  rw [KND, h.keys, ptsTo, List.Nodup, List.pairwise_map, List.pairwise_iff_getElem]
  intro i j hi hj hij
  simp only [List.length_range] at hi hj
  simp only [List.getElem_range]
  have := h.n
  exact ptOf_ne (by omega) (by omega) (by omega)
theorem sumN_congr {R R' : RC} : ∀ n, (∀ i, i < n → (R.C.getD i default).amt = (R'.C.getD i default).amt) → R.sumN n = R'.sumN n
  | 0, _ => rfl
  | n + 1, h => by rw [RC.sumN, RC.sumN, sumN_congr n (fun i hi => h i (by omega)), h n (by omega)]
theorem ptOf_no {i : Nat} (h : i ≤ 60) : (ptOf (i : Int)).no.toInt = (i : Int) := by
  rw [ptOf_small h]
  exact (ofNat_toInt (by omega)).symm
theorem FillOk.same {f : FillM} (h : FillOk f) (hn : f.I.length < 60) (c : Coin) : f.S.okB (ptOf (f.I.length : Int)) c = f.R.okB (ptOf (f.I.length : Int)) c := by
  obtain ⟨h1, h2, h3⟩ := h.fresh hn
  have hh : f.S.has (ptOf (f.I.length : Int)) = false := by rw [USet.has, h1]; rfl
  have hr := h.rng
  have e1 := ptOf_no (i := f.I.length) (by omega)
  rw [Bool.eq_iff_iff, USet.okB, RC.okB, h2, hh, e1, ← h.tot]
  simp only [bothB, mayB, IntKind.wrap_i64, Bool.and_eq_true, Bool.not_eq_true', decide_eq_false_iff_not, decide_eq_true_eq]
  have c1 := Int64.le_toInt c.amt
  have c2 := Int64.toInt_lt c.amt
  constructor <;> intro hq <;> repeat' (first | trivial | rfl | omega | refine ⟨?_, ?_⟩)
theorem sumN_append (P P' : List Pt) (l r : List Coin) : ∀ n, n ≤ l.length → (⟨P, l ++ r⟩ : RC).sumN n = (⟨P', l⟩ : RC).sumN n := fun n hn => sumN_congr n fun i hi => by
  show ((l ++ r).getD i default).amt = (l.getD i default).amt
  rw [List.getD_eq_getElem?_getD, List.getD_eq_getElem?_getD, List.getElem?_append_left (by omega)]
theorem FillOk.step {f : FillM} (h : FillOk f) (hn : f.I.length < 60) (c : LCoin) : FillOk (fillStep f c) := by
  obtain ⟨h1, h2, h3⟩ := h.fresh hn
  have hs := h.same hn c.coin
  by_cases hok : f.R.okB (ptOf (f.I.length : Int)) c.coin = true
  · have hok' := hs.trans hok
    have hn0 : f.S.coins.length = f.I.length := by rw [← List.length_map (f := (·.1)), h.keys, ptsTo_len]
    have hPl : f.R.P.length = f.I.length := by rw [h.P, ptsTo_len]
    have hCl : f.R.C.length = f.I.length := by rw [h.C, List.length_map, hn0]
    have e4 : mput f.S.coins (ptOf (f.I.length : Int)) c.coin = f.S.coins ++ [(ptOf (f.I.length : Int), c.coin)] := mput_none fun x hx e => absent_of h1 (e ▸ List.mem_map_of_mem hx)
    have e1 : f.S.add (ptOf (f.I.length : Int)) c.coin = ⟨f.S.coins ++ [(ptOf (f.I.length : Int), c.coin)], f.S.steps ++ [⟨ptOf (f.I.length : Int), c.coin, true⟩], IntKind.i64.wrap (f.S.total + c.coin.amt.toInt)⟩ := by
      rw [USet.add, if_pos hok', USet.add1, USet.put, e4]
    have e2 : f.R.add (ptOf (f.I.length : Int)) c.coin = ⟨f.R.P ++ [ptOf (f.I.length : Int)], f.R.C ++ [c.coin]⟩ := by
      rw [RC.add, if_pos hok, RC.add1, h3, List.take_length, List.drop_length, hPl, ← hCl, List.take_length, List.drop_length]
    rw [fillStep, e1, e2, if_pos hok]
    have hl : (f.I ++ [c]).length = f.I.length + 1 := by simp
    have hb : mayB (IntKind.i64.wrap (f.S.total + c.coin.amt.toInt)) = true := by
      rw [USet.okB, Bool.and_eq_true, bothB, Bool.and_eq_true] at hok'
      exact (Bool.and_eq_true _ _ ▸ hok'.2 : _ ∧ _).2
    refine ⟨?_, ?_, ?_, ?_, ?_, ?_⟩
    · show (f.I ++ [c]).length ≤ 60
      omega
    · show (f.S.coins ++ [(ptOf (f.I.length : Int), c.coin)]).map (·.1) = ptsTo (f.I ++ [c]).length
      rw [hl, ptsTo_succ, List.map_append, h.keys]; rfl
    · show f.R.P ++ [ptOf (f.I.length : Int)] = ptsTo (f.I ++ [c]).length
      rw [hl, ptsTo_succ, h.P]
    · show f.R.C ++ [c.coin] = (f.S.coins ++ [(ptOf (f.I.length : Int), c.coin)]).map (·.2)
      rw [List.map_append, h.C]; rfl
    · show IntKind.i64.wrap (f.S.total + c.coin.amt.toInt) = (⟨f.R.P ++ [ptOf (f.I.length : Int)], f.R.C ++ [c.coin]⟩ : RC).sumN (f.R.C ++ [c.coin]).length
      rw [List.length_append, List.length_singleton, RC.sumN, sumN_append _ f.R.P f.R.C [c.coin] _ (Nat.le_refl _), h.tot]
      congr 2
      show _ = ((f.R.C ++ [c.coin]).getD f.R.C.length default).amt.toInt
      simp [List.getD_eq_getElem?_getD]
    · show 0 ≤ IntKind.i64.wrap (f.S.total + c.coin.amt.toInt) ∧ IntKind.i64.wrap (f.S.total + c.coin.amt.toInt) ≤ 1125899906842624
      rw [mayB, Bool.and_eq_true, decide_eq_true_eq, decide_eq_true_eq] at hb
      exact hb
  · have e1 : f.S.add (ptOf (f.I.length : Int)) c.coin = f.S := by rw [USet.add, if_neg (by rw [hs]; exact hok)]
    have e2 : f.R.add (ptOf (f.I.length : Int)) c.coin = f.R := by rw [RC.add, if_neg hok]
    have e3 : fillStep f c = f := by rw [fillStep, e1, e2, if_neg hok]
    rw [e3]; exact h
end Go.Proofs.YtmoohekgheoliaaGreatDoor
namespace Go.Proofs.YtmoohekgheoliaaGreatDoor
set_option maxRecDepth 100000
open Go.Sx
theorem fillN_ok (l : List LCoin) : ∀ n, n ≤ 60 → FillOk (fillN l n)
  | 0, _ => FillOk.zero
  | n + 1, h => (fillN_ok l n (by omega)).step (by have := (fillN_len l n).2.2.2; omega) _
theorem FillOk.len {f : FillM} (h : FillOk f) : f.S.coins.length = f.R.P.length := by
  rw [h.P, ptsTo_len, ← List.length_map (f := (·.1)), h.keys, ptsTo_len]
theorem aw_ok : RC.empty.okB (ptOf ((0 : Nat) : Int)) awC1.coin = true := by kernel_rfl
theorem aw_fill : (fillN [awC1] 1).I = [awC1] := by
  show (if RC.empty.okB (ptOf ((0 : Nat) : Int)) awC1.coin = true then [] ++ [awC1] else []) = _
  rw [if_pos aw_ok]; rfl
theorem seed2 : seedU 2 = ⟨117, 2, 0, 0, 0, 0, 0, 0⟩ := by decide
end Go.Proofs.YtmoohekgheoliaaGreatDoor
namespace Go.Proofs.YtmoohekgheoliaaGreatDoor
set_option maxRecDepth 100000
open Go.Sx
theorem own2 : zeroB (ownerH 2) = false := by
  rw [zeroB, decide_eq_false_iff_not, ownerH, seed2]
  exact tree2_ne
def awX0 : InM := ⟨ptOf 0, ownerH 1, sig0⟩
theorem aw_ins0 : ins0 awPl [awC1] = [awX0] := rfl
noncomputable def awX : InM := ⟨ptOf 0, ownerH 1, signM (seedU 1) 0 (msgOf (mkTx awPl [awX0]) claim0_wf 0)⟩
theorem aw_who : signW awPl [awC1] 0 = 1 := by decide
theorem aw_sgn : sgnIn awPl [awC1] [awX0] 0 = awX := by
  have hb : ∀ m, bendM awPl.bend m = m := fun m => by rw [bendM, if_neg (by decide)]
  rw [sgnIn, hb, aw_who]
  rfl
theorem aw_ins : mkIns awPl [awC1] 1 = [awX] := by
  rw [mkIns, mkIns, aw_ins0, aw_sgn]
  rfl
theorem aw_may (s : SigM) (hs : withinB s.idx 0 255 = true) : mayPay (mkTx awPl [⟨ptOf 0, ownerH 1, s⟩]) claim0_wf = true := by
  refine mayPay_iff.2 ⟨?_, ?_⟩
  · rw [payB, Bool.and_eq_true, Bool.and_eq_true, Bool.and_eq_true]
    refine ⟨?_, ?_, rfl, rfl⟩
    · rw [insOK, Bool.and_eq_true]
      refine ⟨?_, rfl⟩
      show (List.range 1).all (insAt [⟨ptOf 0, ownerH 1, s⟩]) = true
      rw [List.all_eq_true]
      intro i hi
      have : i = 0 := by have := List.mem_range.1 hi; omega
      subst this
      rw [insAt, Bool.and_eq_true, Bool.and_eq_true]
      refine ⟨rfl, ?_, hs⟩
      show withinB (ptOf 0).no.toInt 0 255 = true
      decide
    · rw [outsOK, Bool.and_eq_true]
      refine ⟨?_, rfl⟩
      show [(⟨ownerH 2, 3⟩ : OutM)].all outOK = true
      rw [List.all_cons, outOK, own2]
      rfl
  · rw [Bool.and_eq_true]
    refine ⟨?_, claimZ_zero _⟩
    show emptyB ⟨2, 0, [], [], [], par0, cert0, claim0⟩ = true
    decide
noncomputable def awT : TxM := mkTx awPl [awX]
theorem aw_make : makeT awPl [awC1] = awT := by rw [makeT, show awPl.ins.length = 1 from rfl, aw_ins, awT]
theorem aw_mayT : mayPay awT claim0_wf = true := aw_may _ (by decide)
theorem bare_mk (p : Pt) (k : H8) (s : SigM) : (InM.mk p k s).bare = ⟨p, k, sig0⟩ := rfl
theorem msg_mkTx (p : PlanM) (l : List InM) : (mkTx p l).msg = mkTx p (l.map InM.bare) := rfl
theorem aw_bare : (mkTx awPl [awX0]).msg = awT.msg := by
  rw [awT, msg_mkTx, msg_mkTx, awX0, awX, List.map_cons, List.map_cons, bare_mk, bare_mk]
theorem aw_msg : msgOf (mkTx awPl [awX0]) claim0_wf 0 = msgH awT ((0 : Nat) : Int) := by
  have h := aw_may sig0 (by decide)
  unfold msgOf
  rw [show awX0 = ⟨ptOf 0, ownerH 1, sig0⟩ from rfl, if_pos h, msgH, msgH, ← aw_bare]
  rfl
theorem mayPay_mkTx (p : PlanM) {l m : List InM} (h : l = m) : mayPay (mkTx p l) claim0_wf = mayPay (mkTx p m) claim0_wf := by subst h; rfl
theorem aw_okS : USet.empty.okB (ptOf ((0 : Nat) : Int)) awC1.coin = true := (FillOk.zero.same (by decide) awC1.coin).trans aw_ok
theorem aw_F : ∃ F, fillN [awC1] 1 = F ∧ F.I = [awC1] ∧ F.S.coins = [(ptOf 0, awC1.coin)] ∧ F.S.total = 5 ∧ FillOk F := by
  refine ⟨_, rfl, aw_fill, ?_, ?_, fillN_ok _ 1 (by decide)⟩
  · show (USet.empty.add (ptOf ((0 : Nat) : Int)) awC1.coin).coins = _
    rw [USet.add, if_pos aw_okS]
    rfl
  · show (USet.empty.add (ptOf ((0 : Nat) : Int)) awC1.coin).total = _
    rw [USet.add, if_pos aw_okS]
    decide
theorem aw_spend (S : USet) (hc : S.coins = [(ptOf 0, awC1.coin)]) (ht : S.total = 5) : (spendAll S awT.ins).coins = [] ∧ (spendAll S awT.ins).total = 0 := by
  have hg : mget S.coins (ptOf 0) = some awC1.coin := by rw [hc, mget, if_pos rfl]
  have e : spendAll S awT.ins = S.spend1 (ptOf 0) := by
    show S.spend (ptOf 0) = _
    rw [USet.spend, if_pos (by rw [USet.has, hg]; rfl)]
  rw [e, USet.spend1, USet.take, USet.get, hg]
  refine ⟨?_, ?_⟩
  · show mdel S.coins (ptOf 0) = []
    rw [hc, mdel, if_pos rfl]
  · show IntKind.i64.wrap (S.total - awC1.amt.toInt) = 0
    rw [ht]; decide
theorem outs_one (W : USet) (hc : W.coins = []) (ht : W.total = 0) (id to : H8) (h : Int64) : outsGo id h false W 0 [⟨to, 3⟩] = (W.add1 (ptAt id 0) ⟨to, 3, h, false⟩, 0) := by
  have hh : W.has (ptAt id 0) = false := by rw [USet.has, hc]; rfl
  have hk : W.okB (ptAt id 0) ⟨to, 3, h, false⟩ = true := by
    rw [USet.okB, hh, ht]
    show (!(decide ((Int64.ofNat 0).toInt < 0)) && !(decide ((Int64.ofNat 0).toInt > 255)) && !(decide ((3 : Int64).toInt < 1)) && !false && bothB 0 (3 : Int64).toInt (IntKind.i64.wrap (0 + (3 : Int64).toInt))) = true
    decide
  rw [outsGo, hh, if_neg (by decide)]
  show (if W.okB (ptAt id 0) ⟨to, 3, h, false⟩ = true then outsGo id h false (W.add1 (ptAt id 0) ⟨to, 3, h, false⟩) 1 [] else (W, 5)) = _
  rw [if_pos hk, outsGo]
theorem aw_inE (S : USet) (hc : S.coins = [(ptOf 0, awC1.coin)]) : inE S awT 0 4 awX = (awC1.coin, 0) := by
  have hg : mget S.coins (ptOf 0) = some awC1.coin := by rw [hc, mget, if_pos rfl]
  have hb : badIn S awX = false := by
    show (!(mget S.coins (ptOf 0)).isSome || !decide (((mget S.coins (ptOf 0)).getD coin0).to = ownerH 1)) = false
    rw [hg]
    show (!true || !decide (ownerH (1 : Int64).toInt = ownerH 1)) = false
    rw [show (1 : Int64).toInt = 1 from by decide, decide_eq_true rfl]
    rfl
  have hgg : S.get awX.pt = awC1.coin := by
    show (mget S.coins (ptOf 0)).getD coin0 = _
    rw [hg]; rfl
  have hs : chkT awX.key (msgH awT ((0 : Nat) : Int)) awX.sig = true := by
    rw [← aw_msg]
    exact sign_believed (seedU 1) 0 (by decide) _
  rw [inE, if_neg (by rw [hb]; decide), hgg, if_neg (show ¬ ((awC1.coin.base && waitB awC1.coin.height.toInt 4) = true) by rw [show awC1.coin.base = false from rfl, Bool.false_and]; decide), if_neg (show ¬ (chkT awX.key (msgH awT ((0 : Nat) : Int)) awX.sig = false) by rw [hs]; decide)]
theorem aw_pay (S : USet) (hc : S.coins = [(ptOf 0, awC1.coin)]) : payE S awT 4 = (2, 0) := by
  have hi : inAt S awT 4 0 = (awC1.coin, 0) := aw_inE S hc
  have hl : awT.ins.length = 1 := rfl
  have hf : firstE S awT 4 1 = 0 := by
    rw [firstE, firstE, if_pos rfl, hi]
  have ha : inAmts S awT 4 1 = [5] := by
    show [(inAt S awT 4 0).1.amt.toInt] = [5]
    rw [hi]
    show [(5 : Int64).toInt] = [5]
    decide
  have hp : payAmts awT = [3] := by
    show [(3 : Int64).toInt] = [3]
    decide
  rw [payE, hl, hf, if_pos rfl, ha, hp]
  decide
theorem aw_do (S : USet) (hc : S.coins = [(ptOf 0, awC1.coin)]) (ht : S.total = 5) : ∃ D, doE S awT 4 = D ∧ D.2 = (2, 0) ∧ D.1.total = 3 ∧ D.1.coins.length = 1 := by
  have hp : payE S awT (4 : Int64).toInt = (2, 0) := aw_pay S hc
  obtain ⟨h1, h2⟩ := aw_spend S hc ht
  have ho : outsGo (payID awT) 4 false (spendAll S awT.ins) 0 awT.outs = ((spendAll S awT.ins).add1 (ptAt (payID awT) 0) ⟨ownerH (2 : Int64).toInt, 3, 4, false⟩, 0) := outs_one _ h1 h2 _ _ _
  refine ⟨_, rfl, ?_⟩
  rw [doE, hp, if_pos rfl, ho, if_pos rfl]
  refine ⟨rfl, ?_, ?_⟩
  · show IntKind.i64.wrap ((spendAll S awT.ins).total + (3 : Int64).toInt) = 3
    rw [h2]; decide
  · show (mput (spendAll S awT.ins).coins (ptAt (payID awT) 0) _).length = 1
    rw [h1]; rfl
theorem awake_can : Reads Tryz.prog 9 [] [stepsP] (XV.bool true) := by
  obtain ⟨F, h1, h2, h3, h4, h5⟩ := aw_F
  obtain ⟨D, g1, g2, g3, g4⟩ := aw_do F.S h3 h4
  have hT : makeT awPl F.I = awT := by rw [h2]; exact aw_make
  exact awake_walk F h1 ((mayPay_mkTx awPl (by rw [h2]; exact aw_ins)).trans aw_mayT) D (by rw [hT]; exact g1) g2 g3 g4
end Go.Proofs.YtmoohekgheoliaaGreatDoor
namespace Go.Proofs.YtmoohekgheoliaaGreatDoor
set_option maxRecDepth 100000
open Go.Sx
theorem keeps_can (l : List LCoin) (p : PlanM) (h : UInt8) (hl : l.length ≤ maxLen) (h1 : p.ins.length ≤ maxLen) (h2 : p.outs.length ≤ maxLen) (h3 : p.fwds.length ≤ maxLen) :
    Reads Tryz.prog 3 [.row 4 l.length (coinsF l), .box p.ac, .plain (.one (.raw (u8 h)))] [stepsP] (XV.bool true) := by
  refine keeps_walk awake_can l p h hl h1 h2 h3 (fun hfew hm he hne => ?_)
  have hn : l.length ≤ 60 := by
    rw [fewB, Bool.and_eq_true, Bool.and_eq_true, Bool.and_eq_true, decide_eq_true_eq, decide_eq_true_eq, decide_eq_true_eq, decide_eq_true_eq] at hfew
    omega
  have hf := fillN_ok l l.length hn
  have hlen := fillN_len l l.length
  have hr := hf.rng
  have hk : (fillN l l.length).S.coins.length = (fillN l l.length).I.length := by
    rw [← List.length_map (f := (·.1)), hf.keys, ptsTo_len]
  have hi := hf.n
  exact keeps_law hf.nd ⟨by omega, by omega⟩ (by omega) hm he hne hf.len
end Go.Proofs.YtmoohekgheoliaaGreatDoor
namespace Go.Proofs.YtmoohekgheoliaaGreatDoor
set_option maxRecDepth 100000
open Go.Sx Go.RowKit Go.ChangeShapes Go.WideShapes Go.ChangeAt
theorem own : ownKnob Tryz.prog.godebug = none := by kernel_rfl
theorem fits_i64 {v : Value} (h : (Kd.int .i64).fits v) : ∃ y : Int64, v = i64 y := by
  obtain ⟨n, rfl, hw⟩ := h
  have e1 : IntKind.i64.min = -9223372036854775808 := rfl
  have e2 : IntKind.i64.max = 9223372036854775807 := rfl
  simp [Lit.wf, e1, e2] at hw
  refine ⟨Int64.ofInt n, ?_⟩
  simp only [i64, Value.int.injEq, true_and]
  exact (Int64.toInt_ofInt_of_le (by omega) (by omega)).symm
theorem fits_u8 {v : Value} (h : (Kd.int .u8).fits v) : ∃ y : UInt8, v = u8 y := by
  obtain ⟨n, rfl, hw⟩ := h
  have e1 : IntKind.u8.min = 0 := rfl
  have e2 : IntKind.u8.max = 255 := rfl
  simp [Lit.wf, e1, e2] at hw
  refine ⟨UInt8.ofNat n.toNat, ?_⟩
  simp only [u8, Value.int.injEq, true_and]
  have : (UInt8.ofNat n.toNat).toNat = n.toNat := UInt8.toNat_ofNat_of_lt' (by simp [UInt8.size]; omega)
  omega
theorem byte_dec (cs : List Value) (h : Fits [.int .u8] cs) : ∃ x : UInt8, cs = [u8 x] := by
  obtain ⟨_, _, rfl, a0, rfl⟩ := h
  obtain ⟨b0, rfl⟩ := fits_u8 a0
  exact ⟨b0, rfl⟩
def lcKinds : List Kd := [.int .i64, .int .i64, .int .i64, .bool]
theorem lcoin_dec (cs : List Value) (h : Fits lcKinds cs) : ∃ x : LCoin, cs = x.cells := by
  obtain ⟨_, _, rfl, a0, _, _, rfl, a1, _, _, rfl, a2, _, _, rfl, a3, rfl⟩ := h
  obtain ⟨b0, rfl⟩ := fits_i64 a0
  obtain ⟨b1, rfl⟩ := fits_i64 a1
  obtain ⟨b2, rfl⟩ := fits_i64 a2
  obtain ⟨b3, rfl⟩ := a3
  exact ⟨⟨b0, b1, b2, b3⟩, rfl⟩
def fwdKinds : List Kd := [.int .i64, .int .i64, .int .u8, .int .u8, .int .u8, .int .u8, .int .u8, .int .u8, .int .u8, .int .u8, .int .i64]
theorem fwd_dec (cs : List Value) (h : Fits fwdKinds cs) : ∃ x : FwdM, cs = x.cells := by
  obtain ⟨_, _, rfl, a0, _, _, rfl, a1, _, _, rfl, a2, _, _, rfl, a3, _, _, rfl, a4, _, _, rfl, a5, _, _, rfl, a6, _, _, rfl, a7, _, _, rfl, a8, _, _, rfl, a9, _, _, rfl, a10, rfl⟩ := h
  obtain ⟨b0, rfl⟩ := fits_i64 a0
  obtain ⟨b1, rfl⟩ := fits_i64 a1
  obtain ⟨b2, rfl⟩ := fits_u8 a2
  obtain ⟨b3, rfl⟩ := fits_u8 a3
  obtain ⟨b4, rfl⟩ := fits_u8 a4
  obtain ⟨b5, rfl⟩ := fits_u8 a5
  obtain ⟨b6, rfl⟩ := fits_u8 a6
  obtain ⟨b7, rfl⟩ := fits_u8 a7
  obtain ⟨b8, rfl⟩ := fits_u8 a8
  obtain ⟨b9, rfl⟩ := fits_u8 a9
  obtain ⟨b10, rfl⟩ := fits_i64 a10
  exact ⟨⟨b0, b1, ⟨b2, b3, b4, b5, b6, b7, b8, b9⟩, b10⟩, rfl⟩
section
variable {H : Type} {enc : TypeId × Value → H} {W : World}
theorem open_coins {v : Value} {d : DataW H} {p : List MemPlace} (h : DataW.Trod enc Tryz.prog W 0 (fun _ => true) true 22 v d p) (hv : Value.okWide Tryz.prog W .any 0 22 v) : ∃ l : List LCoin, l.length ≤ maxLen ∧ RowIn W v 4 l.length (coinsF l) :=
  Go.Sx.open_row Tryz.T_ok (t := 22) (e := 79) rfl rfl rfl (f := 8) (ks := lcKinds) rfl h hv LCoin.cells lcoin_dec default
theorem open_u8 {v : Value} {d : DataW H} {p : List MemPlace} (h : DataW.Trod enc Tryz.prog W 0 (fun _ => true) true 5 v d p) (hv : Value.okWide Tryz.prog W .any 0 5 v) : ∃ x : UInt8, v = u8 x := by
  obtain ⟨n, rfl, _, hw⟩ := open_int Tryz.underlying5 hv h
  exact fits_u8 ⟨n, rfl, hw.2⟩
theorem plan_types : Tryz.prog.cellTypes Tryz.prog.depth 26 = some [23, 22, 24, 5] := by kernel_rfl
set_option maxRecDepth 100000 in
theorem open_plan {v : Value} {d : DataW H} {p : List MemPlace} (h : DataW.Trod enc Tryz.prog W 0 (fun _ => true) true 26 v d p) (hv : Value.okWide Tryz.prog W .any 0 26 v) :
    ∃ q : PlanM, q.ins.length ≤ maxLen ∧ q.outs.length ≤ maxLen ∧ q.fwds.length ≤ maxLen ∧ Came W v (.box q.ac) := by
  have hv' := hv
  obtain ⟨v0, v1, v2, v3, y0, y1, y2, y3, n, rfl, _, _, h0, h1, h2, h3⟩ := Joins.open_agg4 Tryz.underlying26 (by kernel_rfl) (by kernel_rfl) hv h
  obtain ⟨l0, b0, k0⟩ := open_rowC Tryz.T_ok (t := 23) (e := 5) rfl rfl rfl (f := 8) (ks := [.int .u8]) rfl h0 (ok_cell Tryz.underlying26 plan_types hv' (i := 0) rfl rfl) (fun x => [u8 x]) byte_dec 0
  obtain ⟨l1, b1, k1⟩ := open_rowC Tryz.T_ok (t := 22) (e := 79) rfl rfl rfl (f := 8) (ks := lcKinds) rfl h1 (ok_cell Tryz.underlying26 plan_types hv' (i := 1) rfl rfl) LCoin.cells lcoin_dec default
  obtain ⟨l2, b2, k2⟩ := open_rowC Tryz.T_ok (t := 24) (e := 56) rfl rfl rfl (f := 8) (ks := fwdKinds) rfl h2 (ok_cell Tryz.underlying26 plan_types hv' (i := 2) rfl rfl) FwdM.cells fwd_dec default
  obtain ⟨x, hx⟩ := byte_dec _ (trod_fits Tryz.T_ok 8 5 [.int .u8] rfl n _ _ h3)
  cases hx
  exact ⟨⟨l0, l1, l2, x⟩, b0, b1, b2, came_box ⟨k0, k1, k2, rfl, trivial⟩⟩
end
theorem cell_lt {w : World} {a : Addr} {v : Value} (h : w.cell? a = some v) : a.block < w.heap.size := by
  by_cases hb : a.block < w.heap.size
  · exact hb
  · have e : w.heap[a.block]? = none := Array.getElem?_eq_none (by omega)
    simp [World.cell?, e] at h
theorem stepsG : Tryz.prog.globalNamed "drawbridge/hash.steps" = some 0 := by kernel_rfl
theorem stepsT : (Tryz.prog.globals[0]?).map (·.type) = some 170 := by kernel_rfl
set_option maxRecDepth 100000 in
theorem steps_came {W : World} (h : laidMetH Tryz.prog [("drawbridge/hash.steps", Rows.laid_drawbridge_hash_steps)] W) : CameX W [stepsP] := by
  rw [MakeChecks.laidMetH_plain _ _ _ (by kernel_rfl)] at h
  have hT : Lib.TabIs Tryz.prog W "drawbridge/hash.steps" .u32 stepL := Lib.tabIs_of_head (zs := stepL) (k := .u32) stepsG stepsT Tryz.underlying170 Tryz.underlying168 (by kernel_rfl) (by kernel_rfl) h
  refine ⟨came_ext ?_ fun i hi => ⟨rfl, fun j v hj => ?_⟩, trivial⟩
  · exact cell_lt (hT.cell stepsG 0 (by decide))
  · have hc := hT.cell stepsG i (by show i < 64; exact hi)
    cases j with
    | zero =>
      have hv : v = .int .u32 (stepL.getD i 0) := by simpa [wordsF, stepW, u32] using hj.symm
      rw [hv]
      show W.cell? ⟨0, i * 1 + 0, none⟩ = _
      rw [Nat.mul_one, Nat.add_zero]
      exact hc
    | succ j => simp [wordsF] at hj
theorem door_met (os : Os) (args : Array Value) : laidMetH Tryz.prog [("drawbridge/hash.steps", Rows.laid_drawbridge_hash_steps)] ((World.doorLaid Tryz.prog 14 os).forCall (fun _ _ => 0) ⟨#[], args, []⟩).memory :=
  laidMetH_of_parts3 (fuel := 8) (laidMet_of_run' 8 (by kernel_rfl) (by kernel_rfl)) (by kernel_rfl) (by kernel_rfl)
end Go.Proofs.YtmoohekgheoliaaGreatDoor
namespace Go.Proofs.YtmoohekgheoliaaGreatDoor
set_option maxRecDepth 100000
open Go.Sx Go.RowKit Go.ChangeShapes Go.WideShapes Go.ChangeAt
set_option maxRecDepth 100000 in
theorem keeps_lifted (os : Os) (started : os.Started) (H : Type) (enc : TypeId × Value → H) :
    ReturnsInHanded {} Tryz.checked os 3 .any (fun w args => (Rows.checkKeepsSpec.pre enc Tryz.prog Tryz.f3 [] false w args ∧ laidMetH Tryz.prog [("drawbridge/hash.steps", Rows.laid_drawbridge_hash_steps)] w) ∧ sizedMet enc Tryz.prog Tryz.f3 (OpenSpec.ofChange Rows.checkKeepsSpec) false w args)
      (Rows.checkKeepsSpec.post enc Tryz.prog Tryz.f3 false true false false) := by
  refine returnsInHanded_of_change_and (C := Tryz.checked) (X := fun w _ => laidMetH Tryz.prog [("drawbridge/hash.steps", Rows.laid_drawbridge_hash_steps)] w) (fun _ _ _ hh h => h.of_heap hh) own started (by kernel_rfl) Tryz.func3
    (ChangeSpec.witness_shaped (enc := enc) (C := Tryz.checked) (os := os) (X := fun w _ => laidMetH Tryz.prog [("drawbridge/hash.steps", Rows.laid_drawbridge_hash_steps)] w) false (World.doorLaid Tryz.prog 14 os) #[.slice none 0 0, .agg #[.slice none 0 0, .slice none 0 0, .slice none 0 0, .int .u8 0], .int .u8 0] 8 rfl (World.shaped_of_RefB (by kernel_rfl) (by kernel_rfl)) (by kernel_rfl) (by kernel_rfl) (by kernel_rfl) (door_met os _)) ?_
  intro W base args ds gs before hval0 hW _ _ hL _
  have hval : ∀ (j : Nat) t v, Tryz.f3.params[j]? = some t → args[j]? = some v → Value.okWide Tryz.prog W .any base t v := hval0
  have hW' := hW
  obtain ⟨p, q, hA0, hV, rfl, hfz, hnd⟩ := hW
  have hA : DataW.TrodAll enc Tryz.prog W 0 (fun _ => true) true Tryz.f3.params.toList args.toList ds p := hA0
  rw [Tryz.params3] at hA hval
  obtain ⟨v0, vs0, d0, ds0, p0, q0, hargs, rfl, rfl, h0, r0⟩ := trodAll_cons hA
  obtain ⟨v1, vs1, d1, ds1, p1, q1, rfl, rfl, rfl, h1, r1⟩ := trodAll_cons r0
  obtain ⟨v2, vs2, d2, ds2, p2, q2, rfl, rfl, rfl, h2, r2⟩ := trodAll_cons r1
  obtain ⟨rfl, rfl, rfl⟩ := trodAll_nil r2
  obtain rfl : args = #[v0, v1, v2] := by cases args; simp_all
  obtain ⟨rfl, rfl⟩ := trodVars_none hV
  obtain ⟨l, hl, k0⟩ := open_coins h0 (hval 0 22 v0 rfl rfl)
  obtain ⟨pl, b0, b1, b2, k1⟩ := open_plan h1 (hval 1 26 v1 rfl rfl)
  obtain ⟨x, rfl⟩ := open_u8 h2 (hval 2 5 v2 rfl rfl)
  clear hA0 hval0
  refine ((keeps_can l pl x hl b0 b1 b2).calls (vs := [v0, v1, u8 x]) ⟨came_row k0, k1, came_raw, trivial⟩ (steps_came hL)).mono fun e W' ⟨v, β, he, hv, hb⟩ => ?_
  subst he
  simp only [XV.rel, CV.rel, SV.rel] at hv
  subst hv
  exact ⟨_, rfl, post_true laid hW' rfl (by kernel_rfl) hb rfl rfl (fun _ _ => trodAll_cons_mk (shut_bool Tryz.underlying4 _) trodAll_mk0)⟩
theorem keeps_over : Rows.CheckKeepsSaid :=
  OpenClaim.holds_of_wide 3 Tryz.f3 rfl rfl rfl rfl rfl rfl rfl ⟨rfl, rfl, rfl, rfl, rfl⟩ rfl rfl rfl rfl rfl (by kernel_rfl) Tryz.func3 (by kernel_rfl)
    (of_decide_eq_true (by kernel_rfl)) (by unfold Func.isWrapper; first | (rw [if_pos (by decide +kernel)]; kernel_rfl) | (rw [if_neg (by decide +kernel)]; exact ⟨rfl, rfl⟩))
    (fun os started H enc _ => keeps_lifted os started H enc)
theorem three {P : TypeId → Prop} {a b c : TypeId} (ha : P a) (hb : P b) (hc : P c) : ∀ (j : Nat) t, (#[a, b, c] : Array TypeId)[j]? = some t → P t := by
  intro j t ht
  match j, ht with
  | 0, ht => simp at ht; subst ht; exact ha
  | 1, ht => simp at ht; subst ht; exact hb
  | 2, ht => simp at ht; subst ht; exact hc
  | j + 3, ht => simp at ht
theorem checkKeeps_proved : Rows.CheckKeepsCardSaid :=
  Claim7.holds_tied_plain_at .later [] [.data] true (true, "d0fd2f02d7a607ea26ec6214018ecf03122ec7b8e3c6eeea03932de8c3b9d735") false
    keeps_over (fun _ h => by cases h) (by kernel_rfl) (fun _ h => by cases h) checkKeeps_row_tie rfl ⟨rfl, rfl⟩ (by kernel_rfl) rfl
    (fun f fn hf hfn => by
      obtain rfl : f = 3 := Option.some.inj ((show Tryz.prog.funcNamed "drawbridge/drawbridgelaw12.CheckKeeps" = some 3 by kernel_rfl).symm.trans hf) |>.symm
      obtain rfl : fn = Tryz.f3 := (Option.some.inj (Tryz.func3.symm.trans hfn)).symm
      refine ⟨by kernel_rfl, ?_⟩
      rw [Tryz.params3]
      exact three (show Tryz.prog.wantsStandIn 22 = false by kernel_rfl) (show Tryz.prog.wantsStandIn 26 = false by kernel_rfl) (show Tryz.prog.wantsStandIn 5 = false by kernel_rfl))
    (by kernel_rfl)
end Go.Proofs.YtmoohekgheoliaaGreatDoor
