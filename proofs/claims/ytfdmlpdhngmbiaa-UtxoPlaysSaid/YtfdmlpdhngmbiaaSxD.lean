/- Symbolic states for walks, part D: a region whose order is drawn does what its text's order does, where what is not ordered by an edge does not touch one another. -/
import Derived.Test.YtfdmlpdhngmbiaaSxC
namespace Go.Sx
open Go.RowKit

def edgesOf (o : Oper) : List Nat := (o.after.toList.filter fun e => Region.binds .any e).map (·.on)

def maskOf (acc : List Nat) : List Nat → Nat
  | [] => 0
  | k :: r => (2 ^ k ||| acc.getD k 0) ||| maskOf acc r
def masks : List Oper → List Nat → List Nat
  | [], acc => acc
  | o :: l, acc => masks l (acc ++ [maskOf acc (edgesOf o)])

def Rec.tch (x : Rec) : List Nat := x.r.wr ++ x.r.upd.map Prod.fst
def apartB (l r : List Nat) : Bool := l.all fun c => !nmem c r
def dstApart (d : Option Tmp) (l : List Nat) : Bool := match d with | none => true | some t => !nmem t l

def indepB (ops : Array Oper) (oi : Oper) (xi : Rec) (oj : Oper) (xj : Rec) : Bool :=
  dstApart oi.dst (oj.looksAt ops) && dstApart oj.dst (oi.looksAt ops) && (match oi.dst, oj.dst with | some a, some b => !Nat.beq a b | _, _ => true) &&
  apartB xi.tch xj.rd && apartB xj.tch xi.rd && apartB xi.tch xj.tch

def lnth {α : Type} : List α → Nat → Option α
  | [], _ => none
  | x :: _, 0 => some x
  | _ :: r, n + 1 => lnth r n
theorem lnth_eq {α : Type} : ∀ (l : List α) (n : Nat), lnth l n = l[n]?
  | [], n => by simp [lnth]
  | x :: r, 0 => by simp [lnth]
  | x :: r, n + 1 => by simp [lnth, lnth_eq r n]

/-- Op j of a region, held against all that stand ahead of it. -/
def rowB (ops : Array Oper) (oj : Oper) (xj : Rec) (m : Nat) : List Oper → List Rec → Nat → Bool
  | o :: l, x :: r, i => (Nat.testBit m i || indepB ops o x oj xj) && rowB ops oj xj m l r (i + 1)
  | _, _, _ => true
/-- Every op of a region. -/
def orderB (ops : Array Oper) (recs : List Rec) (b : Nat) : Bool :=
  let l := ops.toList
  let ms := masks l []
  (List.range ops.size).all fun j =>
    match lnth l j, lnth recs j, lnth ms j with
    | some o, some x, some m => (edgesOf o).all (fun k => Nat.blt k j) && rowB ops o x m (l.take j) recs 0 && x.ok (fun c => Nat.blt c b || (Nat.ble b c && (Nat.beq (c - b) j || Nat.testBit m (c - b)))) (b + j)
    | _, _, _ => false

theorem maskOf_bit (acc : List Nat) (i : Nat) : ∀ l : List Nat, Nat.testBit (maskOf acc l) i = true → ∃ k ∈ l, i = k ∨ Nat.testBit (acc.getD k 0) i = true
  | [], h => by simp [maskOf] at h
  | k :: r, h => by
    simp only [maskOf, Nat.testBit_or, Bool.or_eq_true, Nat.testBit_two_pow, decide_eq_true_eq] at h
    rcases h with (h | h) | h
    · exact ⟨k, by simp, .inl h.symm⟩
    · exact ⟨k, by simp, .inr h⟩
    · obtain ⟨k', h1, h2⟩ := maskOf_bit acc i r h
      exact ⟨k', by simp [h1], h2⟩

theorem masks_pre : ∀ (l : List Oper) (acc : List Nat) (k : Nat), k < acc.length → (masks l acc)[k]? = acc[k]?
  | [], acc, k, h => rfl
  | o :: l, acc, k, h => by
    rw [masks, masks_pre l _ k (by simp; omega), List.getElem?_append_left h]

theorem masks_bit : ∀ (l : List Oper) (acc : List Nat) (j : Nat) (o : Oper), acc.length ≤ j → l[j - acc.length]? = some o → ∃ m, (masks l acc)[j]? = some m ∧
    ∀ i, Nat.testBit m i = true → ∃ k ∈ edgesOf o, i = k ∨ (k < j ∧ ∃ mk, (masks l acc)[k]? = some mk ∧ Nat.testBit mk i = true)
  | [], acc, j, o, h, hl => by simp at hl
  | x :: l, acc, j, o, h, hl => by
    by_cases hj : j = acc.length
    · subst hj
      simp only [Nat.sub_self, List.getElem?_cons_zero, Option.some.injEq] at hl
      subst hl
      refine ⟨maskOf acc (edgesOf x), ?_, ?_⟩
      · rw [masks, masks_pre l _ _ (by simp)]; simp
      · intro i hi
        obtain ⟨k, h1, h2⟩ := maskOf_bit acc i _ hi
        refine ⟨k, h1, h2.imp id fun h3 => ?_⟩
        have hk : k < acc.length := by
          rcases Nat.lt_or_ge k acc.length with h' | h'
          · exact h'
          · simp [List.getD_eq_getElem?_getD, List.getElem?_eq_none h'] at h3
        refine ⟨hk, acc[k], ?_, ?_⟩
        · rw [masks, masks_pre l _ _ (by simp; omega), List.getElem?_append_left hk, List.getElem?_eq_getElem hk]
        · simpa [List.getD_eq_getElem?_getD, hk] using h3
    · have hl' : l[j - (acc ++ [maskOf acc (edgesOf x)]).length]? = some o := by
        have : j - acc.length = (j - (acc.length + 1)) + 1 := by omega
        rw [this] at hl
        simpa using hl
      exact masks_bit l _ j o (by simp; omega) hl'

/-- The state behind those operations of the first n that D names, each in the text's order. -/
def runD (ops : Array Oper) (recs : List Rec) (S0 : St) (D : Nat → Bool) : Nat → St
  | 0 => S0
  | n + 1 => if D n = true then (match ops[n]?, recs[n]? with | some o, some x => (runD ops recs S0 D n).app o.dst x.r | _, _ => runD ops recs S0 D n) else runD ops recs S0 D n

/-- Two states that cannot be told apart by looking. -/
structure Same (S S' : St) : Prop where
  len : S.slots.length = S'.slots.length
  slots : ∀ t, lget S.slots t = lget S'.slots t
  mem : ∀ c, S.mem.get c = S'.mem.get c

theorem Same.refl (S : St) : Same S S := ⟨rfl, fun _ => rfl, fun _ => rfl⟩
theorem Same.trans {A B D : St} (h : Same A B) (k : Same B D) : Same A D := ⟨h.len.trans k.len, fun t => (h.slots t).trans (k.slots t), fun c => (h.mem c).trans (k.mem c)⟩
theorem Same.symm {A B : St} (h : Same A B) : Same B A := ⟨h.len.symm, fun t => (h.slots t).symm, fun c => (h.mem c).symm⟩
theorem Same.sat {β : Nat → Loc} {ow : Nat → Option Nat} {w : World} {S S' : St} {a : Act} (h : Same S S') (H : Sat β ow w S a) : Sat β ow w S' a :=
  ⟨H.defers, H.size.trans h.len, fun t X hX => H.slots t X (by rw [h.slots t]; exact hX), fun c ch hc => H.mem c ch (by rw [h.mem c]; exact hc), H.wf⟩
theorem Same.sok {p : Nat → Bool} {S S' : St} (h : Same S S') (H : SOK p S) : SOK p S' :=
  ⟨fun t X hX => H.slots t X (by rw [h.slots t]; exact hX), fun c ch hc => H.mem c ch (by rw [h.mem c]; exact hc)⟩

theorem app_len (S : St) (dst : Option Tmp) (r : Res) : (S.app dst r).slots.length = S.slots.length := by
  cases dst <;> simp [St.app, lset_length]
theorem app_slot (S : St) (dst : Option Tmp) (r : Res) (t : Nat) : lget (S.app dst r).slots t = if dst = some t then (if t < S.slots.length then some r.v else none) else lget S.slots t := by
  cases dst with
  | none => simp [St.app]
  | some d =>
    simp only [St.app, lget_lset, Option.some.injEq]
    by_cases h : t = d
    · subst h; simp
    · have : ¬ d = t := fun e => h e.symm
      simp [h, this]
theorem app_mem (S : St) (dst : Option Tmp) (r : Res) (c : Nat) : (S.app dst r).mem.get c = (Mem.get r.upd c).or (if c ∈ r.wr then none else S.mem.get c) := by
  simp only [St.app, Mem.get_append, Mem.get_dels]
theorem Same.app {S S' : St} (h : Same S S') (dst : Option Tmp) (r : Res) : Same (S.app dst r) (S'.app dst r) :=
  ⟨by rw [app_len, app_len, h.len], fun t => by rw [app_slot, app_slot, h.len, h.slots t], fun c => by rw [app_mem, app_mem, h.mem c]⟩

theorem get_none_of {c : Nat} : ∀ {l : Mem}, c ∉ l.map Prod.fst → Mem.get l c = none
  | [], _ => rfl
  | (k, ch) :: r, h => by
    simp only [List.map_cons, List.mem_cons, not_or] at h
    have : ¬ k = c := fun e => h.1 e.symm
    simp only [Mem.get, nbeq, this, decide_false, cond_false]
    exact get_none_of h.2

/-- What an operation does not touch it leaves. -/
theorem app_mem_other (S : St) (dst : Option Tmp) (x : Rec) {c : Nat} (h : c ∉ x.tch) : (S.app dst x.r).mem.get c = S.mem.get c := by
  simp only [Rec.tch, List.mem_append, not_or] at h
  rw [app_mem, get_none_of h.2]
  simp [h.1]

theorem apartB_spec {l r : List Nat} (h : apartB l r = true) : ∀ c ∈ l, c ∉ r := by
  simp only [apartB, List.all_eq_true, Bool.not_eq_true'] at h
  intro c hc hr
  have := h c hc
  rw [(nmem_iff c r).2 hr] at this
  cases this
theorem dstApart_spec {d : Option Tmp} {l : List Nat} (h : dstApart d l = true) : ∀ t, d = some t → t ∉ l := by
  intro t ht hr
  subst ht
  simp only [dstApart, Bool.not_eq_true'] at h
  rw [(nmem_iff t l).2 hr] at h
  cases h

structure Indep (ops : Array Oper) (oi : Oper) (xi : Rec) (oj : Oper) (xj : Rec) : Prop where
  d1 : ∀ t, oi.dst = some t → t ∉ oj.looksAt ops
  d2 : ∀ t, oj.dst = some t → t ∉ oi.looksAt ops
  d3 : ∀ t, oi.dst = some t → oj.dst ≠ some t
  r1 : ∀ c ∈ xi.tch, c ∉ xj.rd
  r2 : ∀ c ∈ xj.tch, c ∉ xi.rd
  t1 : ∀ c ∈ xi.tch, c ∉ xj.tch

theorem indepB_spec {ops : Array Oper} {oi oj : Oper} {xi xj : Rec} (h : indepB ops oi xi oj xj = true) : Indep ops oi xi oj xj := by
  simp only [indepB, Bool.and_eq_true] at h
  obtain ⟨⟨⟨⟨⟨h1, h2⟩, h3⟩, h4⟩, h5⟩, h6⟩ := h
  refine ⟨dstApart_spec h1, dstApart_spec h2, ?_, apartB_spec h4, apartB_spec h5, apartB_spec h6⟩
  intro t ht hj
  simp [ht, hj] at h3

theorem Indep.symm {ops : Array Oper} {oi oj : Oper} {xi xj : Rec} (h : Indep ops oi xi oj xj) : Indep ops oj xj oi xi :=
  ⟨h.d2, h.d1, fun t ht hi => h.d3 t hi ht, h.r2, h.r1, fun c hc hx => h.t1 c hx hc⟩

/-- Two operations that do not touch one another, in either order. -/
theorem app_comm {ops : Array Oper} {oi oj : Oper} {xi xj : Rec} (h : Indep ops oi xi oj xj) (S : St) : Same ((S.app oi.dst xi.r).app oj.dst xj.r) ((S.app oj.dst xj.r).app oi.dst xi.r) := by
  refine ⟨by simp [app_len], fun t => ?_, fun c => ?_⟩
  · simp only [app_slot, app_len]
    by_cases h1 : oi.dst = some t
    · simp [h1, h.d3 t h1]
    · by_cases h2 : oj.dst = some t <;> simp [h1, h2]
  · by_cases h1 : c ∈ xi.tch
    · rw [app_mem_other _ _ _ (h.t1 c h1), app_mem, app_mem]
      rw [app_mem_other _ _ _ (h.t1 c h1)]
    · rw [app_mem_other _ oi.dst xi h1, app_mem, app_mem_other _ oi.dst xi h1, app_mem]

/-- What the check of a region says. -/
structure Ordered (ops : Array Oper) (recs : List Rec) (b : Nat) : Prop where
  len : ∀ (j : Nat) (o : Oper), ops[j]? = some o → ∃ x : Rec, recs[j]? = some x
  edge : ∀ (j : Nat) (o : Oper), ops[j]? = some o → ∀ k ∈ edgesOf o, k < j
  pair : ∀ (i j : Nat) (oi oj : Oper) (xi xj : Rec), i < j → ops[i]? = some oi → ops[j]? = some oj → recs[i]? = some xi → recs[j]? = some xj → Indep ops oi xi oj xj ∨ ∃ m : Nat, (masks ops.toList [])[j]? = some m ∧ Nat.testBit m i = true
  ok : ∀ (j : Nat) (oj : Oper) (xj : Rec), ops[j]? = some oj → recs[j]? = some xj → ∃ m : Nat, (masks ops.toList [])[j]? = some m ∧ xj.ok (fun c => Nat.blt c b || (Nat.ble b c && (Nat.beq (c - b) j || Nat.testBit m (c - b)))) (b + j) = true

theorem rowB_spec {ops : Array Oper} {oj : Oper} {xj : Rec} {m : Nat} : ∀ (l : List Oper) (r : List Rec) (k : Nat), rowB ops oj xj m l r k = true → ∀ (i : Nat) (o : Oper) (x : Rec), l[i]? = some o → r[i]? = some x → Nat.testBit m (k + i) = true ∨ indepB ops o x oj xj = true
  | [], r, k, h, i, o, x, h1, h2 => by simp at h1
  | _ :: _, [], k, h, i, o, x, h1, h2 => by simp at h2
  | o0 :: l, x0 :: r, k, h, i, o, x, h1, h2 => by
    simp only [rowB, Bool.and_eq_true, Bool.or_eq_true] at h
    cases i with
    | zero =>
      simp only [List.getElem?_cons_zero, Option.some.injEq] at h1 h2
      subst h1; subst h2
      exact h.1
    | succ i =>
      have := rowB_spec l r (k + 1) h.2 i o x (by simpa using h1) (by simpa using h2)
      rwa [show k + (i + 1) = k + 1 + i by omega]

theorem orderB_spec {ops : Array Oper} {recs : List Rec} {b : Nat} (h : orderB ops recs b = true) : Ordered ops recs b := by
  simp only [orderB, List.all_eq_true, List.mem_range, lnth_eq] at h
  have get : ∀ (j : Nat) (o : Oper), ops[j]? = some o → ∃ (x : Rec) (m : Nat), recs[j]? = some x ∧ (masks ops.toList [])[j]? = some m ∧ (edgesOf o).all (fun k => Nat.blt k j) = true ∧ rowB ops o x m (ops.toList.take j) recs 0 = true ∧
      x.ok (fun c => Nat.blt c b || (Nat.ble b c && (Nat.beq (c - b) j || Nat.testBit m (c - b)))) (b + j) = true := by
    intro j o ho
    have hj : j < ops.size := (Array.getElem?_eq_some_iff.1 ho).1
    have := h j hj
    have ho' : ops.toList[j]? = some o := by simpa using ho
    rw [ho'] at this
    split at this
    · rename_i o' x m h1 h2 h3
      cases h1
      simp only [Bool.and_eq_true] at this
      exact ⟨x, m, h2, h3, this.1.1, this.1.2, this.2⟩
    · cases this
  refine ⟨fun j o ho => ?_, fun j o ho k hk => ?_, fun i j oi oj xi xj hij hi hj hxi hxj => ?_, fun j oj xj hj hxj => ?_⟩
  · obtain ⟨x, m, h1, _⟩ := get j o ho
    exact ⟨x, h1⟩
  · obtain ⟨x, m, _, _, h1, _⟩ := get j o ho
    simp only [List.all_eq_true, Nat.blt_eq] at h1
    exact h1 k hk
  · obtain ⟨x, m, h1, h2, _, h3, _⟩ := get j oj hj
    rw [hxj] at h1
    cases h1
    have := rowB_spec _ _ 0 h3 i oi xi (by rw [List.getElem?_take]; simp [hij]; simpa using hi) hxi
    rcases this with h4 | h4
    · exact .inr ⟨m, h2, by simpa using h4⟩
    · exact .inl (indepB_spec h4)
  · obtain ⟨x, m, h1, h2, _, _, h3⟩ := get j oj hj
    rw [hxj] at h1
    cases h1
    exact ⟨m, h2, h3⟩

/-- D holds with each operation those that must go ahead of it. -/
def Closed (ops : Array Oper) (D : Nat → Bool) : Prop := ∀ (j : Nat) (o : Oper), ops[j]? = some o → D j = true → ∀ k ∈ edgesOf o, D k = true

theorem Closed.anc {ops : Array Oper} {D : Nat → Bool} (hD : Closed ops D) (i : Nat) : ∀ (j : Nat) (o : Oper) (m : Nat), ops[j]? = some o → (∀ k ∈ edgesOf o, D k = true) → (masks ops.toList [])[j]? = some m → Nat.testBit m i = true → D i = true := by
  intro j
  induction j using Nat.strongRecOn with
  | _ j ih =>
    intro o m ho hD' hm hb
    obtain ⟨m', hm', hall⟩ := masks_bit ops.toList [] j o (by simp) (by simpa using ho)
    rw [hm] at hm'
    cases hm'
    obtain ⟨k, hk, h⟩ := hall i hb
    rcases h with rfl | ⟨hkj, mk, hmk, hbk⟩
    · exact hD' _ hk
    · have hkl : k < ops.size := by
        have hj := (Array.getElem?_eq_some_iff.1 ho).1
        omega
      exact ih k hkj ops[k] mk (by simp [hkl]) (fun k' hk' => hD k ops[k] (by simp [hkl]) (hD' k hk) k' hk') hmk hbk

section
variable {P : Program} {C : Ctx} {ops : Array Oper} {recs : List Rec} {b : Nat} {S0 : St}

theorem runD_len (D : Nat → Bool) : ∀ n, (runD ops recs S0 D n).slots.length = S0.slots.length
  | 0 => rfl
  | n + 1 => by
    simp only [runD]
    split
    · split
      · rw [app_len, runD_len D n]
      · exact runD_len D n
    · exact runD_len D n

theorem runD_congr {D D' : Nat → Bool} : ∀ n, (∀ j, j < n → D j = D' j) → runD ops recs S0 D n = runD ops recs S0 D' n
  | 0, _ => rfl
  | n + 1, h => by simp only [runD, runD_congr n (fun j hj => h j (by omega)), h n (by omega)]

theorem runD_stop {D : Nat → Bool} : ∀ n m, n ≤ m → (∀ j, n ≤ j → j < m → D j = false) → runD ops recs S0 D m = runD ops recs S0 D n
  | n, 0, h, _ => by have : n = 0 := by omega
                     subst this; rfl
  | n, m + 1, h, hD => by
    by_cases hn : n = m + 1
    · subst hn; rfl
    · simp only [runD, hD m (by omega) (by omega)]
      exact runD_stop n m (by omega) (fun j h1 h2 => hD j h1 (by omega))

/-- Where operation i may go next, it finds what it finds in the text's order. -/
theorem agree (H : Ordered ops recs b) {D : Nat → Bool} (hD : Closed ops D) {i : Nat} {o : Oper} {x : Rec} (ho : ops[i]? = some o) (hx : recs[i]? = some x) (hi : D i = false) (hpre : ∀ k ∈ edgesOf o, D k = true) :
    ∀ n, i ≤ n → (∀ t ∈ o.looksAt ops, lget (runD ops recs S0 D n).slots t = lget (runD ops recs S0 (fun _ => true) i).slots t) ∧ (∀ c ∈ x.rd, (runD ops recs S0 D n).mem.get c = (runD ops recs S0 (fun _ => true) i).mem.get c) := by
  have low : ∀ j, j ≤ i → (∀ t ∈ o.looksAt ops, lget (runD ops recs S0 D j).slots t = lget (runD ops recs S0 (fun _ => true) j).slots t) ∧ (∀ c ∈ x.rd, (runD ops recs S0 D j).mem.get c = (runD ops recs S0 (fun _ => true) j).mem.get c) := by
    intro j
    induction j with
    | zero => intro _; exact ⟨fun _ _ => rfl, fun _ _ => rfl⟩
    | succ j ih =>
      intro hj
      obtain ⟨h1, h2⟩ := ih (by omega)
      have hjs : j < ops.size := by have := (Array.getElem?_eq_some_iff.1 ho).1; omega
      have hoj : ops[j]? = some ops[j] := by simp [hjs]
      obtain ⟨xj, hxj⟩ := H.len j _ hoj
      simp only [runD, if_true, hoj, hxj]
      by_cases hDj : D j = true
      · simp only [hDj, if_true]
        refine ⟨fun t ht => by rw [app_slot, app_slot, runD_len, runD_len, h1 t ht], fun c hc => by rw [app_mem, app_mem, h2 c hc]⟩
      · simp only [hDj]
        have hind : Indep ops ops[j] xj o x := by
          rcases H.pair j i _ _ _ _ (by omega) hoj ho hxj hx with h | ⟨m, hm, hb⟩
          · exact h
          · exact absurd (hD.anc j i o m ho hpre hm hb) hDj
        refine ⟨fun t ht => ?_, fun c hc => ?_⟩
        · rw [app_slot, if_neg (fun e => hind.d1 t e ht)]; exact h1 t ht
        · rw [app_mem_other _ _ _ (fun e => hind.r1 c e hc)]; exact h2 c hc
  intro n hn
  induction n with
  | zero => exact (by have : i = 0 := by omega
                      subst this; exact low 0 (Nat.le_refl _))
  | succ n ih =>
    by_cases he : i = n + 1
    · subst he; exact low _ (Nat.le_refl _)
    · obtain ⟨h1, h2⟩ := ih (by omega)
      simp only [runD]
      by_cases hDn : D n = true
      · have hne : n ≠ i := fun e => by rw [e, hi] at hDn; cases hDn
        simp only [hDn, if_true]
        split
        · rename_i on xn hon hxn
          have hind : Indep ops o x on xn := by
            rcases H.pair i n _ _ _ _ (by omega) ho hon hx hxn with h | ⟨m, hm, hb⟩
            · exact h
            · have := hD.anc i n on m hon (hD n on hon hDn) hm hb
              rw [hi] at this; cases this
          refine ⟨fun t ht => ?_, fun c hc => ?_⟩
          · rw [app_slot, if_neg (fun e => hind.d2 t e ht)]; exact h1 t ht
          · rw [app_mem_other _ _ _ (fun e => hind.r2 c e hc)]; exact h2 c hc
        · exact ⟨h1, h2⟩
      · simp only [hDn]
        exact ⟨h1, h2⟩

/-- Operation i laid behind all those of D, or at its own place among them. -/
theorem insert_same (H : Ordered ops recs b) {D : Nat → Bool} (hD : Closed ops D) {i : Nat} {o : Oper} {x : Rec} (ho : ops[i]? = some o) (hx : recs[i]? = some x) (hi : D i = false) :
    ∀ n, i < n → Same ((runD ops recs S0 D n).app o.dst x.r) (runD ops recs S0 (fun j => if j = i then true else D j) n) := by
  intro n hn
  induction n with
  | zero => omega
  | succ n ih =>
    by_cases he : i = n
    · subst he
      have e : runD ops recs S0 (fun j => if j = i then true else D j) i = runD ops recs S0 D i := runD_congr i (fun j hj => by simp [show j ≠ i by omega])
      simp only [runD, hi, if_true, ho, hx, e]
      exact Same.refl _
    · have ih' := ih (by omega)
      simp only [runD, show n ≠ i by omega, if_false]
      by_cases hDn : D n = true
      · simp only [hDn, if_true]
        split
        · rename_i on xn hon hxn
          have hind : Indep ops o x on xn := by
            rcases H.pair i n _ _ _ _ (by omega) ho hon hx hxn with h | ⟨m, hm, hb⟩
            · exact h
            · have := hD.anc i n on m hon (hD n on hon hDn) hm hb
              rw [hi] at this; cases this
          exact (app_comm hind.symm _).trans (ih'.app on.dst xn.r)
        · exact ih'
      · simp only [hDn]
        exact ih'
end
end Go.Sx
