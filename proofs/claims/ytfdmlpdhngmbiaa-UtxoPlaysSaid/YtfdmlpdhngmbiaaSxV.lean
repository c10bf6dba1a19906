/- Symbolic states for walks, part V: a row's arguments opened to pieces; what a row asks of the world behind the call. -/
import Derived.Test.YtfdmlpdhngmbiaaSxU
import Derived.ProofKit
import Derived.OpenShut
import Derived.Deep.Slices
namespace Go.Sx
open Go.RowKit Go.ChangeShapes Go.WideShapes Go.Deep

/-! ### the kinds of a plain type's cells -/
inductive Kd where
  | int (k : IntKind)
  | bool
def Kd.fits : Kd → Value → Prop
  | .int k, v => ∃ n, v = .int k n ∧ (Lit.int k n).wf = true
  | .bool, v => ∃ b, v = .bool b
def Fits : List Kd → List Value → Prop
  | [], vs => vs = []
  | k :: ks, vs => ∃ v r, vs = v :: r ∧ k.fits v ∧ Fits ks r
theorem Fits.length : ∀ {ks : List Kd} {vs : List Value}, Fits ks vs → vs.length = ks.length
  | [], _, h => by cases h; rfl
  | _ :: _, _, h => by obtain ⟨v, r, rfl, _, h2⟩ := h; simp [Fits.length h2]
theorem Fits.append : ∀ {a b : List Kd} {x y : List Value}, Fits a x → Fits b y → Fits (a ++ b) (x ++ y)
  | [], _, _, _, h, k => by cases h; exact k
  | _ :: _, _, _, _, h, k => by obtain ⟨v, r, rfl, h1, h2⟩ := h; exact ⟨v, _, rfl, h1, Fits.append h2 k⟩

def kindsF (T : TyTab) (kf : TypeId → Option (List Kd)) : List (TypeId × Nat) → Nat → Option (List Kd)
  | [], _ => some []
  | (t, off) :: r, acc =>
    match T t, kf t with
    | some td, some ks => bif Nat.beq off acc && Nat.beq ks.length td.size then (match kindsF T kf r (acc + ks.length) with | some l => some (ks ++ l) | none => none) else none
    | _, _ => none
def kindsT (T : TyTab) : Nat → TypeId → Option (List Kd)
  | 0, _ => none
  | f + 1, t =>
    match T t with
    | some { desc := .int k, .. } => some [.int k]
    | some { desc := .bool, .. } => some [.bool]
    | some { desc := .struct fs, size, .. } => match kindsF T (kindsT T f) fs 0 with | some l => bif Nat.beq l.length size then some l else none | none => none
    | some { desc := .array n e, size, .. } =>
      match T e, kindsT T f e with
      | some te, some ks => bif Nat.beq ks.length te.size && Nat.beq (n * ks.length) size then some ((List.replicate n ks).flatten) else none
      | _, _ => none
    | _ => none

section
variable {P : Program} {T : TyTab} {H : Type} {enc : TypeId × Value → H} {w : World} {base : Nat} {spare : Nat → Bool} {held : Bool}

theorem cellsOf_T (hT : TabOK P T) {t : TypeId} {td : TyD} (h : T t = some td) : P.cellsOf t = td.size := by
  obtain ⟨i, u, h1, _, h3, _⟩ := info_of hT h
  simp [Program.cellsOf, h1, h3]

theorem kindsF_fits (hT : TabOK P T) {kf : TypeId → Option (List Kd)} {cs : List Value} (hk : ∀ t ks off, kf t = some ks → (∃ n x, DataW.trod enc P w base spare held n t ((cs.drop off).take (P.cellsOf t)) = some x) → Fits ks ((cs.drop off).take (P.cellsOf t))) :
    ∀ (fs : List (TypeId × Nat)) (acc : Nat) (l : List Kd), kindsF T kf fs acc = some l → (∀ f ∈ fs, ∃ n x, DataW.trod enc P w base spare held n f.1 ((cs.drop f.2).take (P.cellsOf f.1)) = some x) → Fits l ((cs.drop acc).take l.length)
  | [], acc, l, h, _ => by simp only [kindsF, Option.some.injEq] at h; subst h; simp [Fits]
  | (t, off) :: r, acc, l, h, hf => by
    simp only [kindsF] at h
    split at h
    · rename_i td ks h1 h2
      cases hb : (Nat.beq off acc && Nat.beq ks.length td.size) with
      | false => simp [hb] at h
      | true =>
        simp only [hb, cond_true] at h
        simp only [Bool.and_eq_true, nbeq, decide_eq_true_eq] at hb
        obtain ⟨rfl, b2⟩ := hb
        split at h
        · rename_i l' h3
          cases h
          have f1 := hk t ks off h2 (hf (t, off) (by simp))
          have f2 := kindsF_fits hT hk r (off + ks.length) l' h3 (fun f hm => hf f (by simp [hm]))
          have hc : P.cellsOf t = ks.length := by rw [cellsOf_T hT h1, b2]
          rw [hc] at f1
          rw [List.length_append, List.take_add, List.drop_drop]
          exact f1.append f2
        · cases h
    · cases h

theorem arr_fits {ks : List Kd} {cs : List Value} : ∀ (n : Nat), (∀ i, i < n → Fits ks ((cs.drop (i * ks.length)).take ks.length)) → Fits ((List.replicate n ks).flatten) (cs.take (n * ks.length))
  | 0, _ => by simp [Fits]
  | n + 1, h => by
    have ih := arr_fits n (fun i hi => h i (by omega))
    have hl := h n (by omega)
    rw [List.replicate_succ', List.flatten_append, Nat.add_mul, Nat.one_mul, List.take_add]
    simp only [List.flatten_cons, List.flatten_nil, List.append_nil]
    exact ih.append hl

theorem trod_fits (hT : TabOK P T) : ∀ (f : Nat) (t : TypeId) (ks : List Kd), kindsT T f t = some ks → ∀ (n : Nat) (cs : List Value) (x : DataW H × List MemPlace), DataW.trod enc P w base spare held n t cs = some x → Fits ks cs
  | 0, _, _, h => by simp [kindsT] at h
  | f + 1, t, ks, h => by
    intro n cs x hx
    simp only [kindsT] at h
    split at h
    · rename_i k h1
      cases h
      have hu := under_int hT h1 rfl
      cases n with
      | zero => simp [DataW.trod] at hx
      | succ n =>
        unfold DataW.trod at hx
        rw [hu] at hx
        split at hx <;> simp_all [Fits, Kd.fits]
    · rename_i h1
      cases h
      obtain ⟨u, hu, hd⟩ := desc_under hT h1
      cases u <;> simp [DescOK] at hd
      cases n with
      | zero => simp [DataW.trod] at hx
      | succ n =>
        unfold DataW.trod at hx
        rw [hu] at hx
        split at hx <;> simp_all [Fits, Kd.fits]
    · rename_i size bytes agg z fs h1
      split at h
      · rename_i l h2
        cases hb : Nat.beq l.length size with
        | false => simp [hb] at h
        | true =>
          simp only [hb, cond_true, Option.some.injEq] at h
          subst h
          obtain ⟨fl, hu, hfl⟩ := under_struct hT h1 rfl
          obtain ⟨xs, n', _, _, hlen, hxl, hfield⟩ := DataW.trod_struct hu hx
          have hsz : cs.length = l.length := by rw [hlen, cellsOf_T hT h1]; exact (Nat.eq_of_beq_eq_true hb).symm
          have key := kindsF_fits (enc := enc) (w := w) (base := base) (spare := spare) (held := held) (cs := cs) hT (kf := kindsT T f) (fun t' ks' off hk ⟨m, y, hy⟩ => trod_fits hT f t' ks' hk m _ y hy) fs 0 l h2 (fun p hp => by
            rw [← hfl] at hp
            obtain ⟨fd, hm, rfl⟩ := List.mem_map.1 hp
            obtain ⟨i, hi⟩ := List.getElem?_of_mem hm
            have hi' : fl[i]? = some fd := by simpa using hi
            have hil : i < fl.size := (Array.getElem?_eq_some_iff.1 hi').1
            have := hfield i fd hi'
            rw [List.getElem?_eq_getElem (by omega)] at this
            exact ⟨n', _, this⟩)
          rw [List.drop_zero, ← hsz, List.take_length] at key
          exact key
      · cases h
    · rename_i size bytes agg z m e h1
      split at h
      · rename_i te ks' h2 h3
        cases hb : (Nat.beq ks'.length te.size && Nat.beq (m * ks'.length) size) with
        | false => simp [hb] at h
        | true =>
          simp only [hb, cond_true, Option.some.injEq] at h
          subst h
          simp only [Bool.and_eq_true, nbeq, decide_eq_true_eq] at hb
          obtain ⟨b1, b2⟩ := hb
          have hu := under_array hT h1 rfl
          obtain ⟨xs, n', _, _, hlen, hxl, hel⟩ := DataW.trod_array hu hx
          have hc : P.cellsOf e = ks'.length := by rw [cellsOf_T hT h2, b1]
          have hsz : cs.length = m * ks'.length := by rw [hlen, cellsOf_T hT h1, b2]
          have key := arr_fits (ks := ks') (cs := cs) m (fun i hi => by
            have := hel i hi
            rw [List.getElem?_eq_getElem (by omega), hc] at this
            exact trod_fits hT f e ks' h3 n' _ _ this)
          rw [← hsz, List.take_length] at key
          exact key
      · cases h
    · cases h
end

/-! ### a slice of plain elements is a read-only piece -/
/-- A slice that came in: at some place, len elements; each is told by one of 'l'. -/
def RowIn (W : World) (v : Value) (sz : Nat) (n : Nat) (f : Nat → List Value) : Prop :=
  ∃ L : Loc, (∀ β : Nat → Loc, ∀ c, β c = L → (SV.slc c sz 0 n).rel β v) ∧ (if L.nil = true then n = 0 else L.blk < W.heap.size ∧ ∀ i, i < n → (f i).length = sz ∧ ∀ j u, (f i)[j]? = some u → W.cell? (L.addr (i * sz + j)) = some u)

theorem rowIn_holds {W : World} {sz n : Nat} {f : Nat → List Value} {L : Loc} (h : if L.nil = true then n = 0 else L.blk < W.heap.size ∧ ∀ i, i < n → (f i).length = sz ∧ ∀ j u, (f i)[j]? = some u → W.cell? (L.addr (i * sz + j)) = some u)
    {β : Nat → Loc} {ow : Nat → Option Nat} {c : Nat} (hβ : β c = L) (how : ∀ k, ow k = none) : Holds β ow W c (.ro sz n f) := by
  simp only [Holds]
  rw [hβ]
  by_cases hn : L.nil = true
  · rw [if_pos hn] at h ⊢; exact h
  · rw [if_neg hn] at h ⊢
    exact ⟨how _, h.1, h.2⟩

section
variable {P : Program} {T : TyTab} {H : Type} {enc : TypeId × Value → H} {W : World}

theorem open_row (hT : TabOK P T) {t e : TypeId} {td te : TyD} (ht : T t = some td) (hd : td.desc = .slice e) (he : T e = some te) {f : Nat} {ks : List Kd} (hk : kindsT T f e = some ks) {v : Value} {d : DataW H} {p : List MemPlace}
    (h : DataW.Trod enc P W 0 (fun _ => true) true t v d p) (hv : Value.okWide P W .any 0 t v) {E : Type} (cells : E → List Value) (dec : ∀ cs, Fits ks cs → ∃ x, cs = cells x) (dflt : E) :
    ∃ l : List E, l.length ≤ maxLen ∧ RowIn W v te.size l.length (fun i => cells (l.getD i dflt)) := by
  have hu := under_slice hT ht hd
  obtain ⟨fuel, hf⟩ := h
  have hvc : v.cells.toList = [v] := by
    simp only [Value.okWide, hu, Cell.okWide] at hv
    cases v <;> first | rfl | (simp_all [Cell.ok])
  rw [hvc] at hf
  have hc : P.cellsOf e = te.size := cellsOf_T hT he
  rcases open_slice hu hf with ⟨h1, _⟩ | ⟨a, len, cap, m, n, D, Pl, h1, _, hle, hm, hmm, _, hx⟩
  · simp only [List.cons.injEq, and_true] at h1
    subst h1
    refine ⟨[], Nat.zero_le _, ⟨0, 0, 0, true, fun _ => 0⟩, fun β c hβ => ?_, by simp⟩
    simp [SV.rel, hβ]
  · simp only [List.cons.injEq, and_true] at h1
    subst h1
    simp only [if_true] at hmm
    subst hmm
    have each : ∀ i, i < len → ∃ x : E, (cells x).length = te.size ∧ ∀ j u, (cells x)[j]? = some u → W.cell? (a.add (i * te.size + j)) = some u := by
      intro i hi
      obtain ⟨cs', h2, h3⟩ := hx i (by omega)
      have hfit := trod_fits hT f e ks hk n cs' _ h3
      obtain ⟨x, rfl⟩ := dec cs' hfit
      rw [hc] at h2
      obtain ⟨_, g2, g3⟩ := World.cells?_some h2
      refine ⟨x, g2, fun j u hj => ?_⟩
      have hjl : j < te.size := by rw [← g2]; exact (List.getElem?_eq_some_iff.1 hj).1
      have := g3 j hjl
      rw [hj] at this
      have ea : (a.add (i * te.size)).add j = a.add (i * te.size + j) := by
        unfold Addr.add
        split <;> split <;> simp_all [Nat.add_assoc]
      rw [ea] at this
      exact this
    have spot : a.spot = none ∧ a.block < W.heap.size := by
      simp only [Value.okWide, hu, Cell.okWide, Cell.ok] at hv
      obtain ⟨_, _, _, hs, row, cells', hsh, _⟩ := hv
      refine ⟨hs, ?_⟩
      unfold World.shape? at hsh
      split at hsh
      · rename_i hb
        exact (Array.getElem?_eq_some_iff.1 hb).1
      · cases hsh
    have pick : ∀ k, k ≤ len → ∃ l : List E, l.length = k ∧ ∀ i, i < k → (cells (l.getD i dflt)).length = te.size ∧ ∀ j u, (cells (l.getD i dflt))[j]? = some u → W.cell? (a.add (i * te.size + j)) = some u := by
      intro k
      induction k with
      | zero => intro _; exact ⟨[], rfl, fun i hi => by omega⟩
      | succ k ih =>
        intro hk'
        obtain ⟨l, h2, h3⟩ := ih (by omega)
        obtain ⟨x, h4, h5⟩ := each k (by omega)
        refine ⟨l ++ [x], by simp [h2], fun i hi => ?_⟩
        by_cases hik : i < k
        · have e1 : (l ++ [x]).getD i dflt = l.getD i dflt := by simp [List.getD_eq_getElem?_getD, List.getElem?_append_left (show i < l.length by omega)]
          rw [e1]; exact h3 i hik
        · have e0 : i = k := by omega
          subst e0
          have e1 : (l ++ [x]).getD i dflt = x := by simp [List.getD_eq_getElem?_getD, h2]
          rw [e1]; exact ⟨h4, h5⟩
    obtain ⟨l, hl, hcell⟩ := pick len (Nat.le_refl _)
    refine ⟨l, by rw [hl]; exact Nat.le_trans hle hm, ?_⟩
    rw [hl]
    obtain ⟨hs, hb⟩ := spot
    have ha : a = ⟨a.block, a.off, none⟩ := by cases a; simp_all
    have hadd : ∀ q, a.add q = ⟨a.block, a.off + q, none⟩ := by
      intro q
      unfold Addr.add
      split
      · rename_i h; subst h; rw [Nat.add_zero]; exact ha
      · rfl
    refine ⟨⟨a.block, a.off, m, false, fun _ => 0⟩, fun β c hβ => ?_, ?_⟩
    · simp only [SV.rel, hβ, Bool.false_eq_true, if_false]
      exact ⟨a, by rw [Nat.sub_zero], by omega, fun _ => by simp only [Loc.addr, Nat.zero_mul, Nat.add_zero]; exact ha⟩
    · simp only [Bool.false_eq_true, if_false]
      refine ⟨hb, fun i hi => ⟨(hcell i hi).1, fun j u hj => ?_⟩⟩
      have := (hcell i hi).2 j u hj
      rw [hadd] at this
      exact this

/-! ### what a row asks of the world behind the call -/
theorem below_all (hl : laidOutB P = true) {W W' : World} (hb : Below W.heap.size W W') : ∀ {ts : List TypeId} {vs : List Value} {ds : List (DataW H)} {p : List MemPlace}, (ts.all fun t => P.readableRec t && decide (t < P.types.size)) = true →
    DataW.TrodAll enc P W 0 (fun _ => true) true ts vs ds p → (∀ x ∈ p, x.block < W.heap.size) → DataW.TrodAll enc P W' 0 (fun b => decide (b < W.heap.size)) true ts vs ds p
  | [], _, _, _, _, h, _ => by
    obtain ⟨rfl, rfl, rfl⟩ := trodAll_nil h
    exact rfl
  | t :: ts, _, _, _, ht, h, hlt => by
    obtain ⟨v, vs1, d, ds1, a, b, rfl, rfl, rfl, h1, h2⟩ := trodAll_cons h
    simp only [List.all_cons, Bool.and_eq_true, decide_eq_true_eq] at ht
    exact ⟨a, b, Below.trod hl ht.1.1 ht.1.2 h1 hb (fun x hx => hlt x (by simp [hx])), below_all hl hb (by simpa using ht.2) h2 (fun x hx => hlt x (by simp [hx])), rfl⟩

/-- A law that holds of every input: it returns true, and what came in reads as it did. -/
theorem post_true {f : Func} {s : ChangeSpec} {apart fresh handsOn : Bool} {W W' : World} {args : Array Value} {v : Value} {ds gs : List (DataW H)} {before : List MemPlace} (hl : laidOutB P = true) (hW : DataW.Whole enc P f.params.toList s.vars apart W args.toList ds gs before) (hv : s.vars = [])
    (hty : (f.params.toList.all fun t => P.readableRec t && decide (t < P.types.size)) = true) (hb : Below W.heap.size W W') (hs : (s.fn H (ds ++ gs)).args = ds) (hsv : (s.fn H (ds ++ gs)).vars = [])
    (hres : ∀ (b : Nat) (sp : Nat → Bool), DataW.TrodAll enc P W' b sp handsOn f.resultTypes.toList (v.resultList f.resultTypes.size) (s.fn H (ds ++ gs)).results []) : s.post enc P f apart fresh handsOn false W args v W' := by
  have hlt := hW.lt
  have hW' := hW
  obtain ⟨p, q, hA, hV, rfl, _, _⟩ := hW
  rw [hv] at hV
  refine ⟨ds, gs, p ++ q, [], p, [], hW', hres _ _, ?_, ?_, hb.frame _, fun h => by cases h⟩
  · rw [hs]
    exact below_all hl hb hty hA (fun x hx => hlt x (by simp [hx]))
  · rw [hv, hsv]
    exact rfl
end
end Go.Sx
