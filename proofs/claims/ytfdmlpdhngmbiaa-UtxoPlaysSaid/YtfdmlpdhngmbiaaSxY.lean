/- Symbolic states for walks, part Y: == and != of structs and arrays. -/
import Derived.Test.YtfdmlpdhngmbiaaSxX
namespace Go.Sx
open Go.RowKit

/-- How values of this type are held against one another. -/
structure EqK (P : Program) (t : TypeId) {K : Type} [DecidableEq K] (kx : K → Value) : Prop where
  agg : ∀ a, ∃ cs, kx a = .agg cs
  noGuard : P.eqGuardType P.depth t = false
  eq : ∀ (w : World) (a b : K), (Op.equal t (kx a) (kx b)).run P w = .ok (decide (a = b)) w

theorem EqK.of {P : Program} {t : TypeId} {K : Type} [DecidableEq K] {kx : K → Value} {m : Nat} (L : WideMaps.KeyLaw P t) (hm : m ≤ 10000) (hk : P.keyTypeAt m t = true) (hwide : (match P.underlying t with | some (.array _ _) | some (.struct _) => true | _ => false) = true)
    (hkey : ∀ a, ∃ l, keyOf P t (kx a) = some l) (hi : ∀ a b, kx a = kx b → a = b) (hg : P.eqGuardType P.depth t = false) (ha : ∀ a, ∃ cs, kx a = .agg cs) : EqK P t kx where
  agg := ha
  noGuard := hg
  eq w a b := by
    obtain ⟨la, h1⟩ := hkey a
    obtain ⟨lb, h2⟩ := hkey b
    obtain ⟨r, h3, h4⟩ := run_equal_deep w hm hk hwide h1 h2
    rw [h3]
    congr 1
    by_cases e : a = b
    · subst e
      rw [h1] at h2
      cases h2
      simp [h4.2 rfl]
    · have : la ≠ lb := fun e' => e (hi _ _ (L.inj h1 (e' ▸ h2)))
      have hr : r ≠ true := fun h => this (h4.1 h)
      simp [e, hr]

section
variable {P : Program} {S : St} {d : Nat} {o : Oper} {K : Type} [DecidableEq K] {kx : K → Value} {t : TypeId}
theorem eq_op (E : EqK P t kx) {x y : Operand} {yt : TypeId} (ho : o.op = .binOp .eql t x y yt) (a b : K) (hx : S.ev x = some (.cv (rawCV (kx a)))) (hy : S.ev y = some (.cv (rawCV (kx b)))) : OpSound P S d o { v := XV.bool (decide (a = b)) } [] := by
  refine pure_op fun β w ac hops => ⟨.bool (decide (a = b)), ?_, rfl⟩
  have h1 := hops x (by rw [ho]; simp [Op.operands]) _ hx
  have h2 := hops y (by rw [ho]; simp [Op.operands]) _ hy
  simp only [XV.rel, rawCV_rel] at h1 h2
  have he := E.eq w a b
  obtain ⟨ca, ea⟩ := E.agg a
  obtain ⟨cb, eb⟩ := E.agg b
  simp only [execOp, ho, h1, h2]
  rw [ea, eb] at he ⊢
  simp [eqGuard, run_program, E.noGuard, binOp, he]
theorem neq_op (E : EqK P t kx) {x y : Operand} {yt : TypeId} (ho : o.op = .binOp .neq t x y yt) (a b : K) (hx : S.ev x = some (.cv (rawCV (kx a)))) (hy : S.ev y = some (.cv (rawCV (kx b)))) : OpSound P S d o { v := XV.bool (!decide (a = b)) } [] := by
  refine pure_op fun β w ac hops => ⟨.bool (!decide (a = b)), ?_, rfl⟩
  have h1 := hops x (by rw [ho]; simp [Op.operands]) _ hx
  have h2 := hops y (by rw [ho]; simp [Op.operands]) _ hy
  simp only [XV.rel, rawCV_rel] at h1 h2
  have he := E.eq w a b
  obtain ⟨ca, ea⟩ := E.agg a
  obtain ⟨cb, eb⟩ := E.agg b
  simp only [execOp, ho, h1, h2]
  rw [ea, eb] at he ⊢
  simp [eqGuard, run_program, E.noGuard, binOp, he]

/-! ### plain values are keys -/
theorem Fits.split : ∀ {a b : List Kd} {vs : List Value}, Fits (a ++ b) vs → Fits a (vs.take a.length) ∧ Fits b (vs.drop a.length)
  | [], _, _, h => ⟨by simp [Fits], h⟩
  | _ :: _, _, _, h => by
    obtain ⟨v, r, rfl, h1, h2⟩ := h
    obtain ⟨h3, h4⟩ := Fits.split h2
    exact ⟨⟨v, _, rfl, h1, h3⟩, h4⟩
theorem kindsF_split {T : TyTab} {kf : TypeId → Option (List Kd)} {cs : List Value} : ∀ (fs : List (TypeId × Nat)) (acc : Nat) (l : List Kd), kindsF T kf fs acc = some l → Fits l ((cs.drop acc).take l.length) →
    ∀ f ∈ fs, ∃ td ks, T f.1 = some td ∧ kf f.1 = some ks ∧ ks.length = td.size ∧ Fits ks ((cs.drop f.2).take td.size)
  | [], _, _, _, _, f, hf => by cases hf
  | (t, off) :: r, acc, l, h, hfit, f, hf => by
    simp only [kindsF] at h
    split at h
    · rename_i td ks h1 h2
      cases hb : (Nat.beq off acc && Nat.beq ks.length td.size) with
      | false => simp [hb] at h
      | true =>
        simp only [hb, cond_true] at h
        simp only [Bool.and_eq_true, nbeq, decide_eq_true_eq] at hb
        obtain ⟨rfl, b2⟩ := hb
        split at h
        · rename_i l' h3
          cases h
          rw [List.length_append, List.take_add, List.drop_drop] at hfit
          obtain ⟨f1, f2⟩ := hfit.split
          have hlen : ((cs.drop off).take ks.length).length = ks.length := by
            have := f1.length
            rcases Nat.lt_or_ge ((cs.drop off).take ks.length).length ks.length with hlt | hge
            · -- then nothing stands behind
              have hd : cs.length < off + ks.length ∨ cs.length ≤ off := by
                rw [List.length_take, List.length_drop] at hlt
                omega
              have hnil : cs.drop (off + ks.length) = [] := List.drop_eq_nil_of_le (by omega)
              rw [hnil, List.take_nil, List.append_nil, List.length_take] at this
              omega
            · have := List.length_take_le ks.length (cs.drop off)
              omega
          rw [List.take_append_of_le_length (by omega), List.take_take, Nat.min_self] at f1
          rw [List.drop_append_of_le_length (by omega), List.drop_eq_nil_of_le (by omega), List.nil_append] at f2
          rcases List.mem_cons.1 hf with rfl | hf'
          · exact ⟨td, ks, h1, h2, b2, by rw [← b2]; exact f1⟩
          · exact kindsF_split r (off + ks.length) l' h3 f2 f hf'
        · cases h
    · cases h
theorem arr_split {ks : List Kd} {cs : List Value} : ∀ (n : Nat), Fits ((List.replicate n ks).flatten) (cs.take (n * ks.length)) → n * ks.length ≤ cs.length → ∀ i, i < n → Fits ks ((cs.drop (i * ks.length)).take ks.length)
  | 0, _, _, i, hi => by omega
  | n + 1, h, hl, i, hi => by
    rw [Nat.add_mul, Nat.one_mul] at hl
    rw [List.replicate_succ', List.flatten_append, Nat.add_mul, Nat.one_mul, List.take_add] at h
    simp only [List.flatten_cons, List.flatten_nil, List.append_nil] at h
    obtain ⟨h1, h2⟩ := h.split
    have hfl : ((List.replicate n ks).flatten).length = n * ks.length := by simp
    have htl : (cs.take (n * ks.length)).length = n * ks.length := by rw [List.length_take]; omega
    rw [hfl, List.take_append_of_le_length (by omega), List.take_take, Nat.min_self] at h1
    rw [hfl, List.drop_append_of_le_length (by omega), List.drop_eq_nil_of_le (by omega), List.nil_append] at h2
    by_cases hin : i < n
    · exact arr_split n h1 (by omega) i hin
    · have : i = n := by omega
      rw [this]; exact h2

theorem mapM_all {α β : Type} {g : α → Option β} : ∀ {l : List α}, (∀ x ∈ l, ∃ y, g x = some y) → ∃ ys, l.mapM g = some ys
  | [], _ => ⟨[], rfl⟩
  | x :: r, h => by
    obtain ⟨y, hy⟩ := h x (by simp)
    obtain ⟨ys, hys⟩ := mapM_all (l := r) (fun z hz => h z (by simp [hz]))
    exact ⟨y :: ys, by simp [List.mapM_cons, hy, hys]⟩

theorem keyLits_fits {P : Program} {T : TyTab} (hT : TabOK P T) (n : Nat) : ∀ (f : Nat) (t : TypeId) (ks : List Kd) (cs : List Value), kindsT T f t = some ks → P.keyTypeAt f t = true → Fits ks cs → ∃ ls, P.keyLits (n + f) t cs = some ls
  | 0, _, _, _, h, _, _ => by simp [kindsT] at h
  | f + 1, t, ks, cs, h, hk, hfit => by
    have hlen := hfit.length
    have hns : n + (f + 1) = (n + f) + 1 := by omega
    rw [hns]
    simp only [kindsT] at h
    split at h
    · rename_i k h1
      cases h
      have hu := under_int hT h1 rfl
      obtain ⟨v, r, rfl, ⟨m, rfl, hw⟩, rfl⟩ := hfit
      exact ⟨[.int k m], by simp [Program.keyLits, hu, hw]⟩
    · rename_i h1
      cases h
      obtain ⟨u, hu, hd⟩ := desc_under hT h1
      cases u <;> simp [DescOK] at hd
      obtain ⟨v, r, rfl, ⟨b, rfl⟩, rfl⟩ := hfit
      exact ⟨[.bool b], by simp [Program.keyLits, hu]⟩
    · rename_i size bytes agg z fs h1
      split at h
      · rename_i l h2
        cases hb : Nat.beq l.length size with
        | false => simp [hb] at h
        | true =>
          simp only [hb, cond_true, Option.some.injEq] at h
          subst h
          obtain ⟨fl, hu, hfl⟩ := under_struct hT h1 rfl
          have hsz : l.length = P.cellsOf t := by rw [cellsOf_T hT h1]; exact Nat.eq_of_beq_eq_true hb
          simp only [Program.keyTypeAt, hu, Bool.and_eq_true] at hk
          have hall := Array.all_eq_true_iff_forall_mem.1 hk.1.1
          have hfields := kindsF_split (cs := cs) fs 0 l h2 (by rw [List.drop_zero, ← hlen, List.take_length]; exact hfit)
          obtain ⟨ys, hys⟩ := mapM_all (l := fl.toList) (g := fun fd : Field => P.keyLits (n + f) fd.type ((cs.drop fd.offset).take (P.cellsOf fd.type))) (fun fd hfd => by
            obtain ⟨td, ks', e1, e2, e3, e4⟩ := hfields (fd.type, fd.offset) (by rw [← hfl]; exact List.mem_map.2 ⟨fd, hfd, rfl⟩)
            have hkd := hall fd (Array.mem_toList_iff.1 hfd)
            simp only [Bool.and_eq_true] at hkd
            rw [cellsOf_T hT e1]
            exact keyLits_fits hT n f fd.type ks' _ e2 hkd.2 e4)
          have hnames : fl.all (fun x => x.name != "_") = true := Array.all_eq_true_iff_forall_mem.2 fun fd hfd => by
            have := hall fd hfd
            simp only [Bool.and_eq_true] at this
            exact this.1
          exact ⟨ys.flatten, by
            unfold Program.keyLits
            rw [hu]
            simp only
            rw [if_pos ⟨by rw [hlen, hsz], hnames⟩, hys]
            rfl⟩
      · cases h
    · rename_i size bytes agg z m e h1
      split at h
      · rename_i te ks' h2 h3
        cases hb : (Nat.beq ks'.length te.size && Nat.beq (m * ks'.length) size) with
        | false => simp [hb] at h
        | true =>
          simp only [hb, cond_true, Option.some.injEq] at h
          subst h
          simp only [Bool.and_eq_true, nbeq, decide_eq_true_eq] at hb
          obtain ⟨b1, b2⟩ := hb
          have hu := under_array hT h1 rfl
          have hc : P.cellsOf e = ks'.length := by rw [cellsOf_T hT h2, b1]
          have hfl : ((List.replicate m ks').flatten).length = m * ks'.length := by simp
          have hcl : cs.length = m * ks'.length := by rw [hlen, hfl]
          have hsz : cs.length = P.cellsOf t := by rw [cellsOf_T hT h1, hcl, b2]
          simp only [Program.keyTypeAt, hu] at hk
          have hel := arr_split (ks := ks') (cs := cs) m (by rw [← hcl, List.take_length]; exact hfit) (by omega)
          obtain ⟨ys, hys⟩ := mapM_all (l := List.range m) (g := fun i => P.keyLits (n + f) e ((cs.drop (i * P.cellsOf e)).take (P.cellsOf e))) (fun i hi => by
            rw [hc]
            exact keyLits_fits hT n f e ks' _ h3 hk (hel i (by simpa using hi)))
          exact ⟨ys.flatten, by
            unfold Program.keyLits
            rw [hu]
            simp only
            rw [if_pos hsz, hys]
            rfl⟩
      · cases h
    · cases h

/-- A plain struct or array is a key. -/
theorem keyOf_fits {P : Program} {T : TyTab} (hT : TabOK P T) {t : TypeId} {f : Nat} {ks : List Kd} (hk : kindsT T f t = some ks) (hkt : P.keyTypeAt f t = true) (hkey : P.keyType t = true) (hle : f ≤ P.types.size + 1) (hwide : (match P.underlying t with | some (.array _ _) | some (.struct _) => true | _ => false) = true) {cs : List Value} (hc : Fits ks cs)
    (hsz : ks.length = P.cellsOf t) : ∃ l, keyOf P t (.agg cs.toArray) = some l := by
  obtain ⟨ls, h⟩ := keyLits_fits hT (P.types.size + 1 - f) f t ks cs hk hkt hc
  have e : P.types.size + 1 - f + f = P.types.size + 1 := by omega
  rw [e] at h
  refine ⟨.string (keyBytes ls), ?_⟩
  have hf : (Value.agg cs.toArray).formed P t = true := by
    unfold Value.formed
    split at hwide
    · rename_i h1; rw [h1]; simp [hc.length, hsz]
    · rename_i h1; rw [h1]; simp [hc.length, hsz]
    · cases hwide
  unfold keyOf
  split at hwide
  · rename_i h1; rw [h1]; simp [hkey, hf, Value.cells, h]
  · rename_i h1; rw [h1]; simp [hkey, hf, Value.cells, h]
  · cases hwide
end
end Go.Sx
