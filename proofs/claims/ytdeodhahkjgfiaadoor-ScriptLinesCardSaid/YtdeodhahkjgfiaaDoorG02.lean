/- Parts SxI SxJ. -/
import Derived.Test.YtdeodhahkjgfiaaDoorG01
set_option linter.unusedSimpArgs false
set_option linter.unusedVariables false
namespace Go.Sx
open Go.RowKit
abbrev ORes := Option (Option Prop × Res × List Nat)
def valR (v : VRes) : ORes := match v with | some (p, x) => some (p, { v := XV.val x }, []) | none => none
def fieldOf (T : TyTab) (s : TypeId) (f : Nat) : Option (TypeId × Nat) :=
  match T s with
  | some { desc := .struct fs, .. } => lnth fs f
  | _ => none
def placesOf (T : TyTab) (fs : List (TypeId × Nat)) : Option (List (Nat × Nat)) :=
  match fs with
  | [] => some []
  | (t, off) :: r => match T t, placesOf T r with | some td, some l => some ((off, td.size) :: l) | _, _ => none
def buildX (T : TyTab) (S : St) (t : TypeId) (parts : List (Nat × Operand)) : Option (List SV) :=
  match T t with
  | some { zero := z, desc := .struct fs, .. } => match placesOf T fs with | some pl => fillX T (lnth pl) S.ev parts (z.map .raw) | none => none
  | some { zero := z, desc := .array _ e, .. } => match T e with | some te => fillX T (fun i => some (i * te.size, te.size)) S.ev parts (z.map .raw) | none => none
  | _ => none
def zeros (z : List Value) (n : Nat) : List SV := ((List.range (n * z.length)).map fun i => z.getD (i % z.length) undef).map .raw
def buildSliceX (T : TyTab) (S : St) (t : TypeId) (n : Nat) (parts : List (Nat × Operand)) : Option (TypeId × Nat × List SV) :=
  match T t with
  | some { desc := .slice e, .. } =>
    match T e with
    | some te => bif Nat.ble (n * te.size) 16777216 && Nat.beq te.zero.length te.size then (match fillX T (fun i => some (i * te.size, te.size)) S.ev parts (zeros te.zero n) with | some cs => some (e, te.size, cs) | none => none) else none
    | none => none
  | _ => none
def setCells (cs : List SV) (off : Nat) (c : CV) (size : Nat) : Option (List SV) :=
  bif (Nat.beq c.cells.length size && Nat.ble (off + c.cells.length) cs.length) && c.fine then some (laid cs off c.cells) else none
def storeX (T : TyTab) (M : Mem) (t : TypeId) (s : SV) (y : CV) : Option (Nat × Chunk) :=
  match s with
  | .ptr c i sz j =>
    match T t, M.get c with
    | some td, some (.cells e cs) => match setCells cs (i * sz + j) y td.size with | some cs' => some (c, .cells e cs') | none => none
    | _, _ => none
  | _ => none
def stepOp1 (T : TyTab) : Step := fun S d o =>
  match o.op with
  | .move x | .assign x => match S.ev x with | some X => some (none, { v := X }, []) | none => none
  | .pick c x y => match S.ev c with | some (.cv (.one (.raw (.bool b)))) => (match b, S.ev x, S.ev y with | true, some X, _ => some (none, { v := X }, []) | false, _, some Y => some (none, { v := Y }, []) | _, _, _ => none) | _ => none
  | .alloc e => match T e with | some td => some (none, { v := XV.sv (.ptr d 0 0 0), upd := [(d, .cells e (td.zero.map .raw))] }, []) | none => none
  | .box e x => match S.ev x with | some (.cv c) => bif c.fine && c.cells.all (SV.ok fun i => !Nat.beq i d) then some (none, { v := XV.sv (.ptr d 0 0 0), upd := [(d, .cells e c.cells)] }, []) else none | _ => none
  | .build t parts => match buildX T S t parts.toList with | some cs => some (none, { v := .cv (.agg cs) }, []) | none => none
  | .buildSlice t n parts => match buildSliceX T S t n parts.toList with | some (e, sz, cs) => bif cs.all SV.rawB then some (none, { v := XV.sv (.slc d sz 0 n), upd := [(d, .cells e cs)] }, []) else none | none => none
  | .load t x => match S.ev x with | some (.cv (.one s)) => (match loadX T S.mem t s with | some (np, v, c) => some (np, { v := .cv v }, [c]) | none => none) | _ => none
  | .store t x y => match S.ev x, S.ev y with | some (.cv (.one s)), some (.cv v) => (match storeX T S.mem t s v with | some (c, ch) => some (none, { v := XV.val undef, upd := [(c, ch)], wr := [c] }, [c]) | none => none) | _, _ => none
  | .nilCheck x => match S.ev x with | some (.cv (.one (.ptr c i sz j))) => some (none, { v := XV.sv (.ptr c i sz j) }, []) | some (.cv (.one (.raw (.pointer (some a))))) => some (none, { v := XV.val (.pointer (some a)) }, []) | _ => none
  | .binOp op t x y _ => match S.ev x, S.ev y with | some (.cv (.one a)), some (.cv (.one b)) => valR (binX T op t a b) | _, _ => none
  | .unOp op _ x => match S.ev x with | some (.cv (.one a)) => valR (unX op a) | _ => none
  | .convert src dst x => match T src, T dst, S.ev x with | some _, some { desc := .int k, .. }, some (.cv (.one (.raw (.int _ n)))) => some (none, { v := XV.int k (k.wrap n) }, []) | _, _, _ => none
  | .fieldAddr s x f => match S.ev x, fieldOf T s f with | some (.cv (.one (.ptr c i sz j))), some (ft, off) => (match T ft with | some td => bif Nat.ble 1 td.size then some (none, { v := XV.sv (.ptr c i sz (j + off)) }, []) else none | none => none) | _, _ => none
  | .field s x f => match S.ev x, fieldOf T s f with | some (.cv (.agg cs)), some (ft, off) => (match T ft with | some td => (let sub := (cs.drop off).take td.size; bif Nat.beq sub.length td.size then (match mkCV td.agg sub with | some v => some (none, { v := .cv v }, []) | none => none) else none) | none => none) | _, _ => none
  | .indexAddr t x i => match T t, S.ev x, S.ev i with
    | some { desc := .slice e, .. }, some (.cv (.one (.slc c sz lo len))), some (.cv (.one (.raw (.int _ n)))) => (match T e with | some te => bif Nat.beq te.size sz then some (some (0 ≤ n ∧ n < (len : Int)), { v := XV.sv (.ptr c (lo + n.toNat) sz 0) }, []) else none | none => none)
    | some { desc := .array m e, .. }, some (.cv (.one (.ptr c k sz j))), some (.cv (.one (.raw (.int _ n)))) => (match T e with | some te => some (some (0 ≤ n ∧ n < (m : Int)), { v := XV.sv (.ptr c k sz (j + n.toNat * te.size)) }, []) | none => none)
    | _, _, _ => none
  | .extract x i => match S.ev x with | some (.tup l) => (match lnth l i with | some v => some (none, { v := .cv v }, []) | none => none) | _ => none
  | .call { callee := .builtin .len, args, argTypes } =>
    match args.toList, argTypes.toList with
    | [x], [t] => (match T t, S.ev x with
      | some { desc := .slice _, .. }, some (.cv (.one (.slc _ _ _ n))) => some (none, { v := XV.int .i64 n }, [])
      | some { desc := .slice _, .. }, some (.cv (.one (.raw (.slice _ n _)))) => some (none, { v := XV.int .i64 n }, [])
      | some { desc := .str, .. }, some (.cv (.one (.raw (.string s)))) => some (none, { v := XV.int .i64 s.size }, [])
      | _, _ => none)
    | _, _ => none
  | .slice t x lo hi none => match T t, S.ev x with
    | some { desc := .slice e, .. }, some (.cv (.one (.slc c sz l n))) => (match T e with
      | some te => bif Nat.beq te.size sz then
          (match lo, hi with
           | none, none => some (none, { v := XV.sv (.slc c sz l n) }, [])
           | some a, none => (match S.ev a with | some (.cv (.one (.raw (.int _ p)))) => some (some (0 ≤ p ∧ p ≤ (n : Int)), { v := XV.sv (.slc c sz (l + p.toNat) (n - p.toNat)) }, []) | _ => none)
           | none, some b => (match S.ev b with | some (.cv (.one (.raw (.int _ q)))) => some (some (0 ≤ q ∧ q ≤ (n : Int)), { v := XV.sv (.slc c sz l q.toNat) }, []) | _ => none)
           | some a, some b => (match S.ev a, S.ev b with | some (.cv (.one (.raw (.int _ p)))), some (.cv (.one (.raw (.int _ q)))) => some (some (0 ≤ p ∧ p ≤ q ∧ q ≤ (n : Int)), { v := XV.sv (.slc c sz (l + p.toNat) (q.toNat - p.toNat)) }, []) | _, _ => none))
        else none
      | none => none)
    | _, _ => none
  | _ => none
section
variable {P : Program} {T : TyTab} {S : St} {d : Nat} {o : Oper}
theorem info_of (hT : TabOK P T) {t : TypeId} {td : TyD} (h : T t = some td) : ∃ i u, P.info? t = some i ∧ P.underlying t = some u ∧ i.size = td.size ∧ i.bytes = td.bytes ∧ isAggD u = td.agg ∧ DescOK u td.desc ∧ (∃ z, i.zero = some z ∧ z.cells.toList = td.zero) ∧ td.zero.all (fun v => v.oneCell') = true :=
  (hT t td h).info
theorem run_size (hT : TabOK P T) {t : TypeId} {td : TyD} (h : T t = some td) (w : World) : (sizeOf t).run P w = .ok td.size w := by
  obtain ⟨i, u, h1, _, h3, _⟩ := info_of hT h
  simp [sizeOf, typeInfo, h1, h3]
theorem run_zero (hT : TabOK P T) {t : TypeId} {td : TyD} (h : T t = some td) (w : World) : ∃ z, (zeroValue t).run P w = .ok z w ∧ z.cells.toList = td.zero := by
  obtain ⟨i, u, h1, _, h3, _, _, _, ⟨z, h4, h5⟩, _⟩ := info_of hT h
  exact ⟨z, by simp [zeroValue, typeInfo, h1, h4], h5⟩
theorem under_slice (hT : TabOK P T) {t : TypeId} {td : TyD} {e : TypeId} (h : T t = some td) (hd : td.desc = .slice e) : P.underlying t = some (.slice e) := by
  obtain ⟨u, h1, h2⟩ := desc_under hT h
  rw [hd] at h2
  cases u <;> simp [DescOK] at h2
  rw [h1, h2]
theorem under_array (hT : TabOK P T) {t : TypeId} {td : TyD} {n : Nat} {e : TypeId} (h : T t = some td) (hd : td.desc = .array n e) : P.underlying t = some (.array n e) := by
  obtain ⟨u, h1, h2⟩ := desc_under hT h
  rw [hd] at h2
  cases u <;> simp [DescOK] at h2
  rw [h1, h2.1, h2.2]
theorem under_int (hT : TabOK P T) {t : TypeId} {td : TyD} {k : IntKind} (h : T t = some td) (hd : td.desc = .int k) : P.underlying t = some (.int k) := by
  obtain ⟨u, h1, h2⟩ := desc_under hT h
  rw [hd] at h2
  cases u <;> simp [DescOK] at h2
  rw [h1, h2]
theorem under_str (hT : TabOK P T) {t : TypeId} {td : TyD} (h : T t = some td) (hd : td.desc = .str) : P.underlying t = some .string := by
  obtain ⟨u, h1, h2⟩ := desc_under hT h
  rw [hd] at h2
  cases u <;> simp [DescOK] at h2
  rw [h1]
theorem under_struct (hT : TabOK P T) {t : TypeId} {td : TyD} {fs : List (TypeId × Nat)} (h : T t = some td) (hd : td.desc = .struct fs) : ∃ fl : Array Field, P.underlying t = some (.struct fl) ∧ fl.toList.map (fun f => (f.type, f.offset)) = fs := by
  obtain ⟨u, h1, h2⟩ := desc_under hT h
  rw [hd] at h2
  cases u <;> simp [DescOK] at h2
  exact ⟨_, h1, by simpa using h2⟩
theorem fieldOf_ok (hT : TabOK P T) {s : TypeId} {f : Nat} {ft off : Nat} (h : fieldOf T s f = some (ft, off)) : ∃ (fl : Array Field) (fd : Field), P.underlying s = some (.struct fl) ∧ fl[f]? = some fd ∧ fd.type = ft ∧ fd.offset = off := by
  unfold fieldOf at h
  split at h
  · rename_i size bytes agg zero fs hs
    obtain ⟨fl, h1, h2⟩ := under_struct hT hs rfl
    rw [lnth_eq, ← h2, List.getElem?_map] at h
    cases hf : fl.toList[f]? with
    | none => simp [hf] at h
    | some fd =>
      simp only [hf, Option.map_some, Option.some.injEq, Prod.mk.injEq] at h
      exact ⟨fl, fd, h1, by simpa using hf, h.1, h.2⟩
  · cases h
theorem pure_op {X : XV} (h : ∀ β (w : World) (a : Act), (∀ x ∈ o.op.operands, ∀ X, S.ev x = some X → X.rel β (a.eval x)) → ∃ x, (execOp a.eval o).run P w = .ok (.value x) w ∧ X.rel β x) : OpSound P S d o { v := X } [] :=
  read_op fun β _ w a _ hx _ => h β w a hx
theorem places_ok (hT : TabOK P T) : ∀ (fl : List Field) (pl : List (Nat × Nat)), placesOf T (fl.map fun f => (f.type, f.offset)) = some pl → (fl.mapM fun f => (P.info? f.type).map fun i => (f.offset, i.size)) = some pl
  | [], pl, h => by simp [placesOf] at h; subst h; rfl
  | f :: fl, pl, h => by
    simp only [List.map_cons, placesOf] at h
    split at h
    · rename_i td l h1 h2
      cases h
      obtain ⟨i, u, h3, _, h4, _⟩ := info_of hT h1
      have ih := places_ok hT fl l h2
      simp [List.mapM_cons, h3, h4, ih]
    · cases h
theorem zero_one {z : List Value} (h : z.all (fun v => v.oneCell') = true) : (z.map SV.raw).all SV.one = true := by
  simp only [List.all_map, List.all_eq_true, Function.comp] at h ⊢
  exact h
theorem build_ok (hT : TabOK P T) {t : TypeId} {parts : Array (Nat × Operand)} {cs : List SV} (h : buildX T S t parts.toList = some cs) {β : Nat → Loc} {w : World} {a : Act} (hx : ∀ x ∈ parts.toList, ∀ X, S.ev x.2 = some X → X.rel β (a.eval x.2)) :
    ∃ arr : Array Value, (Instr.build t (parts.map fun (i, x) => (i, a.eval x))).run P w = .ok (.agg arr) w ∧ Rels β cs arr.toList := by
  have hl : (parts.map fun (i, x) => (i, a.eval x)).toList = parts.toList.map fun x => (x.1, a.eval x.2) := by simp
  unfold buildX at h
  split at h
  · rename_i size bytes agg z fs ht
    obtain ⟨fl, hu, hfl⟩ := under_struct hT ht rfl
    obtain ⟨i, u, h1, h2, h3, _, _, _, ⟨zv, h4, h5⟩, h6⟩ := info_of hT ht
    split at h
    · rename_i pl hpl
      rw [← hfl] at hpl
      have hp := places_ok hT _ _ hpl
      obtain ⟨arr', e1, e2, e3⟩ := fillX_sound (ρ := a.eval) parts.toList (z.map .raw) cs zv.cells hx h (by simp only at h5; rw [h5]; exact Rels.raw z) (zero_one h6)
      refine ⟨arr', ?_, e2⟩
      refine run_build w t _ arr' ?_
      simp only [Program.built, h1, hu, h4, hp]
      rw [hl, ← e1]
      congr 1
      funext x
      simp [lnth_eq]
    · cases h
  · rename_i size bytes agg z n e ht
    have hu := under_array hT ht rfl
    obtain ⟨i, u, h1, h2, h3, _, _, _, ⟨zv, h4, h5⟩, h6⟩ := info_of hT ht
    split at h
    · rename_i te hte
      obtain ⟨ie, ue, g1, _, g3, _⟩ := info_of hT hte
      obtain ⟨arr', e1, e2, e3⟩ := fillX_sound (ρ := a.eval) parts.toList (z.map .raw) cs zv.cells hx h (by simp only at h5; rw [h5]; exact Rels.raw z) (zero_one h6)
      refine ⟨arr', ?_, e2⟩
      refine run_build w t _ arr' ?_
      simp only [Program.built, h1, hu, h4, g1, g3]
      rw [hl]
      exact e1
    · cases h
  · cases h
end
open Go.RowKit
section
variable {P : Program} {T : TyTab} {S : St} {d : Nat} {o : Oper}
theorem run_newVar (t : TypeId) (v : Value) (w : World) : (newVar t v).run P w = .ok ⟨w.heap.size, 0, none⟩ (w.alloc (.cells v.cells t)) := by
  simp [newVar, newRow]
theorem eval_sv {β : Nat → Loc} {a : Act} (hx : ∀ x ∈ o.op.operands, ∀ X, S.ev x = some X → X.rel β (a.eval x)) {x : Operand} (hm : x ∈ o.op.operands) {s : SV} (h : S.ev x = some (.cv (.one s))) : s.rel β (a.eval x) := hx x hm _ h
theorem slc_slice {β : Nat → Loc} {c sz l n p q : Nat} {x : Value} (hx : (SV.slc c sz l n).rel β x) (h1 : p ≤ q) (h2 : q ≤ n) : ∃ a cap, x = .slice a n cap ∧ q ≤ cap ∧ (SV.slc c sz (l + p) (q - p)).rel β (.slice (if cap = p then a else a.map (·.add (p * sz))) (q - p) (cap - p)) := by
  simp only [SV.rel] at hx
  by_cases hn : (β c).nil = true
  · rw [if_pos hn] at hx
    obtain ⟨rfl, rfl, rfl⟩ := hx
    obtain rfl : q = 0 := by omega
    obtain rfl : p = 0 := by omega
    refine ⟨none, 0, rfl, Nat.le_refl _, ?_⟩
    simp only [SV.rel, if_pos hn]
    simp
  · rw [if_neg hn] at hx
    obtain ⟨a, rfl, h3, h4⟩ := hx
    refine ⟨some a, (β c).cap - l, rfl, by omega, ?_⟩
    simp only [SV.rel, if_neg hn]
    by_cases he : (β c).cap - l = p
    · rw [if_pos he]
      exact ⟨a, by rw [Nat.sub_sub], by omega, fun hlt => by omega⟩
    · rw [if_neg he]
      refine ⟨a.add (p * sz), by rw [Nat.sub_sub, Option.map_some], by omega, fun hlt => ?_⟩
      rw [h4 (by omega), loc_add, Nat.add_mul]
theorem sliceBound_ok {k : IntKind} {i : Int} {y : Nat} (h0 : 0 ≤ i) (h1 : i ≤ y) (code : BoundsCode) (w : World) : (Instr.sliceBound (.int k i) y code).run P w = .ok i.toNat w := by
  simp [Instr.sliceBound, asIntOf, h0, h1]
theorem run_slice_sl {t e : TypeId} {te : TyD} (hT : TabOK P T) (hu : P.underlying t = some (.slice e)) (he : T e = some te) {a : Option Addr} {n cap : Nat} {lo hi : Option Value} {p q : Nat} (hhi : (∃ k v, hi = some (.int k v) ∧ 0 ≤ v ∧ v.toNat = q) ∨ hi = none ∧ q = n) (hlo : (∃ k v, lo = some (.int k v) ∧ 0 ≤ v ∧ v.toNat = p) ∨ lo = none ∧ p = 0)
    (hpq : p ≤ q) (hq : q ≤ cap) (w : World) : (Instr.sliceAt t (.slice a n cap) lo hi none).run P w = .ok (.slice (if cap = p then a else a.map (·.add (p * te.size))) (q - p) (cap - p)) w := by
  have hsz := run_size (P := P) hT he w
  have hb : (Instr.sliceBounds true n cap lo hi none).run P w = .ok (p, q, cap) w := by
    unfold Instr.sliceBounds
    rcases hhi with ⟨k, v, rfl, h1, h2⟩ | ⟨rfl, rfl⟩
    · have hv : v ≤ (cap : Int) := by omega
      have e1 := sliceBound_ok (P := P) (k := k) h1 hv .sliceAcap w
      rw [h2] at e1
      rcases hlo with ⟨k', v', rfl, h3, h4⟩ | ⟨rfl, rfl⟩
      · have hv' : v' ≤ (q : Int) := by omega
        have e2 := sliceBound_ok (P := P) (k := k') h3 hv' .sliceB w
        rw [h4] at e2
        simp [e1, e2]
      · simp [e1]
    · rcases hlo with ⟨k', v', rfl, h3, h4⟩ | ⟨rfl, rfl⟩
      · have hv' : v' ≤ (q : Int) := by omega
        have e2 := sliceBound_ok (P := P) (k := k') h3 hv' .sliceB w
        rw [h4] at e2
        simp [e2]
      · simp
  simp [Instr.sliceAt, run_underlying hu, Instr.slice, hb, hsz]
theorem store_op (hT : TabOK P T) {t : TypeId} {x y : Operand} (ho : o.op = .store t x y) {s : SV} {v : CV} (hx : S.ev x = some (.cv (.one s))) (hy : S.ev y = some (.cv v)) {c : Nat} {ch : Chunk} (h : storeX T S.mem t s v = some (c, ch)) : OpSound P S d o { v := XV.val undef, upd := [(c, ch)], wr := [c] } [c] := by
  intro β ow w a K Q hw _ hops hr hK
  have hmx : x ∈ o.op.operands := by rw [ho]; simp [Op.operands]
  have hmy : y ∈ o.op.operands := by rw [ho]; simp [Op.operands]
  have h1 := hops x hmx _ hx
  have h2 := hops y hmy _ hy
  cases s with
  | ptr c0 i sz j =>
    simp only [storeX] at h
    split at h
    · rename_i td e cs htd hm
      cases hb : setCells cs (i * sz + j) v td.size with
      | none => simp [hb] at h
      | some cs' =>
        simp only [hb, Option.some.injEq, Prod.mk.injEq] at h
        obtain ⟨rfl, rfl⟩ := h
        unfold setCells at hb
        cases hc : ((Nat.beq v.cells.length td.size && Nat.ble (i * sz + j + v.cells.length) cs.length) && v.fine) with
        | false => simp only [hc, cond_false] at hb; cases hb
        | true =>
          simp only [hc, cond_true, Option.some.injEq] at hb
          subst hb
          simp only [nbeq, Bool.and_eq_true, decide_eq_true_eq, Nat.ble_eq] at hc
          obtain ⟨⟨b1, b2⟩, b3⟩ := hc
          obtain ⟨g1, g2, g3, arr, g4, g5⟩ := hr c0 (by simp) _ hm
          obtain ⟨k1, k2⟩ := CV.rel_cells h2 b3
          have hl1 := k1.length
          have hl2 := g5.length
          simp only [Array.length_toList] at hl1 hl2
          have hsz := run_size (P := P) hT htd w
          simp only [XV.rel, CV.rel, SV.rel] at h1
          have hst := run_storeCells_at P (β c0).blk (i * sz + j) e (a.eval y).cells.toList 0 arr w g4 (by simp; omega) k2
          simp only [Nat.add_zero, Array.length_toList] at hst
          have hrun : (execOp a.eval o).run P w = .ok .skip (w.setRow (β c0).blk (arr.toList.take (i * sz + j) ++ (a.eval y).cells.toList ++ arr.toList.drop (i * sz + j + (a.eval y).cells.size)).toArray) := by
            have e0 : (β c0).addr (i * sz + j) = ⟨(β c0).blk, i * sz + j, none⟩ := by simp [Loc.addr, g2]
            have hne : ¬ (a.eval y).cells.size ≠ td.size := by omega
            simp only [execOp, ho, h1, Instr.storeAt, Instr.sureAddr, storeVar, e0, Sem.run_bind, Sem.run_pure, Result.andThen_ok, hsz, if_neg hne, Sem.run_ite, hst]
          refine upon_skip hrun (hK β ow _ undef (Eff.setRow hw d c0 g3 _) rfl (fun c ch hc => ?_))
          simp only [Mem.get, nbeq] at hc
          by_cases hcc : c0 = c
          · subst hcc
            simp only [decide_true, cond_true, Option.some.injEq] at hc
            subst hc
            refine ⟨g1, g2, g3, _, setRow_heap w _ arr _ e _ g4, ?_⟩
            simp only [laid]
            rw [← hl1] 
            simp only [List.append_assoc]
            exact (g5.take _).append (k1.append (g5.drop _))
          · simp [hcc] at hc
    · cases h
  | raw v => simp [storeX] at h
  | slc c sz lo len => simp [storeX] at h
  | map c => simp [storeX] at h
  | inn c j => simp [storeX] at h
  | sla c off sz len cap => simp [storeX] at h
  | ins c m j len => simp [storeX] at h
  | fn f caps => simp [storeX] at h
set_option maxHeartbeats 1000000 in
theorem stepOp1_sound (hT : TabOK P T) : StepSound P (stepOp1 T) := by
  intro S d o np r rd h hnp
  unfold stepOp1 at h
  split at h
  · -- move
    rename_i x ho
    split at h
    · rename_i X hX
      cases h
      exact pure_op fun β w a hx => ⟨_, by simp [execOp, ho], hx x (by rw [ho]; simp [Op.operands]) X hX⟩
    · cases h
  · -- assign
    rename_i x ho
    split at h
    · rename_i X hX
      cases h
      exact pure_op fun β w a hx => ⟨_, by simp [execOp, ho], hx x (by rw [ho]; simp [Op.operands]) X hX⟩
    · cases h
  · -- pick
    rename_i c x y ho
    split at h
    · rename_i b hc
      split at h
      · rename_i X hX
        cases h
        refine pure_op fun β w a hx => ⟨a.eval x, ?_, hx x (by rw [ho]; simp [Op.operands]) X hX⟩
        have := hx c (by rw [ho]; simp [Op.operands]) _ hc
        simp only [XV.rel, CV.rel, SV.rel] at this
        simp [execOp, ho, this, asBool]
      · rename_i Y hY
        cases h
        refine pure_op fun β w a hx => ⟨a.eval y, ?_, hx y (by rw [ho]; simp [Op.operands]) Y hY⟩
        have := hx c (by rw [ho]; simp [Op.operands]) _ hc
        simp only [XV.rel, CV.rel, SV.rel] at this
        simp [execOp, ho, this, asBool]
      · cases h
    · cases h
  · -- alloc
    rename_i e ho
    split at h
    · rename_i td htd
      cases h
      refine alloc_op (L := fun w => ⟨w.heap.size, 0, 0, false, fun _ => 0⟩) (fun w => ⟨rfl, rfl, rfl⟩) (by simp [List.all_map, Function.comp_def, SV.ok]) fun β w a hx => ?_
      obtain ⟨z, h1, h2⟩ := run_zero (P := P) hT htd w
      refine ⟨.pointer (some ⟨w.heap.size, 0, none⟩), z.cells, ?_, by rw [h2]; exact Rels.raw _, ?_⟩
      · simp [execOp, ho, Instr.alloc, h1, run_newVar]
      · simp [XV.rel, CV.rel, SV.rel, setβ, Loc.addr]
    · cases h
  · -- box
    rename_i e x ho
    split at h
    · rename_i c hc
      cases hb : (c.fine && c.cells.all (SV.ok fun i => !Nat.beq i d)) with
      | false => simp only [hb, cond_false] at h; cases h
      | true =>
        simp only [hb, cond_true] at h
        cases h
        simp only [Bool.and_eq_true] at hb
        refine alloc_op (L := fun w => ⟨w.heap.size, 0, 0, false, fun _ => 0⟩) (fun w => ⟨rfl, rfl, rfl⟩) hb.2 fun β w a hx => ?_
        have h1 := hx x (by rw [ho]; simp [Op.operands]) _ hc
        refine ⟨.pointer (some ⟨w.heap.size, 0, none⟩), (a.eval x).cells, ?_, (CV.rel_cells h1 hb.1).1, ?_⟩
        · simp [execOp, ho, Instr.box, run_newVar]
        · simp [XV.rel, CV.rel, SV.rel, setβ, Loc.addr]
    · cases h
  · -- build
    rename_i t parts ho
    split at h
    · rename_i cs hcs
      cases h
      refine pure_op fun β w a hx => ?_
      obtain ⟨arr, h1, h2⟩ := build_ok (P := P) hT hcs (β := β) (w := w) (a := a) (fun y hy X hX => hx y.2 (by rw [ho]; simp only [Op.operands]; simp; exact ⟨y.1, by simpa using hy⟩) X hX)
      exact ⟨.agg arr, by simp [execOp, ho, h1], arr, rfl, h2⟩
    · cases h
  · -- buildSlice
    rename_i t n parts ho
    split at h
    · rename_i e sz cs hcs
      cases hbr : cs.all SV.rawB with
      | false => simp only [hbr, cond_false] at h; cases h
      | true =>
        have hb : cs.all (SV.ok fun i => !Nat.beq i d) = true := by
          simp only [List.all_eq_true] at hbr ⊢
          intro s hs
          have := hbr s hs
          cases s <;> first | rfl | cases this
        simp only [hbr, cond_true] at h
        cases h
        unfold buildSliceX at hcs
        split at hcs
        · rename_i size bytes agg z e' ht
          have hu := under_slice hT ht rfl
          split at hcs
          · rename_i te hte
            cases hb2 : (Nat.ble (n * te.size) 16777216 && Nat.beq te.zero.length te.size) with
            | false => simp only [hb2, cond_false] at hcs; cases hcs
            | true =>
              simp only [hb2, cond_true] at hcs
              split at hcs
              · rename_i cs' hf
                cases hcs
                simp only [Bool.and_eq_true, Nat.ble_eq, nbeq, decide_eq_true_eq] at hb2
                refine alloc_op (L := fun w => ⟨w.heap.size, 0, n, false, fun _ => 0⟩) (fun w => ⟨rfl, rfl, rfl⟩) hb fun β w a hx => ?_
                obtain ⟨z', hz1, hz2⟩ := run_zero (P := P) hT hte w
                obtain ⟨_, _, _, _, _, _, _, _, _, h1z⟩ := info_of hT hte
                have hzs : z'.cells.size = te.size := by rw [← Array.length_toList, hz2, hb2.2]
                have hops : ∀ y ∈ parts.toList, ∀ X, S.ev y.2 = some X → X.rel β (a.eval y.2) := fun y hy X hX => hx y.2 (by rw [ho]; simp only [Op.operands]; simp; exact ⟨y.1, by simpa using hy⟩) X hX
                have hzl : z'.cells.size = te.zero.length := by rw [hzs, hb2.2]
                have hz0 : Rels β (zeros te.zero n) ((Array.range (n * te.size)).map fun i => z'.cells[i % z'.cells.size]!).toList := by
                  have e1 : ((Array.range (n * te.size)).map fun i => z'.cells[i % z'.cells.size]!).toList = (List.range (n * te.zero.length)).map fun i => te.zero.getD (i % te.zero.length) undef := by
                    simp only [Array.toList_map, Array.toList_range, hb2.2]
                    apply List.map_congr_left
                    intro i hi
                    have hi' := List.mem_range.1 hi
                    have hpos : 0 < te.size := by
                      rcases Nat.eq_zero_or_pos te.size with h0 | h0
                      · rw [h0] at hi'; simp at hi'
                      · exact h0
                    have hlt : i % te.size < z'.cells.size := by rw [hzs]; exact Nat.mod_lt _ hpos
                    rw [hzs, getElem!_pos z'.cells _ hlt]
                    have : te.zero[i % te.size]? = some z'.cells[i % te.size] := by rw [← hz2]; simp [hlt]
                    simp [List.getD_eq_getElem?_getD, this]
                  rw [e1]
                  exact Rels.raw _
                have hone : (zeros te.zero n).all SV.one = true := by
                  unfold zeros
                  refine zero_one ?_
                  rw [List.all_eq_true]
                  intro v hv
                  obtain ⟨i, hi, rfl⟩ := List.mem_map.1 hv
                  have hi' := List.mem_range.1 hi
                  have hpos : 0 < te.zero.length := by
                    rcases Nat.eq_zero_or_pos te.zero.length with h0 | h0
                    · rw [h0] at hi'; simp at hi'
                    · exact h0
                  have hlt : i % te.zero.length < te.zero.length := Nat.mod_lt _ hpos
                  rw [List.getD_eq_getElem?_getD, List.getElem?_eq_getElem hlt]
                  exact List.all_eq_true.1 h1z _ (List.getElem_mem hlt)
                obtain ⟨arr', e1, e2, e3⟩ := fillX_sound (ρ := a.eval) parts.toList _ _ ((Array.range (n * te.size)).map fun i => z'.cells[i % z'.cells.size]!) hops hf hz0 hone
                refine ⟨.slice (some ⟨w.heap.size, 0, none⟩) n n, arr', ?_, e2, ?_⟩
                · have hsz := run_size (P := P) hT hte w
                  have hle : ¬ n * te.size > 2 ^ 24 := by have := hb2.1; omega
                  have hl : (parts.map fun (i, x) => (i, a.eval x)).toList = parts.toList.map fun x => (x.1, a.eval x.2) := by simp
                  by_cases h0 : n * te.size = 0
                  · have e1' : Instr.fill (fun i => some (i * te.size, te.size)) ((Array.range (n * te.size)).map fun i => (#[] : Array Value)[i % (#[] : Array Value).size]!) (parts.toList.map fun x => (x.1, a.eval x.2)) = some arr' := by
                      rw [← e1]; congr 1; simp [h0]
                    simp only [execOp, ho, Instr.buildSlice, run_underlying hu, Sem.run_bind, Result.andThen_ok, hsz, if_neg hle, if_pos h0, hl, Sem.run_pure, e1', newRow, run_newObj, World.alloc_eq]
                  · simp only [execOp, ho, Instr.buildSlice, run_underlying hu, Sem.run_bind, Result.andThen_ok, hsz, if_neg hle, if_neg h0, hz1, hl, Sem.run_pure, e1, newRow, run_newObj, World.alloc_eq]
                · simp [XV.rel, CV.rel, SV.rel, setβ, Loc.addr]
              · cases hcs
          · cases hcs
        · cases hcs
    · cases h
  · -- load
    rename_i t x ho
    split at h
    · rename_i s hs
      split at h
      · rename_i np' v c hl
        cases h
        refine read_op fun β ow w a hw hx hr => ?_
        have h1 := eval_sv hx (by rw [ho]; simp [Op.operands]) hs
        obtain ⟨y, h2, h3⟩ := loadX_ok (P := P) (ow := ow) hT hl hnp h1 (hr c (by simp))
        exact ⟨y, by simp [execOp, ho, h2], h3⟩
      · cases h
    · cases h
  · -- store
    rename_i t x y ho
    split at h
    · rename_i s v hs hv
      split at h
      · rename_i c ch hst
        cases h
        exact store_op hT ho hs hv hst
      · cases h
    · cases h
  · -- nilCheck
    rename_i x ho
    split at h
    · rename_i c i sz j hs
      cases h
      refine pure_op fun β w a hx => ?_
      have h1 := eval_sv hx (by rw [ho]; simp [Op.operands]) hs
      simp only [SV.rel] at h1
      exact ⟨_, by simp [execOp, ho, h1], rfl⟩
    · rename_i ad hs
      cases h
      refine pure_op fun β w a hx => ?_
      have h1 := eval_sv hx (by rw [ho]; simp [Op.operands]) hs
      simp only [SV.rel] at h1
      exact ⟨_, by simp [execOp, ho, h1], rfl⟩
    · cases h
  · -- binOp
    rename_i op t x y yt ho
    split at h
    · rename_i s u hs hu
      unfold valR at h
      split at h
      · rename_i p v hv
        cases h
        refine pure_op fun β w a hx => ?_
        have h1 := eval_sv hx (by rw [ho]; simp [Op.operands]) hs
        have h2 := eval_sv hx (by rw [ho]; simp [Op.operands]) hu
        have := binX_ok (P := P) (w := w) hT hv hnp h1 h2 x y
        simp only [Sem.run_bind] at this
        exact ⟨v, by simp only [execOp, ho, Sem.run_bind, this, Result.andThen_ok, Sem.run_pure], rfl⟩
      · cases h
    · cases h
  · -- unOp
    rename_i op t x ho
    split at h
    · rename_i s hs
      unfold valR at h
      split at h
      · rename_i p v hv
        cases h
        refine pure_op fun β w a hx => ?_
        have h1 := eval_sv hx (by rw [ho]; simp [Op.operands]) hs
        exact ⟨v, by simp [execOp, ho, unX_ok (P := P) (w := w) hv h1], rfl⟩
      · cases h
    · cases h
  · -- convert
    rename_i src dst x ho
    split at h
    · rename_i tds size bytes agg z k k' n hsrc hdst hs
      cases h
      refine pure_op fun β w a hx => ?_
      have h1 := eval_sv hx (by rw [ho]; simp [Op.operands]) hs
      simp only [SV.rel] at h1
      obtain ⟨u, hu, _⟩ := desc_under hT hsrc
      have hd := under_int hT hdst rfl
      exact ⟨_, by simp [execOp, ho, h1, convert, run_underlying hu, run_underlying hd, Conv.intToInt], rfl⟩
    · cases h
  · -- fieldAddr
    rename_i s x f ho
    split at h
    · rename_i c i sz j ft off hs hf
      split at h
      · rename_i td htd
        cases hb : Nat.ble 1 td.size with
        | false => simp only [hb, cond_false] at h; cases h
        | true =>
          simp only [hb, cond_true] at h
          cases h
          simp only [Nat.ble_eq] at hb
          refine pure_op fun β w a hx => ?_
          have h1 := eval_sv hx (by rw [ho]; simp [Op.operands]) hs
          simp only [SV.rel] at h1
          obtain ⟨fl, fd, hu, hfd, rfl, rfl⟩ := fieldOf_ok hT hf
          have hsz := run_size (P := P) hT htd w
          refine ⟨.pointer (some ((β c).addr (i * sz + (j + fd.offset)))), ?_, rfl⟩
          have hne : ¬ td.size = 0 := by omega
          simp only [execOp, ho, h1, Instr.fieldAt, run_underlying hu, Sem.run_bind, Result.andThen_ok, hfd, Instr.sureAddr, Sem.run_pure, fieldPlace, hsz, Sem.run_ite, if_neg hne, loc_add, Nat.add_assoc]
      · cases h
    · cases h
  · -- field
    rename_i s x f ho
    split at h
    · rename_i cs ft off hs hf
      split at h
      · rename_i td htd
        cases hb : Nat.beq ((cs.drop off).take td.size).length td.size with
        | false => simp only [hb, cond_false] at h; cases h
        | true =>
          simp only [hb, cond_true] at h
          split at h
          · rename_i v hv
            cases h
            refine pure_op fun β w a hx => ?_
            obtain ⟨arr, h1, h2⟩ := hx x (by rw [ho]; simp [Op.operands]) _ hs
            obtain ⟨fl, fd, hu, hfd, rfl, rfl⟩ := fieldOf_ok hT hf
            have hsz := run_size (P := P) hT htd w
            obtain ⟨i, u, g1, g2, g3, _, g5, _⟩ := info_of hT htd
            have hagg : (isAgg fd.type).run P w = .ok td.agg w := by
              unfold isAgg
              rw [Sem.run_bind, run_underlying g2 w, ← g5]
              cases u <;> rfl
            have hlen := Nat.eq_of_beq_eq_true hb
            have hsub := (h2.drop fd.offset).take td.size
            cases ha : td.agg with
            | true =>
              simp only [ha, mkCV, Option.some.injEq] at hv
              subst hv
              refine ⟨.agg (arr.extract fd.offset (fd.offset + td.size)), ?_, _, rfl, ?_⟩
              · simp [execOp, ho, h1, Instr.field, run_underlying hu, hfd, asAgg, part, hagg, ha, hsz]
              · rw [Array.toList_extract]
                simpa [List.extract] using hsub
            | false =>
              rw [ha] at hv
              cases hsubl : (cs.drop fd.offset).take td.size with
              | nil => rw [hsubl] at hv; simp [mkCV] at hv
              | cons s0 r =>
                cases r with
                | cons _ _ => rw [hsubl] at hv; simp [mkCV] at hv
                | nil =>
                  rw [hsubl] at hv hsub
                  simp only [mkCV, Option.some.injEq] at hv
                  subst hv
                  obtain ⟨y, r, he, hy, _⟩ := hsub
                  have hget : arr[fd.offset]? = some y := by
                    have : ((arr.toList.drop fd.offset).take td.size)[0]? = some y := by rw [he]; rfl
                    rw [List.getElem?_take, List.getElem?_drop] at this
                    split at this
                    · simpa using this
                    · cases this
                  exact ⟨y, by simp [execOp, ho, h1, Instr.field, run_underlying hu, hfd, asAgg, part, hagg, ha, hget], hy⟩
          · cases h
      · cases h
    · cases h
  · -- indexAddr
    rename_i t x i ho
    split at h
    · rename_i size bytes agg z e c sz lo len k n ht hs hi
      split at h
      · rename_i te hte
        cases hb : Nat.beq te.size sz with
        | false => simp only [hb, cond_false] at h; cases h
        | true =>
          simp only [hb, cond_true] at h
          cases h
          have hb := Nat.eq_of_beq_eq_true hb
          obtain ⟨hn0, hn1⟩ := hnp _ rfl
          refine pure_op fun β w a hx => ?_
          have h1 := eval_sv hx (by rw [ho]; simp [Op.operands]) hs
          have h2 := eval_sv hx (by rw [ho]; simp [Op.operands]) hi
          simp only [SV.rel] at h1 h2
          have hu := under_slice hT ht rfl
          have hsz := run_size (P := P) hT hte w
          by_cases hn : (β c).nil = true
          · rw [if_pos hn] at h1; omega
          · rw [if_neg hn] at h1
            obtain ⟨ad, h3, h4, h5⟩ := h1
            refine ⟨.pointer (some ((β c).addr ((lo + n.toNat) * sz + 0))), ?_, rfl⟩
            have e5 := h5 (by omega)
            simp only [execOp, ho, h2, h3, Instr.indexAt, asIntOf, run_underlying hu, Sem.run_bind, Sem.run_pure, Result.andThen_ok]
            simp [hn0, hn1, hsz, e5, loc_add, Nat.add_mul, hb]
      · cases h
    · rename_i size bytes agg z m e c k sz j kk n ht hs hi
      split at h
      · rename_i te hte
        cases h
        obtain ⟨hn0, hn1⟩ := hnp _ rfl
        refine pure_op fun β w a hx => ?_
        have h1 := eval_sv hx (by rw [ho]; simp [Op.operands]) hs
        have h2 := eval_sv hx (by rw [ho]; simp [Op.operands]) hi
        simp only [SV.rel] at h1 h2
        have hu := under_array hT ht rfl
        have hsz := run_size (P := P) hT hte w
        refine ⟨.pointer (some ((β c).addr (k * sz + (j + n.toNat * te.size)))), ?_, rfl⟩
        simp only [execOp, ho, h2, h1, Instr.indexAt, asIntOf, run_underlying hu, Sem.run_bind, Sem.run_pure, Result.andThen_ok]
        simp [hn0, hn1, hsz, loc_add, Instr.sureAddr, Nat.add_assoc]
      · cases h
    · cases h
  · -- extract
    rename_i x i ho
    split at h
    · rename_i l hs
      split at h
      · rename_i v hv
        cases h
        refine pure_op fun β w a hx => ?_
        obtain ⟨arr, h1, h2⟩ := hx x (by rw [ho]; simp [Op.operands]) _ hs
        rw [lnth_eq] at hv
        obtain ⟨y, h3, h4⟩ := h2.get i v hv
        exact ⟨y, by simp [execOp, ho, h1, Instr.extract, show arr[i]? = some y by simpa using h3], h4⟩
      · cases h
    · cases h
  · -- len
    rename_i args argTypes ho
    split at h
    · rename_i x t ha hta
      have ha' : args = #[x] := by cases args; simp at ha; rw [ha]
      have hta' : argTypes = #[t] := by cases argTypes; simp at hta; rw [hta]
      subst ha' hta'
      split at h
      · rename_i size bytes agg z e c sz lo n ht hs
        cases h
        refine pure_op fun β w a hx => ?_
        have h1 := eval_sv hx (by rw [ho]; simp [Op.operands, Call.operands]) hs
        have hu := under_slice hT ht rfl
        refine ⟨.int .i64 n, ?_, rfl⟩
        simp only [SV.rel] at h1
        split at h1
        · obtain ⟨h1, _, rfl⟩ := h1
          simp [execOp, ho, resolve, invoke, builtin, Builtin.len_, run_underlying hu, h1, goInt]
        · obtain ⟨ad, h1, _⟩ := h1
          simp [execOp, ho, resolve, invoke, builtin, Builtin.len_, run_underlying hu, h1, goInt]
      · rename_i size bytes agg z e ad n cp ht hs
        cases h
        refine pure_op fun β w a hx => ?_
        have h1 := eval_sv hx (by rw [ho]; simp [Op.operands, Call.operands]) hs
        have hu := under_slice hT ht rfl
        simp only [SV.rel] at h1
        exact ⟨.int .i64 n, by simp [execOp, ho, resolve, invoke, builtin, Builtin.len_, run_underlying hu, h1, goInt], rfl⟩
      · rename_i size bytes agg z s ht hs
        cases h
        refine pure_op fun β w a hx => ?_
        have h1 := eval_sv hx (by rw [ho]; simp [Op.operands, Call.operands]) hs
        have hu := under_str hT ht rfl
        simp only [SV.rel] at h1
        exact ⟨.int .i64 s.size, by simp [execOp, ho, resolve, invoke, builtin, Builtin.len_, run_underlying hu, h1, goInt], rfl⟩
      · cases h
    · cases h
  · -- slice
    rename_i t x lo hi ho
    split at h
    · rename_i size bytes agg z e c sz l n ht hs
      split at h
      · rename_i te hte
        cases hb : Nat.beq te.size sz with
        | false => simp only [hb, cond_false] at h; cases h
        | true =>
          simp only [hb, cond_true] at h
          have hb := Nat.eq_of_beq_eq_true hb
          have hu := under_slice hT ht rfl
          have fin : ∀ (p q : Nat) (X : XV), X = XV.sv (.slc c sz (l + p) (q - p)) → (∀ β (a : Act), (∀ x ∈ o.op.operands, ∀ X, S.ev x = some X → X.rel β (a.eval x)) →
              p ≤ q ∧ q ≤ n ∧ ((∃ k v, hi.map a.eval = some (.int k v) ∧ 0 ≤ v ∧ v.toNat = q) ∨ hi.map a.eval = none ∧ q = n) ∧ ((∃ k v, lo.map a.eval = some (.int k v) ∧ 0 ≤ v ∧ v.toNat = p) ∨ lo.map a.eval = none ∧ p = 0)) → OpSound P S d o { v := X } [] := by
            intro p q X hX hh
            subst hX
            refine pure_op fun β w a hx => ?_
            obtain ⟨h1, h2, h3, h4⟩ := hh β a hx
            have h5 := eval_sv hx (by rw [ho]; simp [Op.operands]) hs
            obtain ⟨ad, cap, h6, h7, h8⟩ := slc_slice h5 h1 h2
            have := run_slice_sl (P := P) hT hu hte (a := ad) (n := n) (cap := cap) h3 h4 h1 h7 w
            rw [hb] at this
            exact ⟨_, by simp [execOp, ho, h6, this], h8⟩
          split at h
          · cases h
            exact fin 0 n _ (by simp) fun β a hx => ⟨Nat.zero_le _, Nat.le_refl _, .inr ⟨rfl, rfl⟩, .inr ⟨rfl, rfl⟩⟩
          · rename_i a'
            split at h
            · rename_i k p hp
              cases h
              obtain ⟨h1, h2⟩ := hnp _ rfl
              refine fin p.toNat n _ rfl fun β a hx => ?_
              have h3 := eval_sv hx (x := a') (by rw [ho]; simp [Op.operands]) hp
              exact ⟨by omega, Nat.le_refl _, .inr ⟨rfl, rfl⟩, .inl ⟨k, p, by simp only [Option.map_some]; rw [h3], h1, rfl⟩⟩
            · cases h
          · rename_i b'
            split at h
            · rename_i k q hq
              cases h
              obtain ⟨h1, h2⟩ := hnp _ rfl
              refine fin 0 q.toNat _ (by simp) fun β a hx => ?_
              have h3 := eval_sv hx (x := b') (by rw [ho]; simp [Op.operands]) hq
              exact ⟨Nat.zero_le _, by omega, .inl ⟨k, q, by simp only [Option.map_some]; rw [h3], h1, rfl⟩, .inr ⟨rfl, rfl⟩⟩
            · cases h
          · rename_i a' b'
            split at h
            · rename_i k p k' q hp hq
              cases h
              obtain ⟨h1, h2, h3⟩ := hnp _ rfl
              refine fin p.toNat q.toNat _ rfl fun β a hx => ?_
              have h4 := eval_sv hx (x := a') (by rw [ho]; simp [Op.operands]) hp
              have h5 := eval_sv hx (x := b') (by rw [ho]; simp [Op.operands]) hq
              exact ⟨by omega, by omega, .inl ⟨k', q, by simp only [Option.map_some]; rw [h5], by omega, rfl⟩, .inl ⟨k, p, by simp only [Option.map_some]; rw [h4], h1, rfl⟩⟩
            · cases h
      · cases h
    · cases h
  · cases h
end
end Go.Sx
