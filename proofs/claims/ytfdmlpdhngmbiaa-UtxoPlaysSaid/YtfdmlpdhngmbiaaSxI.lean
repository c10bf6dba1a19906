/- Symbolic states for walks, part I: the step, and that it is sound. -/
import Derived.Test.YtfdmlpdhngmbiaaSxH
namespace Go.Sx
open Go.RowKit

abbrev ORes := Option (Option Prop × Res × List Nat)

def valR (v : VRes) : ORes := match v with | some (p, x) => some (p, { v := XV.val x }, []) | none => none

/-- A field's type and place. -/
def fieldOf (T : TyTab) (s : TypeId) (f : Nat) : Option (TypeId × Nat) :=
  match T s with
  | some { desc := .struct fs, .. } => lnth fs f
  | _ => none

def placesOf (T : TyTab) (fs : List (TypeId × Nat)) : Option (List (Nat × Nat)) :=
  match fs with
  | [] => some []
  | (t, off) :: r => match T t, placesOf T r with | some td, some l => some ((off, td.size) :: l) | _, _ => none

def buildX (T : TyTab) (S : St) (t : TypeId) (parts : List (Nat × Operand)) : Option (List SV) :=
  match T t with
  | some { zero := z, desc := .struct fs, .. } => match placesOf T fs with | some pl => fillX T (lnth pl) S.ev parts (z.map .raw) | none => none
  | some { zero := z, desc := .array _ e, .. } => match T e with | some te => fillX T (fun i => some (i * te.size, te.size)) S.ev parts (z.map .raw) | none => none
  | _ => none

def zeros (z : List Value) (n : Nat) : List SV := ((List.range (n * z.length)).map fun i => z.getD (i % z.length) undef).map .raw

def buildSliceX (T : TyTab) (S : St) (t : TypeId) (n : Nat) (parts : List (Nat × Operand)) : Option (TypeId × Nat × List SV) :=
  match T t with
  | some { desc := .slice e, .. } =>
    match T e with
    | some te => bif Nat.ble (n * te.size) 16777216 && Nat.beq te.zero.length te.size then (match fillX T (fun i => some (i * te.size, te.size)) S.ev parts (zeros te.zero n) with | some cs => some (e, te.size, cs) | none => none) else none
    | none => none
  | _ => none

def setCells (cs : List SV) (off : Nat) (c : CV) (size : Nat) : Option (List SV) :=
  bif (Nat.beq c.cells.length size && Nat.ble (off + c.cells.length) cs.length) && c.fine then some (laid cs off c.cells) else none

def storeX (T : TyTab) (M : Mem) (t : TypeId) (s : SV) (y : CV) : Option (Nat × Chunk) :=
  match s with
  | .ptr c i sz j =>
    match T t, M.get c with
    | some td, some (.cells e cs) => match setCells cs (i * sz + j) y td.size with | some cs' => some (c, .cells e cs') | none => none
    | _, _ => none
  | _ => none

def stepOp (T : TyTab) : Step := fun S d o =>
  match o.op with
  | .move x | .assign x => match S.ev x with | some X => some (none, { v := X }, []) | none => none
  | .pick c x y => match S.ev c with | some (.cv (.one (.raw (.bool b)))) => (match b, S.ev x, S.ev y with | true, some X, _ => some (none, { v := X }, []) | false, _, some Y => some (none, { v := Y }, []) | _, _, _ => none) | _ => none
  | .alloc e => match T e with | some td => some (none, { v := XV.sv (.ptr d 0 0 0), upd := [(d, .cells e (td.zero.map .raw))] }, []) | none => none
  | .box e x => match S.ev x with | some (.cv c) => bif c.fine && c.cells.all (SV.ok fun i => !Nat.beq i d) then some (none, { v := XV.sv (.ptr d 0 0 0), upd := [(d, .cells e c.cells)] }, []) else none | _ => none
  | .build t parts => match buildX T S t parts.toList with | some cs => some (none, { v := .cv (.agg cs) }, []) | none => none
  | .buildSlice t n parts => match buildSliceX T S t n parts.toList with | some (e, sz, cs) => bif cs.all SV.rawB then some (none, { v := XV.sv (.slc d sz 0 n), upd := [(d, .cells e cs)] }, []) else none | none => none
  | .load t x => match S.ev x with | some (.cv (.one s)) => (match loadX T S.mem t s with | some (np, v, c) => some (np, { v := .cv v }, [c]) | none => none) | _ => none
  | .store t x y => match S.ev x, S.ev y with | some (.cv (.one s)), some (.cv v) => (match storeX T S.mem t s v with | some (c, ch) => some (none, { v := XV.val undef, upd := [(c, ch)], wr := [c] }, [c]) | none => none) | _, _ => none
  | .nilCheck x => match S.ev x with | some (.cv (.one (.ptr c i sz j))) => some (none, { v := XV.sv (.ptr c i sz j) }, []) | some (.cv (.one (.raw (.pointer (some a))))) => some (none, { v := XV.val (.pointer (some a)) }, []) | _ => none
  | .binOp op t x y _ => match S.ev x, S.ev y with | some (.cv (.one a)), some (.cv (.one b)) => valR (binX T op t a b) | _, _ => none
  | .unOp op _ x => match S.ev x with | some (.cv (.one a)) => valR (unX op a) | _ => none
  | .convert src dst x => match T src, T dst, S.ev x with | some _, some { desc := .int k, .. }, some (.cv (.one (.raw (.int _ n)))) => some (none, { v := XV.int k (k.wrap n) }, []) | _, _, _ => none
  | .fieldAddr s x f => match S.ev x, fieldOf T s f with | some (.cv (.one (.ptr c i sz j))), some (ft, off) => (match T ft with | some td => bif Nat.ble 1 td.size then some (none, { v := XV.sv (.ptr c i sz (j + off)) }, []) else none | none => none) | _, _ => none
  | .field s x f => match S.ev x, fieldOf T s f with | some (.cv (.agg cs)), some (ft, off) => (match T ft with | some td => (let sub := (cs.drop off).take td.size; bif Nat.beq sub.length td.size then (match mkCV td.agg sub with | some v => some (none, { v := .cv v }, []) | none => none) else none) | none => none) | _, _ => none
  | .indexAddr t x i => match T t, S.ev x, S.ev i with
    | some { desc := .slice e, .. }, some (.cv (.one (.slc c sz lo len))), some (.cv (.one (.raw (.int _ n)))) => (match T e with | some te => bif Nat.beq te.size sz then some (some (0 ≤ n ∧ n < (len : Int)), { v := XV.sv (.ptr c (lo + n.toNat) sz 0) }, []) else none | none => none)
    | some { desc := .array m e, .. }, some (.cv (.one (.ptr c k sz j))), some (.cv (.one (.raw (.int _ n)))) => (match T e with | some te => some (some (0 ≤ n ∧ n < (m : Int)), { v := XV.sv (.ptr c k sz (j + n.toNat * te.size)) }, []) | none => none)
    | _, _, _ => none
  | .extract x i => match S.ev x with | some (.tup l) => (match lnth l i with | some v => some (none, { v := .cv v }, []) | none => none) | _ => none
  | .call { callee := .builtin .len, args, argTypes } =>
    match args.toList, argTypes.toList with
    | [x], [t] => (match T t, S.ev x with
      | some { desc := .slice _, .. }, some (.cv (.one (.slc _ _ _ n))) => some (none, { v := XV.int .i64 n }, [])
      | some { desc := .slice _, .. }, some (.cv (.one (.raw (.slice _ n _)))) => some (none, { v := XV.int .i64 n }, [])
      | some { desc := .str, .. }, some (.cv (.one (.raw (.string s)))) => some (none, { v := XV.int .i64 s.size }, [])
      | _, _ => none)
    | _, _ => none
  | .slice t x lo hi none => match T t, S.ev x with
    | some { desc := .slice e, .. }, some (.cv (.one (.slc c sz l n))) => (match T e with
      | some te => bif Nat.beq te.size sz then
          (match lo, hi with
           | none, none => some (none, { v := XV.sv (.slc c sz l n) }, [])
           | some a, none => (match S.ev a with | some (.cv (.one (.raw (.int _ p)))) => some (some (0 ≤ p ∧ p ≤ (n : Int)), { v := XV.sv (.slc c sz (l + p.toNat) (n - p.toNat)) }, []) | _ => none)
           | none, some b => (match S.ev b with | some (.cv (.one (.raw (.int _ q)))) => some (some (0 ≤ q ∧ q ≤ (n : Int)), { v := XV.sv (.slc c sz l q.toNat) }, []) | _ => none)
           | some a, some b => (match S.ev a, S.ev b with | some (.cv (.one (.raw (.int _ p)))), some (.cv (.one (.raw (.int _ q)))) => some (some (0 ≤ p ∧ p ≤ q ∧ q ≤ (n : Int)), { v := XV.sv (.slc c sz (l + p.toNat) (q.toNat - p.toNat)) }, []) | _, _ => none))
        else none
      | none => none)
    | _, _ => none
  | _ => none

section
variable {P : Program} {T : TyTab} {S : St} {d : Nat} {o : Oper}

theorem info_of (hT : TabOK P T) {t : TypeId} {td : TyD} (h : T t = some td) : ∃ i u, P.info? t = some i ∧ P.underlying t = some u ∧ i.size = td.size ∧ i.bytes = td.bytes ∧ isAggD u = td.agg ∧ DescOK u td.desc ∧ (∃ z, i.zero = some z ∧ z.cells.toList = td.zero) ∧ td.zero.all (fun v => v.oneCell') = true :=
  (hT t td h).info

theorem run_size (hT : TabOK P T) {t : TypeId} {td : TyD} (h : T t = some td) (w : World) : (sizeOf t).run P w = .ok td.size w := by
  obtain ⟨i, u, h1, _, h3, _⟩ := info_of hT h
  simp [sizeOf, typeInfo, h1, h3]
theorem run_zero (hT : TabOK P T) {t : TypeId} {td : TyD} (h : T t = some td) (w : World) : ∃ z, (zeroValue t).run P w = .ok z w ∧ z.cells.toList = td.zero := by
  obtain ⟨i, u, h1, _, h3, _, _, _, ⟨z, h4, h5⟩, _⟩ := info_of hT h
  exact ⟨z, by simp [zeroValue, typeInfo, h1, h4], h5⟩
theorem under_slice (hT : TabOK P T) {t : TypeId} {td : TyD} {e : TypeId} (h : T t = some td) (hd : td.desc = .slice e) : P.underlying t = some (.slice e) := by
  obtain ⟨u, h1, h2⟩ := desc_under hT h
  rw [hd] at h2
  cases u <;> simp [DescOK] at h2
  rw [h1, h2]
theorem under_array (hT : TabOK P T) {t : TypeId} {td : TyD} {n : Nat} {e : TypeId} (h : T t = some td) (hd : td.desc = .array n e) : P.underlying t = some (.array n e) := by
  obtain ⟨u, h1, h2⟩ := desc_under hT h
  rw [hd] at h2
  cases u <;> simp [DescOK] at h2
  rw [h1, h2.1, h2.2]
theorem under_int (hT : TabOK P T) {t : TypeId} {td : TyD} {k : IntKind} (h : T t = some td) (hd : td.desc = .int k) : P.underlying t = some (.int k) := by
  obtain ⟨u, h1, h2⟩ := desc_under hT h
  rw [hd] at h2
  cases u <;> simp [DescOK] at h2
  rw [h1, h2]
theorem under_str (hT : TabOK P T) {t : TypeId} {td : TyD} (h : T t = some td) (hd : td.desc = .str) : P.underlying t = some .string := by
  obtain ⟨u, h1, h2⟩ := desc_under hT h
  rw [hd] at h2
  cases u <;> simp [DescOK] at h2
  rw [h1]
theorem under_struct (hT : TabOK P T) {t : TypeId} {td : TyD} {fs : List (TypeId × Nat)} (h : T t = some td) (hd : td.desc = .struct fs) : ∃ fl : Array Field, P.underlying t = some (.struct fl) ∧ fl.toList.map (fun f => (f.type, f.offset)) = fs := by
  obtain ⟨u, h1, h2⟩ := desc_under hT h
  rw [hd] at h2
  cases u <;> simp [DescOK] at h2
  exact ⟨_, h1, by simpa using h2⟩

theorem fieldOf_ok (hT : TabOK P T) {s : TypeId} {f : Nat} {ft off : Nat} (h : fieldOf T s f = some (ft, off)) : ∃ (fl : Array Field) (fd : Field), P.underlying s = some (.struct fl) ∧ fl[f]? = some fd ∧ fd.type = ft ∧ fd.offset = off := by
  unfold fieldOf at h
  split at h
  · rename_i size bytes agg zero fs hs
    obtain ⟨fl, h1, h2⟩ := under_struct hT hs rfl
    rw [lnth_eq, ← h2, List.getElem?_map] at h
    cases hf : fl.toList[f]? with
    | none => simp [hf] at h
    | some fd =>
      simp only [hf, Option.map_some, Option.some.injEq, Prod.mk.injEq] at h
      exact ⟨fl, fd, h1, by simpa using hf, h.1, h.2⟩
  · cases h

/-- It computes, out of its operands alone. -/
theorem pure_op {X : XV} (h : ∀ β (w : World) (a : Act), (∀ x ∈ o.op.operands, ∀ X, S.ev x = some X → X.rel β (a.eval x)) → ∃ x, (execOp a.eval o).run P w = .ok (.value x) w ∧ X.rel β x) : OpSound P S d o { v := X } [] :=
  read_op fun β _ w a _ hx _ => h β w a hx

theorem value_of {s : Sem Value} {w : World} {x : Value} {w' : World} (h : s.run P w = .ok x w') : (do pure (Next.value (← s)) : Sem Next).run P w = .ok (.value x) w' := by
  simp [h]

theorem places_ok (hT : TabOK P T) : ∀ (fl : List Field) (pl : List (Nat × Nat)), placesOf T (fl.map fun f => (f.type, f.offset)) = some pl → (fl.mapM fun f => (P.info? f.type).map fun i => (f.offset, i.size)) = some pl
  | [], pl, h => by simp [placesOf] at h; subst h; rfl
  | f :: fl, pl, h => by
    simp only [List.map_cons, placesOf] at h
    split at h
    · rename_i td l h1 h2
      cases h
      obtain ⟨i, u, h3, _, h4, _⟩ := info_of hT h1
      have ih := places_ok hT fl l h2
      simp [List.mapM_cons, h3, h4, ih]
    · cases h

theorem zero_one {z : List Value} (h : z.all (fun v => v.oneCell') = true) : (z.map SV.raw).all SV.one = true := by
  simp only [List.all_map, List.all_eq_true, Function.comp] at h ⊢
  exact h

theorem build_ok (hT : TabOK P T) {t : TypeId} {parts : Array (Nat × Operand)} {cs : List SV} (h : buildX T S t parts.toList = some cs) {β : Nat → Loc} {w : World} {a : Act} (hx : ∀ x ∈ parts.toList, ∀ X, S.ev x.2 = some X → X.rel β (a.eval x.2)) :
    ∃ arr : Array Value, (Instr.build t (parts.map fun (i, x) => (i, a.eval x))).run P w = .ok (.agg arr) w ∧ Rels β cs arr.toList := by
  have hl : (parts.map fun (i, x) => (i, a.eval x)).toList = parts.toList.map fun x => (x.1, a.eval x.2) := by simp
  unfold buildX at h
  split at h
  · rename_i size bytes agg z fs ht
    obtain ⟨fl, hu, hfl⟩ := under_struct hT ht rfl
    obtain ⟨i, u, h1, h2, h3, _, _, _, ⟨zv, h4, h5⟩, h6⟩ := info_of hT ht
    split at h
    · rename_i pl hpl
      rw [← hfl] at hpl
      have hp := places_ok hT _ _ hpl
      obtain ⟨arr', e1, e2, e3⟩ := fillX_sound (ρ := a.eval) parts.toList (z.map .raw) cs zv.cells hx h (by simp only at h5; rw [h5]; exact Rels.raw z) (zero_one h6)
      refine ⟨arr', ?_, e2⟩
      refine run_build w t _ arr' ?_
      simp only [Program.built, h1, hu, h4, hp]
      rw [hl, ← e1]
      congr 1
      funext x
      simp [lnth_eq]
    · cases h
  · rename_i size bytes agg z n e ht
    have hu := under_array hT ht rfl
    obtain ⟨i, u, h1, h2, h3, _, _, _, ⟨zv, h4, h5⟩, h6⟩ := info_of hT ht
    split at h
    · rename_i te hte
      obtain ⟨ie, ue, g1, _, g3, _⟩ := info_of hT hte
      obtain ⟨arr', e1, e2, e3⟩ := fillX_sound (ρ := a.eval) parts.toList (z.map .raw) cs zv.cells hx h (by simp only at h5; rw [h5]; exact Rels.raw z) (zero_one h6)
      refine ⟨arr', ?_, e2⟩
      refine run_build w t _ arr' ?_
      simp only [Program.built, h1, hu, h4, g1, g3]
      rw [hl]
      exact e1
    · cases h
  · cases h

end
end Go.Sx
