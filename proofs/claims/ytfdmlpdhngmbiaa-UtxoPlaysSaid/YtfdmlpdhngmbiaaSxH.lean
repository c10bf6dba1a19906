/- Symbolic states for walks, part H: one operation, reckoned. -/
import Derived.Test.YtfdmlpdhngmbiaaSxG
namespace Go.Sx
open Go.RowKit

def kn : IntKind → Nat
  | .i8 => 0 | .i16 => 1 | .i32 => 2 | .i64 => 3 | .u8 => 4 | .u16 => 5 | .u32 => 6 | .u64 => 7
theorem kn_inj {a b : IntKind} (h : Nat.beq (kn a) (kn b) = true) : a = b := by
  cases a <;> cases b <;> first | rfl | (simp [kn] at h)

def bitI (op : BinOp) (k : IntKind) (a b : Int) : Int :=
  match op with
  | .and => k.wrap ((BitVec.ofInt k.bits a &&& BitVec.ofInt k.bits b).toNat : Int)
  | .or => k.wrap ((BitVec.ofInt k.bits a ||| BitVec.ofInt k.bits b).toNat : Int)
  | .xor => k.wrap ((BitVec.ofInt k.bits a ^^^ BitVec.ofInt k.bits b).toNat : Int)
  | _ => k.wrap ((BitVec.ofInt k.bits a &&& ~~~BitVec.ofInt k.bits b).toNat : Int)
def shlI (k : IntKind) (a b : Int) : Int := k.wrap (a * 2 ^ (min b.toNat k.bits))
def shrI (k : IntKind) (a b : Int) : Int := a.fdiv (2 ^ (min b.toNat k.bits))

abbrev VRes := Option (Option Prop × Value)

def intX (op : BinOp) (k : IntKind) (a : Int) (k' : IntKind) (b : Int) : VRes :=
  match op with
  | .shl => some (some (0 ≤ b), .int k (shlI k a b))
  | .shr => some (some (0 ≤ b), .int k (shrI k a b))
  | op =>
    bif Nat.beq (kn k) (kn k') then
      match op with
      | .add => some (none, .int k (k.wrap (a + b)))
      | .sub => some (none, .int k (k.wrap (a - b)))
      | .mul => some (none, .int k (k.wrap (a * b)))
      | .quo => some (some (b ≠ 0), .int k (k.wrap (a.tdiv b)))
      | .rem => some (some (b ≠ 0), .int k (a.tmod b))
      | .and => some (none, .int k (bitI .and k a b))
      | .or => some (none, .int k (bitI .or k a b))
      | .xor => some (none, .int k (bitI .xor k a b))
      | .andNot => some (none, .int k (bitI .andNot k a b))
      | .eql => some (none, .bool (a == b))
      | .neq => some (none, .bool (a != b))
      | .lss => some (none, .bool (decide (a < b)))
      | .leq => some (none, .bool (decide (a ≤ b)))
      | .gtr => some (none, .bool (decide (b < a)))
      | .geq => some (none, .bool (decide (b ≤ a)))
      | _ => none
    else none

def isBool : Desc → Bool | .bool => true | _ => false
def isPtr : Desc → Bool | .ptr => true | _ => false
def isMap : Desc → Bool | .map _ _ => true | _ => false
def isSl : Desc → Bool | .slice _ => true | _ => false

/-- '==' and '!=' of what is known to be alike, or not. -/
def eqX (op : BinOp) (r : Bool) : VRes :=
  match op with
  | .eql => some (none, .bool r)
  | .neq => some (none, .bool (!r))
  | _ => none

def binX (T : TyTab) (op : BinOp) (t : TypeId) (x y : SV) : VRes :=
  match x, y with
  | .raw (.int k a), .raw (.int k' b) => intX op k a k' b
  | .raw (.bool a), .raw (.bool b) => match T t with | some td => bif isBool td.desc then eqX op (a == b) else none | none => none
  | .ptr _ _ _ _, .raw (.pointer none) => match T t with | some td => bif isPtr td.desc then eqX op false else none | none => none
  | .raw (.pointer none), .raw (.pointer none) => match T t with | some td => bif isPtr td.desc then eqX op true else none | none => none
  | .map _, .raw (.map none) => match T t with | some td => bif isMap td.desc then eqX op false else none | none => none
  | .raw (.map none), .raw (.map none) => match T t with | some td => bif isMap td.desc then eqX op true else none | none => none
  | _, _ => none

section
variable {P : Program} {T : TyTab} {w : World} {β : Nat → Loc}

theorem desc_under (hT : TabOK P T) {t : TypeId} {td : TyD} (h : T t = some td) : ∃ u, P.underlying t = some u ∧ DescOK u td.desc := by
  obtain ⟨i, u, _, h2, _, _, _, h6, _⟩ := (hT t td h).info
  exact ⟨u, h2, h6⟩
theorem under_bool (hT : TabOK P T) {t : TypeId} {td : TyD} (h : T t = some td) (hb : isBool td.desc = true) : P.underlying t = some .bool := by
  obtain ⟨u, h1, h2⟩ := desc_under hT h
  cases hd : td.desc <;> simp [hd, isBool] at hb
  rw [hd] at h2
  cases u <;> simp [DescOK] at h2
  exact h1
theorem under_ptr (hT : TabOK P T) {t : TypeId} {td : TyD} (h : T t = some td) (hb : isPtr td.desc = true) : ∃ e, P.underlying t = some (.pointer e) := by
  obtain ⟨u, h1, h2⟩ := desc_under hT h
  cases hd : td.desc <;> simp [hd, isPtr] at hb
  rw [hd] at h2
  cases u <;> simp [DescOK] at h2
  exact ⟨_, h1⟩
theorem under_map (hT : TabOK P T) {t : TypeId} {td : TyD} (h : T t = some td) (hb : isMap td.desc = true) : ∃ k e, P.underlying t = some (.map k e) := by
  obtain ⟨u, h1, h2⟩ := desc_under hT h
  cases hd : td.desc <;> simp [hd, isMap] at hb
  rw [hd] at h2
  cases u <;> simp [DescOK] at h2
  exact ⟨_, _, h1⟩

theorem intX_ok {op : BinOp} {k k' : IntKind} {a b : Int} {np : Option Prop} {v : Value} (h : intX op k a k' b = some (np, v)) (hnp : ∀ p, np = some p → p) (t : TypeId) : (binOp op t (.int k a) (.int k' b)).run P w = .ok v w := by
  have fin : ∀ (p : Option Prop) (u : Value), (some (p, u) : VRes) = some (np, v) → p = np ∧ u = v := by
    intro p u e; cases e; exact ⟨rfl, rfl⟩
  cases op <;> simp only [intX] at h <;> (try (split at h)) <;> try (cases hk : Nat.beq (kn k) (kn k') <;> simp only [hk, cond_false, cond_true] at h)
  all_goals first
    | (cases h; done)
    | (obtain ⟨rfl, rfl⟩ := fin _ _ h
       have hp := hnp
       first
         | (obtain rfl := kn_inj hk; simp [binOp, Op.intArith, Op.intBits, Op.intCmp, bitI]; done)
         | (obtain rfl := kn_inj hk; have h0 := hp _ rfl; simp [binOp, Op.intDiv, h0]; done)
         | (have h0 := hp _ rfl; simp [binOp, Op.shift, shlI, shrI, Int.not_lt.2 h0]; done))

theorem eqX_ok {op : BinOp} {r : Bool} {np : Option Prop} {v : Value} (h : eqX op r = some (np, v)) {t : TypeId} {x y : Value} (hx : ∀ k n, x ≠ .int k n) (hf : ∀ k n, x ≠ .float k n) (hc : ∀ k n m, x ≠ .complex k n m) (hs : ∀ s, x ≠ .string s)
    (he : (Op.equal t x y).run P w = .ok r w) : (binOp op t x y).run P w = .ok v w := by
  cases op <;> simp only [eqX] at h <;> cases h
  all_goals (cases x <;> first | exact absurd rfl (hx _ _) | exact absurd rfl (hf _ _) | exact absurd rfl (hc _ _ _) | exact absurd rfl (hs _) | (cases y <;> simp [binOp, he]))

theorem equal_bool {t : TypeId} (hu : P.underlying t = some .bool) (a b : Bool) : (Op.equal t (.bool a) (.bool b)).run P w = .ok (a == b) w := by
  have key : ∀ d, (Op.equalIn (d + 1) t (.bool a) (.bool b)).run P w = .ok (a == b) w := fun d => by simp [Op.equalIn, run_underlying hu]
  exact key 9999
theorem equal_ptr_nil {t e : TypeId} (hu : P.underlying t = some (.pointer e)) (a : Option Addr) : (Op.equal t (.pointer a) (.pointer none)).run P w = .ok a.isNone w := by
  have key : ∀ d, (Op.equalIn (d + 1) t (.pointer a) (.pointer none)).run P w = .ok a.isNone w := fun d => by cases a <;> simp [Op.equalIn, run_underlying hu]
  exact key 9999
theorem equal_map_nil {t k e : TypeId} (hu : P.underlying t = some (.map k e)) (a : Option Nat) : (Op.equal t (.map a) (.map none)).run P w = .ok a.isNone w := by
  have key : ∀ d, (Op.equalIn (d + 1) t (.map a) (.map none)).run P w = .ok a.isNone w := fun d => by cases a <;> simp [Op.equalIn, run_underlying hu]
  exact key 9999

theorem binX_ok (hT : TabOK P T) {op : BinOp} {t : TypeId} {x y : SV} {np : Option Prop} {v : Value} (h : binX T op t x y = some (np, v)) (hnp : ∀ p, np = some p → p) {a b : Value} (ha : x.rel β a) (hb : y.rel β b) (ox oy : Operand) :
    (do eqGuard op t ox oy a b; binOp op t a b : Sem Value).run P w = .ok v w := by
  unfold binX at h
  split at h
  · cases ha; cases hb
    have := intX_ok (P := P) (w := w) h hnp t
    simp [eqGuard_at_int, this]
  · rename_i x0 y0
    cases ha; cases hb
    split at h
    · rename_i td htd
      cases hb : isBool td.desc with
      | false => simp [hb] at h
      | true =>
        simp only [hb, cond_true] at h
        have hu := under_bool hT htd hb
        have := eqX_ok (P := P) (w := w) h (t := t) (x := .bool x0) (y := .bool y0) (by simp) (by simp) (by simp) (by simp) (equal_bool hu _ _)
        simp [eqGuard_at_bool, this]
    · cases h
  · simp only [SV.rel] at ha hb; subst ha; subst hb
    split at h
    · rename_i td htd
      cases hb : isPtr td.desc with
      | false => simp [hb] at h
      | true =>
        simp only [hb, cond_true] at h
        obtain ⟨e, hu⟩ := under_ptr hT htd hb
        have := fun ad => eqX_ok (P := P) (w := w) h (t := t) (x := .pointer (some ad)) (y := .pointer none) (by simp) (by simp) (by simp) (by simp) (equal_ptr_nil hu _)
        simp [eqGuard_at_pointer, this]
    · cases h
  · cases ha; cases hb
    split at h
    · rename_i td htd
      cases hb : isPtr td.desc with
      | false => simp [hb] at h
      | true =>
        simp only [hb, cond_true] at h
        obtain ⟨e, hu⟩ := under_ptr hT htd hb
        have := eqX_ok (P := P) (w := w) h (t := t) (x := .pointer none) (y := .pointer none) (by simp) (by simp) (by simp) (by simp) (equal_ptr_nil hu _)
        simp [eqGuard_at_pointer, this]
    · cases h
  · simp only [SV.rel] at ha hb; subst ha; subst hb
    split at h
    · rename_i td htd
      cases hb : isMap td.desc with
      | false => simp [hb] at h
      | true =>
        simp only [hb, cond_true] at h
        obtain ⟨k, e, hu⟩ := under_map hT htd hb
        have := fun ad => eqX_ok (P := P) (w := w) h (t := t) (x := .map (some ad)) (y := .map none) (by simp) (by simp) (by simp) (by simp) (equal_map_nil hu _)
        simp [eqGuard_at_map, this]
    · cases h
  · cases ha; cases hb
    split at h
    · rename_i td htd
      cases hb : isMap td.desc with
      | false => simp [hb] at h
      | true =>
        simp only [hb, cond_true] at h
        obtain ⟨k, e, hu⟩ := under_map hT htd hb
        have := eqX_ok (P := P) (w := w) h (t := t) (x := .map none) (y := .map none) (by simp) (by simp) (by simp) (by simp) (equal_map_nil hu _)
        simp [eqGuard_at_map, this]
    · cases h
  · cases h
end

/-- '-x', '!x', '^x'. -/
def unX (op : UnOp) (x : SV) : VRes :=
  match op, x with
  | .not, .raw (.bool b) => some (none, .bool (!b))
  | .neg, .raw (.int k n) => some (none, .int k (k.wrap (0 - n)))
  | .xor, .raw (.int k n) => some (none, .int k (bitI .xor k (if k.signed then -1 else k.max) n))
  | _, _ => none
theorem unX_ok {P : Program} {w : World} {β : Nat → Loc} {op : UnOp} {x : SV} {np : Option Prop} {v : Value} (h : unX op x = some (np, v)) {a : Value} (ha : x.rel β a) : (Op.unary op a).run P w = .ok v w := by
  unfold unX at h
  split at h <;> cases h <;> cases ha <;> simp [Op.unary, Op.intArith, Op.intBits, bitI]
end Go.Sx
