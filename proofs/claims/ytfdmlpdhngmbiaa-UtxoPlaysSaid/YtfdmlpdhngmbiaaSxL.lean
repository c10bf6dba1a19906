/- Symbolic states for walks, part L: a table of types held against the program by the kernel. -/
import Derived.Test.YtfdmlpdhngmbiaaSxK
namespace Go.Sx

def sameV : Value → Value → Bool
  | .int k n, .int k' m => Nat.beq (kn k) (kn k') && decide (n = m)
  | .bool a, .bool b => match a, b with | true, true => true | false, false => true | _, _ => false
  | .float k n, .float k' m => (match k, k' with | .f32, .f32 => true | .f64, .f64 => true | _, _ => false) && Nat.beq n m
  | .string a, .string b => Nat.beq a.size 0 && Nat.beq b.size 0
  | .pointer none, .pointer none => true
  | .slice none 0 0, .slice none 0 0 => true
  | .map none, .map none => true
  | .nilFunc, .nilFunc => true
  | .nilIface, .nilIface => true
  | _, _ => false
theorem sameV_eq {a b : Value} (h : sameV a b = true) : a = b := by
  unfold sameV at h
  split at h
  · simp only [Bool.and_eq_true, decide_eq_true_eq] at h
    rw [kn_inj h.1, h.2]
  · split at h <;> first | rfl | cases h
  · simp only [Bool.and_eq_true] at h
    obtain ⟨h1, h2⟩ := h
    rw [Nat.eq_of_beq_eq_true h2]
    split at h1 <;> first | rfl | cases h1
  · simp only [Bool.and_eq_true] at h
    rw [ByteArray.size_eq_zero_iff.1 (Nat.eq_of_beq_eq_true h.1), ByteArray.size_eq_zero_iff.1 (Nat.eq_of_beq_eq_true h.2)]
  · rfl
  · rfl
  · rfl
  · rfl
  · rfl
  · cases h
def sameVs : List Value → List Value → Bool
  | [], [] => true
  | a :: x, b :: y => sameV a b && sameVs x y
  | _, _ => false
theorem sameVs_eq : ∀ {x y : List Value}, sameVs x y = true → x = y
  | [], [], _ => rfl
  | [], _ :: _, h => by cases h
  | _ :: _, [], h => by cases h
  | a :: x, b :: y, h => by
    simp only [sameVs, Bool.and_eq_true] at h
    rw [sameV_eq h.1, sameVs_eq h.2]

def samePairs : List (Nat × Nat) → List (Nat × Nat) → Bool
  | [], [] => true
  | a :: x, b :: y => Nat.beq a.1 b.1 && Nat.beq a.2 b.2 && samePairs x y
  | _, _ => false
theorem samePairs_eq : ∀ {x y : List (Nat × Nat)}, samePairs x y = true → x = y
  | [], [], _ => rfl
  | [], _ :: _, h => by cases h
  | _ :: _, [], h => by cases h
  | (a, c) :: x, (b, d) :: y, h => by
    simp only [samePairs, Bool.and_eq_true] at h
    rw [samePairs_eq h.2, Nat.eq_of_beq_eq_true h.1.1, Nat.eq_of_beq_eq_true h.1.2]

def descB : TypeDesc → Desc → Bool
  | .int k, .int k' => Nat.beq (kn k) (kn k')
  | .bool, .bool => true
  | .string, .str => true
  | .pointer _, .ptr => true
  | .slice e, .slice e' => Nat.beq e e'
  | .array n e, .array n' e' => Nat.beq n n' && Nat.beq e e'
  | .struct fs, .struct l => samePairs (fs.toList.map fun f => (f.type, f.offset)) l
  | .map k e, .map k' e' => Nat.beq k k' && Nat.beq e e'
  | _, .other => true
  | _, _ => false
theorem descB_ok {a : TypeDesc} {b : Desc} (h : descB a b = true) : DescOK a b := by
  unfold descB at h
  split at h
  · exact kn_inj h
  · trivial
  · trivial
  · trivial
  · exact Nat.eq_of_beq_eq_true h
  · simp only [Bool.and_eq_true] at h
    exact ⟨Nat.eq_of_beq_eq_true h.1, Nat.eq_of_beq_eq_true h.2⟩
  · exact samePairs_eq h
  · simp only [Bool.and_eq_true] at h
    exact ⟨Nat.eq_of_beq_eq_true h.1, Nat.eq_of_beq_eq_true h.2⟩
  · unfold DescOK; split <;> trivial
  · cases h

def sameB : Bool → Bool → Bool
  | true, true => true
  | false, false => true
  | _, _ => false
theorem sameB_eq {a b : Bool} (h : sameB a b = true) : a = b := by cases a <;> cases b <;> first | rfl | cases h

def tyB (P : Program) (t : TypeId) (d : TyD) : Bool :=
  match P.info? t, P.underlying t with
  | some i, some u => Nat.beq i.size d.size && Nat.beq i.bytes d.bytes && sameB (isAggD u) d.agg && descB u d.desc && (match i.zero with | some z => sameVs z.cells.toList d.zero | none => false) && d.zero.all (fun v => v.oneCell')
  | _, _ => false
theorem tyB_ok {P : Program} {t : TypeId} {d : TyD} (h : tyB P t d = true) : TyOK P t d := by
  unfold tyB at h
  split at h
  · rename_i i u h1 h2
    simp only [Bool.and_eq_true] at h
    obtain ⟨⟨⟨⟨⟨g1, g2⟩, g3⟩, g4⟩, g5⟩, g6⟩ := h
    split at g5
    · rename_i z hz
      exact ⟨i, u, h1, h2, Nat.eq_of_beq_eq_true g1, Nat.eq_of_beq_eq_true g2, sameB_eq g3, descB_ok g4, ⟨z, hz, sameVs_eq g5⟩, g6⟩
    · cases g5
  · cases h
theorem tab_ok {P : Program} {l : List (Nat × TyD)} (h : (l.all fun x => tyB P x.1 x.2) = true) : TabOK P (tlook l) :=
  tlook_ok l fun x hx => tyB_ok (List.all_eq_true.1 h x hx)
end Go.Sx
