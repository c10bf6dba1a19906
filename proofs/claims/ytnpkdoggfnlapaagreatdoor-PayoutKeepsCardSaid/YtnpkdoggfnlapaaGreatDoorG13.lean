/- Parts Money Ua Ub Ha Hb Hc Hd. -/
import Derived.Test.YtnpkdoggfnlapaaGreatDoorG04
import Derived.Test.YtnpkdoggfnlapaaGreatDoorG12
import Derived.Test.YtnpkdoggfnlapaaGreatDoorG05
import Derived.Test.YtnpkdoggfnlapaaGreatDoorG09
set_option linter.unusedSimpArgs false
set_option linter.unusedVariables false
namespace Go.Proofs.YtnpkdoggfnlapaaGreatDoor
set_option maxRecDepth 100000
open Go.Sx
def mayB (n : Int) : Bool := decide (0 ≤ n) && decide (n ≤ 1125899906842624)
theorem may_spec (n : Int) (M : Mem) (d : Nat) : CallSpec Tryz.prog 119 [.one (.raw (.int .i64 n))] M d { v := XV.bool (mayB n) } [] := by
  refine spec_pure Tryz.mixed Tryz.T_ok Tryz.func119 rfl _ _ rfl rfl (fun C _ => ?_) M d
  (refine xB ?_)
  refine wC (fun h1 => ?_) (fun h1 => ?_)
  all_goals
    (refine xG ?_)
    refine Ends.plain (.inr rfl) rfl ?_
    simp [mayB, h1]
def bothB (a b n : Int) : Bool := mayB a && mayB b && mayB n
def bothV (a b n : Int) : List CV := [.one (.raw (.int .i64 (if bothB a b n = true then n else 0))), .one (.raw (.bool (bothB a b n)))]
theorem both_spec (a b n : Int) (M : Mem) (d : Nat) : CallSpec Tryz.prog 191 [.one (.raw (.int .i64 a)), .one (.raw (.int .i64 b)), .one (.raw (.int .i64 n))] M d { v := .tup (bothV a b n) } [] := by
  refine spec_pure Tryz.mixed Tryz.T_ok Tryz.func191 rfl _ _ rfl rfl (fun C _ => ?_) M d
  (refine xB ?_)
  (apply wP; exact (call_op rfl (entersB_of Tryz.func119 (by kernel_rfl)) rfl (may_spec _ _ _)); refine xZ ?_)
  refine wC (fun h1 => ?_) (fun h1 => ?_)
  · (refine xG ?_)
    refine Ends.plain (.inr rfl) rfl ?_
    simp only [Bool.not_eq_true'] at h1
    simp [bothV, bothB, h1]
  · (refine xG ?_)
    (apply wP; exact (call_op rfl (entersB_of Tryz.func119 (by kernel_rfl)) rfl (may_spec _ _ _)); refine xZ ?_)
    simp only [Bool.not_eq_false'] at h1
    refine wC (fun h2 => ?_) (fun h2 => ?_)
    · (refine xG ?_)
      refine Ends.plain (.inr rfl) rfl ?_
      simp only [Bool.not_eq_true'] at h2
      simp [bothV, bothB, h2]
    · simp only [Bool.not_eq_false'] at h2
      (refine xG ?_)
      (apply wP; exact (call_op rfl (entersB_of Tryz.func119 (by kernel_rfl)) rfl (may_spec _ _ _)); refine xZ ?_)
      refine wC (fun h3 => ?_) (fun h3 => ?_)
      · (refine xG ?_)
        refine Ends.plain (.inr rfl) rfl ?_
        simp only [Bool.not_eq_true'] at h3
        simp [bothV, bothB, h3]
      · simp only [Bool.not_eq_false'] at h3
        (refine xG ?_)
        refine Ends.plain (.inr rfl) rfl ?_
        simp [bothV, bothB, h1, h2, h3]
theorem add_spec (a b : Int) (M : Mem) (d : Nat) : CallSpec Tryz.prog 154 [.one (.raw (.int .i64 a)), .one (.raw (.int .i64 b))] M d { v := .tup (bothV a b (IntKind.i64.wrap (a + b))) } [] := by
  refine spec_pure Tryz.mixed Tryz.T_ok Tryz.func154 rfl _ _ rfl rfl (fun C _ => ?_) M d
  (refine xB ?_)
  (apply wP; exact (call_op rfl (entersB_of Tryz.func191 (by kernel_rfl)) rfl (both_spec _ _ _ _ _)); refine xZ ?_)
  exact Ends.plain (.inr rfl) rfl rfl
end Go.Proofs.YtnpkdoggfnlapaaGreatDoor
namespace Go.Proofs.YtnpkdoggfnlapaaGreatDoor
set_option maxRecDepth 100000
open Go.Sx
def u8 (x : UInt8) : Value := .int .u8 (x.toNat : Int)
def i64 (x : Int64) : Value := .int .i64 x.toInt
theorem u8_wf (x : UInt8) : (Lit.int .u8 (x.toNat : Int)).wf = true := by
  have := x.toNat_lt
  have e1 : IntKind.u8.min = 0 := rfl
  have e2 : IntKind.u8.max = 255 := rfl
  simp [Lit.wf, e1, e2]
  omega
theorem i64_wf (x : Int64) : (Lit.int .i64 x.toInt).wf = true := by
  have h1 := x.le_toInt
  have h2 := x.toInt_lt
  have e1 : IntKind.i64.min = -9223372036854775808 := rfl
  have e2 : IntKind.i64.max = 9223372036854775807 := rfl
  simp [Lit.wf, e1, e2]
  omega
structure H8 where
  (b0 b1 b2 b3 b4 b5 b6 b7 : UInt8)
  deriving DecidableEq, Inhabited
def H8.cells (h : H8) : List Value := [u8 h.b0, u8 h.b1, u8 h.b2, u8 h.b3, u8 h.b4, u8 h.b5, u8 h.b6, u8 h.b7]
structure Pt where
  tx : H8
  no : Int64
  deriving DecidableEq, Inhabited
def Pt.cells (p : Pt) : List Value := [u8 p.tx.b0, u8 p.tx.b1, u8 p.tx.b2, u8 p.tx.b3, u8 p.tx.b4, u8 p.tx.b5, u8 p.tx.b6, u8 p.tx.b7, i64 p.no]
def Pt.v (p : Pt) : Value := .agg p.cells.toArray
structure Coin where
  to : H8
  amt : Int64
  height : Int64
  base : Bool
  deriving DecidableEq, Inhabited
def Coin.cells (c : Coin) : List Value := [u8 c.to.b0, u8 c.to.b1, u8 c.to.b2, u8 c.to.b3, u8 c.to.b4, u8 c.to.b5, u8 c.to.b6, u8 c.to.b7, i64 c.amt, i64 c.height, .bool c.base]
def Coin.v (c : Coin) : Value := .agg c.cells.toArray
def coin0 : Coin := ⟨⟨0, 0, 0, 0, 0, 0, 0, 0⟩, 0, 0, false⟩
structure Stp where
  p : Pt
  c : Coin
  added : Bool
  deriving DecidableEq, Inhabited
def Stp.cells (s : Stp) : List Value := [u8 s.p.tx.b0, u8 s.p.tx.b1, u8 s.p.tx.b2, u8 s.p.tx.b3, u8 s.p.tx.b4, u8 s.p.tx.b5, u8 s.p.tx.b6, u8 s.p.tx.b7, i64 s.p.no,
  u8 s.c.to.b0, u8 s.c.to.b1, u8 s.c.to.b2, u8 s.c.to.b3, u8 s.c.to.b4, u8 s.c.to.b5, u8 s.c.to.b6, u8 s.c.to.b7, i64 s.c.amt, i64 s.c.height, .bool s.c.base, .bool s.added]
theorem u8_inj {a b : UInt8} (h : u8 a = u8 b) : a = b := by
  simp only [u8, Value.int.injEq, true_and] at h
  exact UInt8.toNat_inj.1 (by omega)
theorem i64_inj {a b : Int64} (h : i64 a = i64 b) : a = b := by
  simp only [i64, Value.int.injEq, true_and] at h
  exact Int64.toInt_inj.1 h
theorem Pt.inj (a b : Pt) (h : a.v = b.v) : a = b := by
  have h : a.cells = b.cells := by
    have := congrArg (fun v => v.cells.toList) h
    simpa [Pt.v, Value.cells] using this
  obtain ⟨⟨_, _, _, _, _, _, _, _⟩, _⟩ := a
  obtain ⟨⟨_, _, _, _, _, _, _, _⟩, _⟩ := b
  simp only [Pt.cells, List.cons.injEq] at h
  obtain ⟨h0, h1, h2, h3, h4, h5, h6, h7, h8, _⟩ := h
  rw [u8_inj h0, u8_inj h1, u8_inj h2, u8_inj h3, u8_inj h4, u8_inj h5, u8_inj h6, u8_inj h7, i64_inj h8]
theorem pt_row : (65 : TypeId) < Tryz.prog.types.size := of_decide_eq_true (by kernel_rfl)
theorem pt_deep : Tryz.prog.keyTypeAt 3 65 = true := by kernel_rfl
theorem laid : laidOutB Tryz.prog = true := by kernel_rfl
theorem pt_law : WideMaps.KeyLaw Tryz.prog 65 := deep_law_laid laid (m := 3) (by omega) pt_row pt_deep (by rw [Tryz.underlying65])
theorem pt_key (p : Pt) : ∃ l, keyOf Tryz.prog 65 p.v = some l := by
  have hf : p.v.formed Tryz.prog 65 = true := by kernel_rfl
  have hk : Tryz.prog.keyType 65 = true := by kernel_rfl
  have hl : ∀ m, ∃ ls, Tryz.prog.keyLits (m + 3) 65 p.cells = some ls := by
    intro m
    have c0 : Tryz.prog.cellsOf 65 = 9 := by kernel_rfl
    have c1 : Tryz.prog.cellsOf 29 = 8 := by kernel_rfl
    have c2 : Tryz.prog.cellsOf 5 = 1 := by kernel_rfl
    have c3 : Tryz.prog.cellsOf 3 = 1 := by kernel_rfl
    have w0 := u8_wf p.tx.b0
    have w1 := u8_wf p.tx.b1
    have w2 := u8_wf p.tx.b2
    have w3 := u8_wf p.tx.b3
    have w4 := u8_wf p.tx.b4
    have w5 := u8_wf p.tx.b5
    have w6 := u8_wf p.tx.b6
    have w7 := u8_wf p.tx.b7
    have w8 := i64_wf p.no
    simp [Program.keyLits, Tryz.underlying65, Tryz.underlying29, Tryz.underlying5, Tryz.underlying3, c0, c1, c2, c3, Pt.cells, u8, i64, List.range, List.range.loop, w0, w1, w2, w3, w4, w5, w6, w7, w8]
  have hs : Tryz.prog.types.size + 1 = (Tryz.prog.types.size - 2) + 3 := by kernel_rfl
  obtain ⟨ls, h⟩ := hl (Tryz.prog.types.size - 2)
  refine ⟨.string (keyBytes ls), ?_⟩
  unfold keyOf
  rw [Tryz.underlying65]
  simp only [hf, hk, Bool.and_self, if_true]
  rw [hs]
  have e : p.v.cells.toList = p.cells := by simp [Pt.v, Value.cells]
  rw [e, h]
  rfl
theorem ptK : KeyL Tryz.prog 65 Pt.v := KeyL.of (Maps.Keyed.of_law pt_law) Pt.inj pt_key
end Go.Proofs.YtnpkdoggfnlapaaGreatDoor
namespace Go.Proofs.YtnpkdoggfnlapaaGreatDoor
set_option maxRecDepth 100000
open Go.Sx
structure USet where
  coins : List (Pt × Coin)
  steps : List Stp
  total : Int
def USet.mem (S : USet) : Mem := [(0, .cells 131 [.map 1, .slc 2 21 0 S.steps.length, .raw (.int .i64 S.total)]), (1, .abs (MapP Pt.v Coin.v S.coins)), (2, .vec 236 21 S.steps.length fun i => (S.steps.getD i default).cells)]
def usetP (S : USet) : AbsP := packP S.mem True
theorem USet.opens {P : Program} {C : Ctx} {cd : Code} {slots : List (Option XV)} {mem : Mem} {nx : Nat} {Q : Exit → St → Prop} (S : USet) (c : Nat) (hc : mem.get c = some (.abs (usetP S)))
    (h : Tri P C cd ⟨slots, (c, .cells 131 [.map (nx + 1), .slc (nx + 2) 21 0 S.steps.length, .raw (.int .i64 S.total)]) :: (nx + 1, .abs (MapP Pt.v Coin.v S.coins)) :: (nx + 2, .vec 236 21 S.steps.length fun i => (S.steps.getD i default).cells) :: mem.del c, nx + 3⟩ Q) :
    Tri P C cd ⟨slots, mem, nx⟩ Q :=
  Tri.opens (M := S.mem) (m := 3) (inv := True) (c := c) hc rfl fun _ => h
theorem USet.shuts {C : Ctx} {slots : List (Option XV)} {mem : Mem} {nx : Nat} (S : USet) (c : Nat) {i1 i2 : Nat} {m n : Nat} {total : Int} {f : Nat → List Value}
    (k0 : mem.get c = some (.cells 131 [.map i1, .slc i2 21 0 m, .raw (.int .i64 total)])) (k1 : mem.get i1 = some (.abs (MapP Pt.v Coin.v S.coins))) (k2 : mem.get i2 = some (.vec 236 21 n f))
    (hids : (Nat.beq c i1 || Nat.beq c i2 || Nat.beq i1 i2) = false) (hm : m = S.steps.length) (ht : total = S.total) (hle : S.steps.length ≤ n) (hf : ∀ i, i < S.steps.length → f i = (S.steps.getD i default).cells) :
    Ent C ⟨slots, mem, nx⟩ ⟨slots, (c, .abs (usetP S)) :: mem.dels [c, i1, i2], nx⟩ := by
  subst hm ht
  exact Ent.shut3 (S := ⟨slots, mem, nx⟩) (M := S.mem) (inv := True) hids trivial rfl rfl rfl rfl k0 k1 k2 rfl ⟨rfl, rfl⟩ rfl ⟨rfl, rfl, hle, hf⟩
theorem USet.ends {C : Ctx} {T : TyTab} {rs : List ResultVar} {X X' : XV} {e : Exit} {slots : List (Option XV)} {mem : Mem} {nx : Nat} {S0 : USet} (S : USet) {i1 i2 : Nat} {m n : Nat} {total : Int} {f : Nat → List Value} (he : e = .normal ∨ e = .ret)
    (k0 : mem.get 0 = some (.cells 131 [.map i1, .slc i2 21 0 m, .raw (.int .i64 total)])) (k1 : mem.get i1 = some (.abs (MapP Pt.v Coin.v S.coins))) (k2 : mem.get i2 = some (.vec 236 21 n f))
    (hids : (Nat.beq 0 i1 || Nat.beq 0 i2 || Nat.beq i1 i2) = false)
    (hr : resX T ⟨slots, (0, .abs (usetP S)) :: mem.dels [0, i1, i2], nx⟩ rs = some X') (hX : X' = X) (hS : S = S0) (hm : m = S.steps.length) (ht : total = S.total) (hle : S.steps.length ≤ n) (hf : ∀ i, i < S.steps.length → f i = (S.steps.getD i default).cells) :
    Sx.Ends C T rs 1 1 ⟨X, [(0, .abs (usetP S0))], none⟩ e ⟨slots, mem, nx⟩ := by
  subst hX hS
  refine ⟨he, _, USet.shuts S 0 k0 k1 k2 hids hm ht hle hf, hr, fun i ch h => ?_, fun i ch h => by cases h⟩
  simp only [Mem.get, nbeq] at h
  by_cases hk : 0 = i
  · subst hk
    simp only [decide_true, cond_true, Option.some.injEq] at h
    exact ⟨by omega, by rw [← h]; rfl⟩
  · simp [hk] at h
abbrev Pt.cv (p : Pt) : CV := .agg (p.cells.map .raw)
abbrev Coin.cv (p : Coin) : CV := .agg (p.cells.map .raw)
def USet.put (S : USet) (p : Pt) (c : Coin) : USet := { S with coins := mput S.coins p c, total := IntKind.i64.wrap (S.total + c.amt.toInt) }
theorem coin_map : Tryz.prog.underlying 128 = some (.map 65 61) := Tryz.underlying128
set_option maxRecDepth 100000 in
theorem put_spec (S : USet) (p : Pt) (c : Coin) {M : Mem} {c0 d : Nat} (hM : M.get c0 = some (.abs (usetP S))) (hd : Nat.beq d c0 = false) : CallSpec Tryz.prog 155 [.one (.ptr c0 0 0 0), p.cv, c.cv] M d { v := .tup [], upd := [(c0, .abs (usetP (S.put p c)))], wr := [c0] } [c0] := by
  refine spec_obj Tryz.T_ok Tryz.func155 rfl [p.cv, c.cv] (.tup []) rfl rfl hM hd (fun C _ => ?_)
  refine USet.opens S 0 rfl ?_
  refine Tri.of Tryz.mixed Tryz.T_ok ?_
  (refine xB ?_)
  (refine wP _ _ (update_op ptK coin_map rfl rfl p c rfl rfl rfl) ?_; refine xZ ?_)
  exact USet.ends (S.put p c) (.inl rfl) rfl rfl rfl rfl rfl rfl rfl rfl rfl (Nat.le_refl _) (fun _ _ => rfl)
def USet.take (S : USet) (p : Pt) (c : Coin) : USet := { S with coins := mdel S.coins p, total := IntKind.i64.wrap (S.total - c.amt.toInt) }
theorem coin_zero : ∀ w : World, (zeroValue 61).run Tryz.prog w = .ok (Coin.v coin0) w := fun w => by kernel_rfl
def USet.get (S : USet) (p : Pt) : Coin := (mget S.coins p).getD coin0
def USet.has (S : USet) (p : Pt) : Bool := (mget S.coins p).isSome
set_option maxRecDepth 100000 in
theorem get_spec (S : USet) (p : Pt) {M : Mem} {c0 d : Nat} (hM : M.get c0 = some (.abs (usetP S))) (hd : Nat.beq d c0 = false) : CallSpec Tryz.prog 21 [.one (.ptr c0 0 0 0), p.cv] M d { v := .tup [(S.get p).cv, .one (.raw (.bool (S.has p)))], upd := [(c0, .abs (usetP S))], wr := [c0] } [c0] := by
  refine spec_obj Tryz.T_ok Tryz.func21 rfl [p.cv] (.tup [(S.get p).cv, .one (.raw (.bool (S.has p)))]) rfl rfl hM hd (fun C _ => ?_)
  refine USet.opens S 0 rfl ?_
  refine Tri.of Tryz.mixed Tryz.T_ok ?_
  (refine xB ?_)
  (refine wP _ _ (lookup_op (ok := true) ptK coin_map (z0 := coin0) coin_zero rfl rfl p rfl rfl) ?_; refine xZ ?_)
  exact USet.ends S (.inr rfl) rfl rfl rfl rfl rfl rfl rfl rfl rfl (Nat.le_refl _) (fun _ _ => rfl)
set_option maxRecDepth 100000 in
theorem total_spec (S : USet) {M : Mem} {c0 d : Nat} (hM : M.get c0 = some (.abs (usetP S))) (hd : Nat.beq d c0 = false) : CallSpec Tryz.prog 23 [.one (.ptr c0 0 0 0)] M d { v := XV.int .i64 S.total, upd := [(c0, .abs (usetP S))], wr := [c0] } [c0] := by
  refine spec_obj Tryz.T_ok Tryz.func23 rfl [] (XV.int .i64 S.total) rfl rfl hM hd (fun C _ => ?_)
  refine USet.opens S 0 rfl ?_
  refine Tri.of Tryz.mixed Tryz.T_ok ?_
  (refine xB ?_)
  exact USet.ends S (.inr rfl) rfl rfl rfl rfl rfl rfl rfl rfl rfl (Nat.le_refl _) (fun _ _ => rfl)
def USet.empty : USet := ⟨[], [], 0⟩
theorem USet.ends_new {C : Ctx} {T : TyTab} {rs : List ResultVar} {X : XV} {e : Exit} {slots : List (Option XV)} {mem : Mem} {nx n0 : Nat} (l : List (Pt × Coin)) (total : Int) (i0 i1 : Nat) (he : e = .normal ∨ e = .ret) (hids : (Nat.beq i0 i1 || Nat.beq i0 nx || Nat.beq i1 nx) = false) (hn : n0 ≤ i0)
    (k0 : mem.get i0 = some (.cells 131 [.map i1, .raw (.slice none 0 0), .raw (.int .i64 total)])) (k1 : mem.get i1 = some (.abs (MapP Pt.v Coin.v l)))
    (hr : resX T ((St.nilc ⟨slots, mem, nx⟩ i0 131 [.map i1, .raw (.slice none 0 0), .raw (.int .i64 total)] 1 236 21).shut i0 [i0, i1, nx] (USet.mem ⟨l, [], total⟩) True) rs = some X) :
    Sx.Ends C T rs 0 n0 ⟨X, [], some (i0, .abs (usetP ⟨l, [], total⟩))⟩ e ⟨slots, mem, nx⟩ := by
  have hids' := hids
  simp only [Bool.or_eq_false_iff] at hids'
  obtain ⟨⟨h1, h2⟩, h3⟩ := hids'
  have h0 : ∀ a : Nat, Nat.beq a a = true := fun a => by rw [nbeq]; simp
  refine ⟨he, _, (Ent.nilc (S := ⟨slots, mem, nx⟩) k0 rfl 236 21).trans (Ent.shut3 (M := USet.mem ⟨l, [], total⟩) (b0 := .cells 131 [.map i1, .slc nx 21 0 0, .raw (.int .i64 total)]) (b1 := .abs (MapP Pt.v Coin.v l)) (b2 := .vec 236 21 0 fun _ => []) hids trivial rfl rfl rfl rfl ?_ ?_ ?_ rfl ⟨rfl, rfl⟩ rfl ⟨rfl, rfl, Nat.le_refl _, fun i hi => by simp at hi⟩), hr, fun i ch h => by simp [Mem.get] at h, fun i ch h => ?_⟩
  · simp [St.nilc, Mem.get]
  · have h3' : nx ≠ i1 := fun e => by rw [e, h0] at h3; cases h3
    have h1' : i1 ≠ i0 := fun e => by rw [e, h0] at h1; cases h1
    have : Nat.beq nx i1 = false := by rw [nbeq]; simpa using h3'
    simp only [St.nilc, Mem.get, h1, this, cond_false, Mem.get_del, if_neg h1', k1]
  · simp only [St.nilc, Mem.get, h2, h0, cond_false, cond_true]
  · cases h
    exact ⟨hn, by simp only [St.shut, Mem.get, h0, cond_true]; rfl⟩
theorem new_spec {M : Mem} {d : Nat} : CallSpec Tryz.prog 19 [] M d { v := XV.sv (.ptr d 0 0 0), upd := [(d, .abs (usetP USet.empty))] } [] := by
  refine spec_new Tryz.T_ok Tryz.func19 rfl [] rfl 3 (fun C _ => ?_)
  refine Tri.of Tryz.mixed Tryz.T_ok ?_
  (refine xB ?_)
  (refine wP _ _ (makeMap_op Pt.v Coin.v rfl) ?_; refine xZ ?_)
  exact USet.ends_new [] 0 3 1 (.inr rfl) rfl (by decide) rfl rfl rfl
theorem snoc_steps (l : List Stp) (s : Stp) (i : Nat) (hi : i < l.length + 1) : snocF (fun i => (l.getD i default).cells) l.length s.cells i = ((l ++ [s]).getD i default).cells := by
  have e : Nat.blt i l.length = decide (i < l.length) := by
    by_cases h : i < l.length
    · rw [decide_eq_true h]; simpa using h
    · rw [decide_eq_false h]
      cases hb : Nat.blt i l.length with
      | false => rfl
      | true => exact absurd (by simpa using hb) h
  simp only [snocF, e]
  by_cases h : i < l.length
  · simp [h, List.getD_eq_getElem?_getD, List.getElem?_append_left h]
  · have h' : i = l.length := by omega
    simp [h', List.getD_eq_getElem?_getD]
def USet.okB (S : USet) (p : Pt) (c : Coin) : Bool := !(decide (p.no.toInt < 0)) && !(decide (p.no.toInt > 255)) && !(decide (c.amt.toInt < 1)) && !(S.has p) && bothB S.total c.amt.toInt (IntKind.i64.wrap (S.total + c.amt.toInt))
def USet.add1 (S : USet) (p : Pt) (c : Coin) : USet := { S.put p c with steps := S.steps ++ [⟨p, c, true⟩] }
def USet.add (S : USet) (p : Pt) (c : Coin) : USet := if S.okB p c = true then S.add1 p c else S
set_option maxRecDepth 100000 in
theorem uadd_spec (S : USet) (p : Pt) (c : Coin) (hlen : S.steps.length < 1000000) {M : Mem} {c0 d : Nat} (hM : M.get c0 = some (.abs (usetP S))) (hd : Nat.beq d c0 = false) : CallSpec Tryz.prog 99 [.one (.ptr c0 0 0 0), p.cv, c.cv] M d { v := XV.bool (S.okB p c), upd := [(c0, .abs (usetP (S.add p c)))], wr := [c0] } [c0] := by
  refine spec_obj Tryz.T_ok Tryz.func99 rfl [p.cv, c.cv] (XV.bool (S.okB p c)) rfl rfl hM hd (fun C _ => ?_)
  refine USet.opens S 0 rfl ?_
  (refine Tri.cut 5 Tryz.mixed Tryz.T_ok ?_; refine xZ ?_)
  refine wC (fun h1 => ?_) (fun h1 => ?_)
  · (refine xG ?_)
    refine wD <| cutR (USet.ends S (.inr rfl) rfl rfl rfl rfl rfl ?_ ?_ rfl rfl (Nat.le_refl _) (fun _ _ => rfl))
    · simp [USet.okB, h1]
    · simp [USet.add, USet.okB, h1]
  (refine xG ?_)
  refine wC (fun h2 => ?_) (fun h2 => ?_)
  · (refine xG ?_)
    refine wD <| cutR (USet.ends S (.inr rfl) rfl rfl rfl rfl rfl ?_ ?_ rfl rfl (Nat.le_refl _) (fun _ _ => rfl))
    · simp [USet.okB, h2]
    · simp [USet.add, USet.okB, h2]
  (refine xG ?_)
  refine wC (fun h3 => ?_) (fun h3 => ?_)
  · (refine xG ?_)
    refine wD <| cutR (USet.ends S (.inr rfl) rfl rfl rfl rfl rfl ?_ ?_ rfl rfl (Nat.le_refl _) (fun _ _ => rfl))
    · simp [USet.okB, h3]
    · simp [USet.add, USet.okB, h3]
  (refine xG ?_)
  (refine wP _ _ (lookup_op (ok := true) ptK coin_map (z0 := coin0) coin_zero rfl rfl p rfl rfl) ?_; refine xZ ?_)
  (apply wP; exact (call_op rfl (entersB_of Tryz.func154 (by kernel_rfl)) rfl (add_spec _ _ _ _)); refine xZ ?_)
  refine wC (fun h4 => ?_) (fun h4 => ?_)
  · (refine xG ?_)
    refine wD <| cutR (USet.ends S (.inr rfl) rfl rfl rfl rfl rfl ?_ ?_ rfl rfl (Nat.le_refl _) (fun _ _ => rfl))
    · simp [USet.okB, USet.has, h4]
    · simp [USet.add, USet.okB, USet.has, h4]
  (refine xG ?_)
  refine wC (fun h5 => ?_) (fun h5 => ?_)
  · (refine xG ?_)
    simp only [Bool.not_eq_true'] at h5
    refine wD <| cutR (USet.ends S (.inr rfl) rfl rfl rfl rfl rfl ?_ ?_ rfl rfl (Nat.le_refl _) (fun _ _ => rfl))
    · simp [USet.okB, h5]
    · simp [USet.add, USet.okB, h5]
  (refine xG ?_)
  simp only [Bool.not_eq_false'] at h5
  have hok : S.okB p c = true := by simp [USet.okB, USet.has, h1, h2, h3, h4, h5]
  refine wD <| cutG (Tri.ent (USet.shuts S 0 rfl rfl rfl rfl rfl rfl (Nat.le_refl _) (fun _ _ => rfl)) ?_)
  (refine Tri.cut 1 Tryz.mixed Tryz.T_ok ?_; refine xZ ?_)
  (apply wP; exact (call_op rfl (entersB_of Tryz.func155 (by kernel_rfl)) rfl (put_spec S p c rfl rfl)); refine xZ ?_)
  have hA : (S.put p c).steps.length + 1 ≤ maxLen := by
    show S.steps.length + 1 ≤ maxLen
    simp only [maxLen]; omega
  have hB : ((S.put p c).steps.length + 1) * 56 ≤ 140737488355328 := by
    show (S.steps.length + 1) * 56 ≤ 140737488355328
    omega
  refine wD <| cutG (USet.opens (S.put p c) 0 rfl ?_)
  refine Tri.of Tryz.mixed Tryz.T_ok ?_
  (refine xB ?_)
  (refine wP _ _ (append1_op Tryz.T_ok rfl rfl rfl rfl (Stp.cells ⟨p, c, true⟩) rfl rfl rfl (Nat.le_refl _) rfl rfl rfl rfl rfl hA hB) ?_; refine xZ ?_)
  refine USet.ends (S.add1 p c) (.inr rfl) rfl rfl rfl rfl rfl ?_ ?_ ?_ rfl ?_ ?_
  · rw [hok]
  · rw [USet.add, if_pos hok]
  · simp [USet.add1, USet.put]
  · simp [USet.add1, USet.put]
  · intro i hi
    exact snoc_steps S.steps ⟨p, c, true⟩ i (by simpa [USet.add1] using hi)
end Go.Proofs.YtnpkdoggfnlapaaGreatDoor
namespace Go.Proofs.YtnpkdoggfnlapaaGreatDoor
set_option maxRecDepth 100000
open Go.Sx
def u32 (x : Int) : Value := .int .u32 x
theorem bitI_u64_nonneg (op : BinOp) (a b : Int) : 0 ≤ bitI op .u64 a b := by
  unfold bitI
  split <;> (rw [IntKind.wrap_u64]; omega)
def rotS (k : Int) : Int := bitI .and .u64 (IntKind.u64.wrap k) 31
def rotL (x k : Int) : Int := bitI .or .u32 (shlI .u32 x (rotS k)) (shrI .u32 x (IntKind.u64.wrap (32 - rotS k)))
theorem rotl_spec (x k : Int) (M : Mem) (d : Nat) : CallSpec Tryz.prog 245 [.one (.raw (.int .u32 x)), .one (.raw (.int .i64 k))] M d { v := XV.int .u32 (rotL x k) } [] := by
  refine spec_pure Tryz.mixed Tryz.T_ok Tryz.func245 rfl _ _ rfl rfl (fun C _ => ?_) M d
  (refine xB ?_)
  refine wN (bitI_u64_nonneg _ _ _) ?_
  (refine xG ?_)
  refine wN (by rw [IntKind.wrap_u64]; omega) ?_
  (refine xG ?_)
  exact Ends.plain (.inr rfl) rfl rfl
def rotR (x n : Int) : Int := rotL x (IntKind.i64.wrap (0 - n))
theorem right_spec (x n : Int) (M : Mem) (d : Nat) : CallSpec Tryz.prog 232 [.one (.raw (.int .u32 x)), .one (.raw (.int .i64 n))] M d { v := XV.int .u32 (rotR x n) } [] := by
  refine spec_pure Tryz.mixed Tryz.T_ok Tryz.func232 rfl _ _ rfl rfl (fun C _ => ?_) M d
  (refine xB ?_)
  (apply wP; exact (call_op rfl (entersB_of Tryz.func245 (by kernel_rfl)) rfl (rotl_spec _ _ _ _)); refine xZ ?_)
  exact Ends.plain (.inr rfl) rfl rfl
def turn (x n : Int) : Int := bitI .or .u32 (shrI .u32 x n) (shlI .u32 x (IntKind.u64.wrap (32 - n)))
theorem turned_spec (x n : Int) (hn : 0 ≤ n) (M : Mem) (d : Nat) : CallSpec Tryz.prog 151 [.one (.raw (.int .u32 x)), .one (.raw (.int .u64 n))] M d { v := XV.int .u32 (turn x n) } [] := by
  refine spec_pure Tryz.mixed Tryz.T_ok Tryz.func151 rfl _ _ rfl rfl (fun C _ => ?_) M d
  (refine xB ?_)
  refine wN hn ?_
  (refine xG ?_)
  refine wN (by rw [IntKind.wrap_u64]; omega) ?_
  (refine xG ?_)
  exact Ends.plain (.inr rfl) rfl rfl
theorem bitI_or_comm (k : IntKind) (a b : Int) : bitI .or k a b = bitI .or k b a := by simp only [bitI, BitVec.or_comm]
theorem turn_eq (x : Int) {n : Int} (h : rotS (IntKind.i64.wrap (0 - n)) = IntKind.u64.wrap (32 - n)) (h2 : IntKind.u64.wrap (32 - rotS (IntKind.i64.wrap (0 - n))) = n) : turn x n = rotR x n := by
  unfold rotR rotL turn
  rw [h2, h]
  exact bitI_or_comm _ _ _
theorem turn2 (x : Int) : turn x 2 = rotR x 2 := turn_eq x (by decide) (by decide)
theorem turn6 (x : Int) : turn x 6 = rotR x 6 := turn_eq x (by decide) (by decide)
theorem turn7 (x : Int) : turn x 7 = rotR x 7 := turn_eq x (by decide) (by decide)
theorem turn11 (x : Int) : turn x 11 = rotR x 11 := turn_eq x (by decide) (by decide)
theorem turn13 (x : Int) : turn x 13 = rotR x 13 := turn_eq x (by decide) (by decide)
theorem turn17 (x : Int) : turn x 17 = rotR x 17 := turn_eq x (by decide) (by decide)
theorem turn18 (x : Int) : turn x 18 = rotR x 18 := turn_eq x (by decide) (by decide)
theorem turn19 (x : Int) : turn x 19 = rotR x 19 := turn_eq x (by decide) (by decide)
theorem turn22 (x : Int) : turn x 22 = rotR x 22 := turn_eq x (by decide) (by decide)
theorem turn25 (x : Int) : turn x 25 = rotR x 25 := turn_eq x (by decide) (by decide)
def w32 (a b : Int) : Int := IntKind.u32.wrap (a + b)
def sg0 (x : Int) : Int := bitI .xor .u32 (bitI .xor .u32 (rotR x 7) (rotR x 18)) (shrI .u32 x 3)
def sg1 (x : Int) : Int := bitI .xor .u32 (bitI .xor .u32 (rotR x 17) (rotR x 19)) (shrI .u32 x 10)
def push (w : Int) (x : UInt8) : Int := bitI .or .u32 (shlI .u32 w 8) (IntKind.u32.wrap (x.toNat : Int))
def word (b : Nat → UInt8) (i : Nat) : Int := push (push (push (push 0 (b (4 * i))) (b (4 * i + 1))) (b (4 * i + 2))) (b (4 * i + 3))
def mix (w : Nat → Int) (n : Nat) : Int := w32 (w32 (w32 (w (n - 16)) (w (n - 7))) (sg0 (w (n - 15)))) (sg1 (w (n - 2)))
def sched (b : Nat → UInt8) : Nat → Nat → Int
  | 0 => fun _ => 0
  | n + 1 => fun k => if k = n then (if n < 16 then word b n else mix (sched b n) n) else sched b n k
theorem sched_step (b : Nat → UInt8) (n k : Nat) : sched b (n + 1) k = if k = n then (if n < 16 then word b n else mix (sched b n) n) else sched b n k := rfl
theorem sched_fresh (b : Nat → UInt8) : ∀ n k, n ≤ k → sched b n k = 0
  | 0, k, _ => rfl
  | n + 1, k, h => by rw [sched_step, if_neg (by omega)]; exact sched_fresh b n k (by omega)
theorem bv_of (x : BitVec 32) : BitVec.ofInt 32 (x.toNat : Int) = x := by
  apply BitVec.eq_of_toInt_eq
  rw [BitVec.toInt_ofInt, BitVec.toInt_eq_toNat_bmod]
theorem or_bv (x y : BitVec 32) : bitI .or .u32 (x.toNat : Int) (y.toNat : Int) = ((x ||| y).toNat : Int) := by
  show IntKind.u32.wrap (((BitVec.ofInt 32 (x.toNat : Int) ||| BitVec.ofInt 32 (y.toNat : Int)).toNat : Int)) = _
  rw [bv_of, bv_of, IntKind.wrap_u32]
  have := (x ||| y).isLt
  exact Int.emod_eq_of_lt (by omega) (by omega)
theorem shl_bv (x : BitVec 32) (n : Nat) (hn : n < 32) : shlI .u32 (x.toNat : Int) (n : Int) = ((x <<< n).toNat : Int) := by
  show IntKind.u32.wrap ((x.toNat : Int) * 2 ^ (min ((n : Int).toNat) 32)) = _
  have e : min ((n : Int).toNat) 32 = n := by omega
  rw [e, IntKind.wrap_u32, BitVec.toNat_shiftLeft, Nat.shiftLeft_eq, Int.natCast_emod, Int.natCast_mul, Int.natCast_pow]
  rfl
def b32 (x : UInt8) : BitVec 32 := BitVec.ofNat 32 x.toNat
theorem b32_int (x : UInt8) : IntKind.u32.wrap (x.toNat : Int) = ((b32 x).toNat : Int) := by
  have := x.toNat_lt
  rw [IntKind.wrap_u32, b32, BitVec.toNat_ofNat]
  omega
def word4 (b : Nat → UInt8) (i : Nat) : Int :=
  bitI .or .u32 (bitI .or .u32 (bitI .or .u32 (shlI .u32 (IntKind.u32.wrap ((b (4 * i)).toNat : Int)) 24) (shlI .u32 (IntKind.u32.wrap ((b (4 * i + 1)).toNat : Int)) 16)) (shlI .u32 (IntKind.u32.wrap ((b (4 * i + 2)).toNat : Int)) 8)) (IntKind.u32.wrap ((b (4 * i + 3)).toNat : Int))
theorem word4_eq (b : Nat → UInt8) (i : Nat) : word4 b i = word b i := by
  have h8 : ∀ x : BitVec 32, shlI .u32 (x.toNat : Int) 8 = ((x <<< 8).toNat : Int) := fun x => shl_bv x 8 (by decide)
  have h16 : ∀ x : BitVec 32, shlI .u32 (x.toNat : Int) 16 = ((x <<< 16).toNat : Int) := fun x => shl_bv x 16 (by decide)
  have h24 : ∀ x : BitVec 32, shlI .u32 (x.toNat : Int) 24 = ((x <<< 24).toNat : Int) := fun x => shl_bv x 24 (by decide)
  have h0 : (0 : Int) = ((0 : BitVec 32).toNat : Int) := rfl
  simp only [word4, word, push, b32_int]
  rw [h0]
  simp only [h8, h16, h24, or_bv]
  congr 2
  generalize b32 (b (4 * i)) = p
  generalize b32 (b (4 * i + 1)) = q
  generalize b32 (b (4 * i + 2)) = r
  generalize b32 (b (4 * i + 3)) = s
  apply BitVec.eq_of_getLsbD_eq
  intro j hj
  simp only [BitVec.getLsbD_or, BitVec.getLsbD_shiftLeft]
  by_cases c8 : j < 8
  · simp [c8, show j < 16 by omega, show j < 24 by omega]
  · by_cases c16 : j < 16
    · simp [c8, c16, show j < 24 by omega, hj, show j - 8 < 8 by omega, show j - 8 < 32 by omega]
    · by_cases c24 : j < 24
      · simp [c8, c16, c24, hj, show ¬ j - 8 < 8 by omega, show j - 16 < 8 by omega, show j - 8 < 32 by omega, show j - 8 - 8 = j - 16 by omega]
      · simp [c8, c16, c24, hj, show ¬ j - 8 < 8 by omega, show ¬ j - 16 < 8 by omega, show j - 8 < 32 by omega, show j - 16 < 32 by omega, show j - 8 - 8 = j - 16 by omega, show j - 16 - 8 = j - 24 by omega, Bool.or_assoc]
theorem w32_comm (a b : Int) : w32 a b = w32 b a := by unfold w32; rw [Int.add_comm]
theorem w32_assoc (a b c : Int) : w32 (w32 a b) c = w32 a (w32 b c) := by
  unfold w32
  simp only [IntKind.wrap_u32]
  omega
theorem mix_ref (a b c d : Int) : w32 (w32 (w32 a c) b) d = w32 (w32 (w32 a b) c) d := by
  rw [w32_assoc a c b, w32_comm c b, ← w32_assoc]
end Go.Proofs.YtnpkdoggfnlapaaGreatDoor
namespace Go.Proofs.YtnpkdoggfnlapaaGreatDoor
set_option maxRecDepth 100000
open Go.Sx
def bytesF (b : Nat → UInt8) : Nat → List Value := fun i => [u8 (b i)]
def wordsF (w : Nat → Int) : Nat → List Value := fun i => [u32 (w i)]
theorem updW (w : Nat → Int) (i k : Nat) (x : Int) : updF (wordsF w) i 0 [.int .u32 x] k = wordsF (fun k => if k = i then x else w k) k := by
  by_cases h : k = i
  · subst h; rw [updF_whole (by rfl)]; simp [wordsF, u32]
  · rw [updF_ne h]; simp [wordsF, h]
theorem updB (w : Nat → UInt8) (i k : Nat) (x : UInt8) : updF (bytesF w) i 0 [u8 x] k = bytesF (fun k => if k = i then x else w k) k := by
  by_cases h : k = i
  · subst h; rw [updF_whole (by rfl)]; simp [bytesF]
  · rw [updF_ne h]; simp [bytesF, h]
def partW (b : Nat → UInt8) (i : Nat) : Nat → Int
  | 0 => 0
  | j + 1 => push (partW b i j) (b (4 * i + j))
def inW (b : Nat → UInt8) (i j : Nat) : Nat → Int := fun k => if k = i then partW b i j else sched b i k
def spreadSt (b : Nat → UInt8) (i : Nat) : St := ⟨[some (XV.sv (.slc 0 1 0 64)), none, some (XV.sv (.ptr 1 0 0 0)), some (XV.sv (.ptr 2 0 0 0)), none, none, none, none, none, some (XV.int .i64 i)] ++ List.replicate 65 none,
  [(0, .ro 1 64 (bytesF b)), (1, .cells 227 ((List.replicate 64 (u32 0)).map .raw)), (2, .vec 227 1 64 (wordsF (sched b i)))], 3⟩
def spreadSt2 (b : Nat → UInt8) (i j : Nat) : St := ⟨[some (XV.sv (.slc 0 1 0 64)), none, some (XV.sv (.ptr 1 0 0 0)), some (XV.sv (.ptr 2 0 0 0)), some (XV.int .i64 i), none, none, none, none, some (XV.int .i64 i), none, none, none, none, none, none, none, none, none, none, some (XV.sv (.slc 0 1 (4 * i) 4)), some (XV.int .i64 (4 : Nat)), some (XV.int .i64 j)] ++ List.replicate 52 none,
  [(0, .ro 1 64 (bytesF b)), (1, .cells 227 ((List.replicate 64 (u32 0)).map .raw)), (2, .vec 227 1 64 (wordsF (inW b i j)))], 3⟩
def spreadA (b : Nat → UInt8) : List AD := [.row 1 64 (bytesF b)]
set_option maxHeartbeats 2000000 in
theorem spread_can (b : Nat → UInt8) : Reads Tryz.prog 231 (spreadA b) [] (.cv (.agg ((tabF (wordsF (sched b 64)) 0 64).map .raw))) := by
  refine Reads.of Tryz.T_ok Tryz.func231 rfl _ _ _ rfl (aggs_ok _ _) (fun C hC => ?_)
  have hC : C.n0 = 1 := hC
  (refine Tri.cut 2 Tryz.mixed Tryz.T_ok ?_; refine xZ ?_)
  refine wD <| cutG <| Tri.ent (Ent.arr0 (c := 2) 1 64 (u32 0) (f := wordsF (sched b 0)) rfl rfl rfl (by decide) rfl (by rw [hC]; decide) (fun _ _ => rfl)) ?_
  refine Tri.seq ?_
  (refine Tri.cut 1 Tryz.mixed Tryz.T_ok ?_; refine xZ ?_)
  refine wD <| cutG <| Tri.block ?_
  refine Tri.loop (α := { i : Nat // i ≤ 64 }) (fun i => spreadSt b i.1) (fun i => 64 - i.1) ⟨0, Nat.zero_le _⟩ ?_ ?_
  · exact Ent.ren [0, 1, 2] (by decide) rfl (fun i hi => by replace hi := Nat.lt_of_lt_of_eq hi hC; revert i; decide) (Nat.le_trans (Nat.le_of_eq hC) (by decide)) rfl (by repeat' (first | exact trivial | exact rfl | refine ⟨?_, ?_⟩ | fail)) (by repeat' (first | exact trivial | exact ⟨_, rfl, rfl, rfl, Nat.le_refl _, fun _ _ => rfl⟩ | exact ⟨_, rfl, rfl, rfl, fun _ _ => rfl⟩ | exact ⟨_, rfl, rfl, rfl⟩ | exact ⟨_, rfl, rfl⟩ | refine ⟨?_, ?_⟩ | fail))
  rintro ⟨i, hi⟩
  dsimp only
  (refine Tri.cut 2 Tryz.mixed Tryz.T_ok ?_; refine xZ ?_)
  refine wC (fun h1 => ?_) (fun h1 => ?_)
  · (refine xG ?_)
    have h1' : i < 64 := xW
    refine wD <| cutG <| Tri.seq <| Tri.block ?_
    (refine Tri.cut 1 Tryz.mixed Tryz.T_ok ?_; refine xZ ?_)
    refine wD <| cutG <| Tri.seq ?_
    (refine Tri.cut 1 Tryz.mixed Tryz.T_ok ?_; refine xZ ?_)
    refine wD <| cutG <| Tri.cond (b := decide ((i : Int) < 16)) rfl (fun h2 => ?_) (fun h2 => ?_)
    · have h2' : i < 16 := xW
      refine Tri.seq ?_
      have e4 : IntKind.i64.wrap (4 * (i : Int)) = ((4 * i : Nat) : Int) := xW
      have e5 : IntKind.i64.wrap (((4 * i : Nat) : Int) + 4) = ((4 * i + 4 : Nat) : Int) := xW
      (refine Tri.cut 1 Tryz.mixed Tryz.T_ok ?_; refine xZ ?_)
      simp only [e4, e5]
      (refine wN ?_ ?_; exact xW; refine xG ?_)
      refine wD <| cutG <| Tri.block ?_
      refine Tri.loop (α := { j : Nat // j ≤ 4 }) (fun j => spreadSt2 b i j.1) (fun j => 4 - j.1) ⟨0, Nat.zero_le _⟩ ?_ ?_
      · have hl : (((4 * i + 4 : Nat) : Int).toNat - ((4 * i : Nat) : Int).toNat) = 4 := by omega
        have hlo : 0 + ((4 * i : Nat) : Int).toNat = 4 * i := by omega
        rw [hl, hlo]
        ((try dsimp only); refine Ent.renC [0, 1, 2] hC ?_ ?_ <;> repeat' (first | exact trivial | exact rfl | exact ⟨_, rfl, rfl, rfl, Nat.le_refl _, fun _ _ => rfl⟩ | exact ⟨_, rfl, rfl, rfl, fun _ _ => rfl⟩ | exact ⟨_, rfl, rfl, rfl⟩ | exact ⟨_, rfl, rfl⟩ | refine ⟨_, rfl, rfl, rfl, by omega, fun k hk => ?_⟩ | refine ⟨?_, ?_⟩ | fail))
        simp only [wordsF, inW]
        split
        · rename_i e; rw [e, sched_fresh b i i (Nat.le_refl _)]; rfl
        · rfl
      rintro ⟨j, hj⟩
      dsimp only
      (refine Tri.cut 2 Tryz.mixed Tryz.T_ok ?_; refine xZ ?_)
      refine wC (fun h3 => ?_) (fun h3 => ?_)
      · (refine xG ?_)
        have h3' : j < 4 := xW
        refine wD <| cutG <| Tri.seq <| Tri.block <| Tri.of Tryz.mixed Tryz.T_ok ?_
        (refine xB ?_)
        (repeat (refine wN ?_ ?_; exact xW; refine xG ?_))
        refine wD <| blockN <| cutG <| Tri.of Tryz.mixed Tryz.T_ok ?_
        (refine xB ?_)
        have hw : IntKind.i64.wrap ((j : Int) + 1) = ((j + 1 : Nat) : Int) := xW
        refine wD <| loopN ⟨⟨j + 1, h3'⟩, by dsimp only; omega, ?_⟩
        rw [hw]
        ((try dsimp only); refine Ent.renC [0, 1, 2] hC ?_ ?_ <;> repeat' (first | exact trivial | exact rfl | exact ⟨_, rfl, rfl, rfl, Nat.le_refl _, fun _ _ => rfl⟩ | exact ⟨_, rfl, rfl, rfl, fun _ _ => rfl⟩ | exact ⟨_, rfl, rfl, rfl⟩ | exact ⟨_, rfl, rfl⟩ | refine ⟨_, rfl, rfl, rfl, by omega, fun k hk => ?_⟩ | refine ⟨?_, ?_⟩ | fail))
        simp only [Int.toNat_natCast]
        rw [updW]
        simp only [wordsF, inW]
        split
        · rename_i e; subst e; simp [partW, push, inW]
        · rfl
      · (refine xG ?_)
        have h3' : j = 4 := xW
        subst h3'
        refine wD <| cutE <| loopX <| blockX <| cutG <| Tri.of Tryz.mixed Tryz.T_ok ?_
        (refine xB ?_)
        refine wD <| cutE <| blockX <| cutG <| Tri.of Tryz.mixed Tryz.T_ok ?_
        (refine xB ?_)
        have hw : IntKind.i64.wrap ((i : Int) + 1) = ((i + 1 : Nat) : Int) := xW
        refine wD <| loopN ⟨⟨i + 1, h1'⟩, by dsimp only; omega, ?_⟩
        rw [hw]
        ((try dsimp only); refine Ent.renC [0, 1, 2] hC ?_ ?_ <;> repeat' (first | exact trivial | exact rfl | exact ⟨_, rfl, rfl, rfl, Nat.le_refl _, fun _ _ => rfl⟩ | exact ⟨_, rfl, rfl, rfl, fun _ _ => rfl⟩ | exact ⟨_, rfl, rfl, rfl⟩ | exact ⟨_, rfl, rfl⟩ | refine ⟨_, rfl, rfl, rfl, by omega, fun k hk => ?_⟩ | refine ⟨?_, ?_⟩ | fail))
        simp only [wordsF, inW, sched_step]
        split
        · rfl
        · rfl
    · have h2' : 16 ≤ i := xW
      refine Tri.skip (cutG ?_)
      refine Tri.of Tryz.mixed Tryz.T_ok ?_
      (refine xB ?_)
      (repeat (refine wN ?_ ?_; exact xW; refine xG ?_))
      have e15 : IntKind.i64.wrap ((i : Int) - 15) = ((i - 15 : Nat) : Int) := xW
      have e16 : IntKind.i64.wrap ((i : Int) - 16) = ((i - 16 : Nat) : Int) := xW
      have e7 : IntKind.i64.wrap ((i : Int) - 7) = ((i - 7 : Nat) : Int) := xW
      have e2 : IntKind.i64.wrap ((i : Int) - 2) = ((i - 2 : Nat) : Int) := xW
      (apply wP; exact (call_op rfl (entersB_of Tryz.func232 (by kernel_rfl)) rfl (right_spec _ _ _ _)); refine xZ ?_)
      (apply wP; exact (call_op rfl (entersB_of Tryz.func232 (by kernel_rfl)) rfl (right_spec _ _ _ _)); refine xZ ?_)
      (apply wP; exact (call_op rfl (entersB_of Tryz.func232 (by kernel_rfl)) rfl (right_spec _ _ _ _)); refine xZ ?_)
      (apply wP; exact (call_op rfl (entersB_of Tryz.func232 (by kernel_rfl)) rfl (right_spec _ _ _ _)); refine xZ ?_)
      (repeat (refine wN ?_ ?_; exact xW; refine xG ?_))
      simp only [e15, e16, e7, e2, Int.toNat_natCast]
      refine wD <| blockN <| cutG <| Tri.of Tryz.mixed Tryz.T_ok ?_
      (refine xB ?_)
      have hw : IntKind.i64.wrap ((i : Int) + 1) = ((i + 1 : Nat) : Int) := xW
      refine wD <| loopN ⟨⟨i + 1, h1'⟩, by dsimp only; omega, ?_⟩
      rw [hw]
      ((try dsimp only); refine Ent.renC [0, 1, 2] hC ?_ ?_ <;> repeat' (first | exact trivial | exact rfl | exact ⟨_, rfl, rfl, rfl, Nat.le_refl _, fun _ _ => rfl⟩ | exact ⟨_, rfl, rfl, rfl, fun _ _ => rfl⟩ | exact ⟨_, rfl, rfl, rfl⟩ | exact ⟨_, rfl, rfl⟩ | refine ⟨_, rfl, rfl, rfl, by omega, fun k hk => ?_⟩ | refine ⟨?_, ?_⟩ | fail))
      rw [updW]
      simp only [wordsF, sched_step]
      split
      · rw [if_neg (by omega)]; rfl
      · rfl
  · (refine xG ?_)
    have h1' : i = 64 := xW
    subst h1'
    refine wD <| cutE <| loopX <| blockX <| cutG <| Tri.of Tryz.mixed Tryz.T_ok ?_
    (refine xB ?_)
    (repeat (refine wN ?_ ?_; exact xW; refine xG ?_))
    exact wD (Ends.plain (.inr rfl) rfl rfl)
end Go.Proofs.YtnpkdoggfnlapaaGreatDoor
namespace Go.Proofs.YtnpkdoggfnlapaaGreatDoor
set_option maxRecDepth 100000
open Go.Sx
def startW : Nat → Int
  | 0 => 1779033703 | 1 => 3144134277 | 2 => 1013904242 | 3 => 2773480762 | 4 => 1359893119 | 5 => 2600822924 | 6 => 528734635 | 7 => 1541459225 | _ => 0
def stepL : List Int := [1116352408, 1899447441, 3049323471, 3921009573, 961987163, 1508970993, 2453635748, 2870763221, 3624381080, 310598401, 607225278, 1426881987, 1925078388, 2162078206, 2614888103, 3248222580, 3835390401, 4022224774, 264347078, 604807628, 770255983, 1249150122, 1555081692, 1996064986, 2554220882, 2821834349, 2952996808, 3210313671, 3336571891, 3584528711, 113926993, 338241895, 666307205, 773529912, 1294757372, 1396182291, 1695183700, 1986661051, 2177026350, 2456956037, 2730485921, 2820302411, 3259730800, 3345764771, 3516065817, 3600352804, 4094571909, 275423344, 430227734, 506948616, 659060556, 883997877, 958139571, 1322822218, 1537002063, 1747873779, 1955562222, 2024104815, 2227730452, 2361852424, 2428436474, 2756734187, 3204031479, 3329325298]
def stepW (i : Nat) : Int := stepL.getD i 0
def stepsP : ExtP := GlobP 0 1 64 (wordsF stepW)
theorem start_can : Reads Tryz.prog 209 [] [] (.cv (.agg ((tabF (wordsF startW) 0 8).map .raw))) := by
  refine Reads.of Tryz.T_ok Tryz.func209 rfl _ _ _ rfl (aggs_ok _ _) (fun C hC => ?_)
  refine Tri.of Tryz.mixed Tryz.T_ok ?_
  (refine xB ?_)
  exact Ends.plain (.inr rfl) rfl rfl
theorem rounds_can : Reads Tryz.prog 150 [] [] (.cv (.agg ((tabF (wordsF stepW) 0 64).map .raw))) := by
  refine Reads.of Tryz.T_ok Tryz.func150 rfl _ _ _ rfl (aggs_ok _ _) (fun C hC => ?_)
  refine Tri.of Tryz.mixed Tryz.T_ok ?_
  (refine xB ?_)
  exact Ends.plain (.inr rfl) rfl rfl
def sumA (v : Nat → Int) : Int := bitI .xor .u32 (bitI .xor .u32 (rotR (v 0) 2) (rotR (v 0) 13)) (rotR (v 0) 22)
def sumE (v : Nat → Int) : Int := bitI .xor .u32 (bitI .xor .u32 (rotR (v 4) 6) (rotR (v 4) 11)) (rotR (v 4) 25)
def chE (v : Nat → Int) : Int := bitI .xor .u32 (bitI .and .u32 (v 4) (v 5)) (bitI .and .u32 (bitI .xor .u32 (if IntKind.u32.signed then -1 else IntKind.u32.max) (v 4)) (v 6))
def majA (v : Nat → Int) : Int := bitI .xor .u32 (bitI .xor .u32 (bitI .and .u32 (v 0) (v 1)) (bitI .and .u32 (v 0) (v 2))) (bitI .and .u32 (v 1) (v 2))
def stT (v : Nat → Int) (k x : Int) : Int := w32 (w32 (w32 (w32 (v 7) (sumE v)) (chE v)) k) x
def stU (v : Nat → Int) : Int := w32 (sumA v) (majA v)
def stepV (v : Nat → Int) (k x : Int) : Nat → Int
  | 0 => w32 (stT v k x) (stU v)
  | 1 => v 0
  | 2 => v 1
  | 3 => v 2
  | 4 => w32 (v 3) (stT v k x)
  | 5 => v 4
  | 6 => v 5
  | 7 => v 6
  | _ => 0
def stepsV (h : Nat → Int) (b : Nat → UInt8) : Nat → Nat → Int
  | 0 => h
  | n + 1 => stepV (stepsV h b n) (stepW n) (sched b 64 n)
def blockW (h : Nat → Int) (b : Nat → UInt8) : Nat → Int := fun i => w32 (h i) (stepsV h b 64 i)
def addedW (h : Nat → Int) (b : Nat → UInt8) (n : Nat) : Nat → Int := fun i => if i < n then blockW h b i else h i
def vCells (v : Nat → Int) : List SV := (tabF (wordsF v) 0 8).map .raw
def blockSt (h : Nat → Int) (b : Nat → UInt8) (i : Nat) : St := ⟨[some (XV.sv (.ptr 0 0 0 0)), some (XV.sv (.slc 1 1 0 64)), none, none, some (XV.sv (.ptr 3 0 0 0)), none, none, none, none, none, none, none, none, none, none, none, none, some (.cv (.agg ((tabF (wordsF (sched b 64)) 0 64).map .raw))), some (XV.int .i64 i)] ++ List.replicate 87 none,
  [(0, .vec 283 1 8 (wordsF h)), (1, .ro 1 64 (bytesF b)), (2, .ext stepsP), (3, .cells 283 (vCells (stepsV h b i)))], 4⟩
def blockSt2 (h : Nat → Int) (b : Nat → UInt8) (i : Nat) : St := ⟨[some (XV.sv (.ptr 0 0 0 0)), some (XV.sv (.slc 1 1 0 64)), none, none, some (XV.sv (.ptr 3 0 0 0))] ++ List.replicate 86 none ++ [some (.cv (.agg (vCells (stepsV h b 64)))), some (XV.int .i64 i)] ++ List.replicate 13 none,
  [(0, .vec 283 1 8 (wordsF (addedW h b i))), (1, .ro 1 64 (bytesF b)), (2, .ext stepsP), (3, .cells 283 (vCells (stepsV h b 64)))], 4⟩
set_option maxHeartbeats 4000000 in
theorem block_can (h : Nat → Int) (b : Nat → UInt8) : Acts Tryz.prog 210 (.vec 283 1 8 (wordsF h)) (.vec 283 1 8 (wordsF (blockW h b))) [.row 1 64 (bytesF b)] [stepsP] (.tup []) := by
  refine Acts.of Tryz.T_ok Tryz.func210 rfl _ _ _ _ _ rfl rfl rfl (fun C hC => ?_)
  have hC : C.n0 = 3 := hC
  change Tri _ _ _ ⟨_, _, 3⟩ _
  (refine Tri.cut 1 Tryz.mixed Tryz.T_ok ?_; refine xZ ?_)
  (repeat (refine wN ?_ ?_; exact xW; refine xG ?_))
  refine wD <| cutG <| Tri.seq ?_
  (refine Tri.cut 1 Tryz.mixed Tryz.T_ok ?_; refine xZ ?_)
  (apply wP; exact (call_op rfl (entersB_of Tryz.func231 (by kernel_rfl)) rfl ((spread_can b).at [1] ⟨lend_ro rfl rfl (by decide) (fun i _ => by rw [Nat.zero_add]), trivial⟩ trivial)); refine xZ ?_)
  refine wD <| cutG <| Tri.block ?_
  refine Tri.loop (α := { i : Nat // i ≤ 64 }) (fun i => blockSt h b i.1) (fun i => 64 - i.1) ⟨0, Nat.zero_le _⟩ ?_ ?_
  · exact Ent.ren [0, 1, 2, 6] (by decide) rfl (fun i hi => by replace hi := Nat.lt_of_lt_of_eq hi hC; revert i; decide) (Nat.le_trans (Nat.le_of_eq hC) (by decide)) rfl (by repeat' (first | exact trivial | exact rfl | refine ⟨?_, ?_⟩ | fail)) (by repeat' (first | exact trivial | exact ⟨_, rfl, rfl, rfl, Nat.le_refl _, fun _ _ => rfl⟩ | exact ⟨_, rfl, rfl, rfl, fun _ _ => rfl⟩ | exact ⟨_, rfl, rfl, rfl⟩ | exact ⟨_, rfl, rfl⟩ | refine ⟨?_, ?_⟩ | fail))
  rintro ⟨i, hi⟩
  dsimp only
  (refine Tri.cut 2 Tryz.mixed Tryz.T_ok ?_; refine xZ ?_)
  refine wC (fun h1 => ?_) (fun h1 => ?_)
  · (refine xG ?_)
    have h1' : i < 64 := xW
    refine wD <| cutG <| Tri.seq <| Tri.block ?_
    (refine Tri.cut 1 Tryz.mixed Tryz.T_ok ?_; refine xZ ?_)
    (refine wP _ _ (index_op Tryz.T_ok (wordsF (sched b 64)) rfl rfl rfl rfl rfl rfl (fun _ _ => rfl) rfl (by omega) (by omega) rfl) ?_; refine xZ ?_)
    refine wD <| cutG ?_
    (refine Tri.cut 1 Tryz.mixed Tryz.T_ok ?_; refine xZ ?_)
    refine wD <| cutG ?_
    (refine Tri.cut 1 Tryz.mixed Tryz.T_ok ?_; refine xZ ?_)
    (apply wP; exact (call_op rfl (entersB_of Tryz.func232 (by kernel_rfl)) rfl (right_spec _ _ _ _)); refine xZ ?_)
    (apply wP; exact (call_op rfl (entersB_of Tryz.func232 (by kernel_rfl)) rfl (right_spec _ _ _ _)); refine xZ ?_)
    (apply wP; exact (call_op rfl (entersB_of Tryz.func232 (by kernel_rfl)) rfl (right_spec _ _ _ _)); refine xZ ?_)
    (refine wP _ _ (globIndex_op Tryz.T_ok rfl rfl rfl rfl rfl rfl (by omega) (by omega)) ?_; refine xZ ?_)
    (refine wP _ _ (globLoad_op Tryz.T_ok (q := 2) (i := ((i : Int)).toNat) rfl rfl rfl rfl rfl (by omega) rfl) ?_; refine xZ ?_)
    refine wD <| cutG ?_
    (refine Tri.cut 1 Tryz.mixed Tryz.T_ok ?_; refine xZ ?_)
    (apply wP; exact (call_op rfl (entersB_of Tryz.func232 (by kernel_rfl)) rfl (right_spec _ _ _ _)); refine xZ ?_)
    (apply wP; exact (call_op rfl (entersB_of Tryz.func232 (by kernel_rfl)) rfl (right_spec _ _ _ _)); refine xZ ?_)
    (apply wP; exact (call_op rfl (entersB_of Tryz.func232 (by kernel_rfl)) rfl (right_spec _ _ _ _)); refine xZ ?_)
    refine wD <| cutG ?_
    (refine Tri.cut 1 Tryz.mixed Tryz.T_ok ?_; refine xZ ?_)
    (refine wP _ _ (copy_op Tryz.T_ok (k := 7) (m := 7) (g := wordsF (stepsV h b i)) [3] rfl rfl rfl rfl rfl (by decide) rfl rfl (new_sla rfl rfl rfl (fun _ _ => rfl) rfl) rfl (by decide) (Nat.le_of_ble_eq_true rfl) (fun _ _ => rfl) rfl) ?_; refine xZ ?_)
    refine wD <| cutG <| Tri.of Tryz.mixed Tryz.T_ok ?_
    (refine xB ?_)
    refine wD <| blockN <| cutG <| Tri.of Tryz.mixed Tryz.T_ok ?_
    (refine xB ?_)
    have hw : IntKind.i64.wrap ((i : Int) + 1) = ((i + 1 : Nat) : Int) := xW
    refine wD <| loopN ⟨⟨i + 1, h1'⟩, by dsimp only; omega, ?_⟩
    rw [hw]
    exact Ent.ren [0, 1, 2, 3] (by decide) rfl (fun i hi => by replace hi := Nat.lt_of_lt_of_eq hi hC; revert i; decide) (Nat.le_trans (Nat.le_of_eq hC) (by decide)) rfl (by repeat' (first | exact trivial | exact rfl | refine ⟨?_, ?_⟩ | fail)) (by repeat' (first | exact trivial | exact ⟨_, rfl, rfl, rfl, Nat.le_refl _, fun _ _ => rfl⟩ | exact ⟨_, rfl, rfl, rfl, fun _ _ => rfl⟩ | exact ⟨_, rfl, rfl, rfl⟩ | exact ⟨_, rfl, rfl⟩ | refine ⟨?_, ?_⟩ | fail))
  · (refine xG ?_)
    have h1' : i = 64 := xW
    subst h1'
    refine wD <| cutE <| loopX <| blockX <| cutG ?_
    (refine Tri.cut 1 Tryz.mixed Tryz.T_ok ?_; refine xZ ?_)
    refine wD <| cutG <| Tri.block ?_
    refine Tri.loop (α := { i : Nat // i ≤ 8 }) (fun i => blockSt2 h b i.1) (fun i => 8 - i.1) ⟨0, Nat.zero_le _⟩ ?_ ?_
    · exact Ent.ren [0, 1, 2, 3] (by decide) rfl (fun i hi => by replace hi := Nat.lt_of_lt_of_eq hi hC; revert i; decide) (Nat.le_trans (Nat.le_of_eq hC) (by decide)) rfl (by repeat' (first | exact trivial | exact rfl | refine ⟨?_, ?_⟩ | fail)) (by repeat' (first | exact trivial | exact ⟨_, rfl, rfl, rfl, Nat.le_refl _, fun _ _ => rfl⟩ | exact ⟨_, rfl, rfl, rfl, fun _ _ => rfl⟩ | exact ⟨_, rfl, rfl, rfl⟩ | exact ⟨_, rfl, rfl⟩ | refine ⟨?_, ?_⟩ | fail))
    rintro ⟨j, hj⟩
    dsimp only
    (refine Tri.cut 2 Tryz.mixed Tryz.T_ok ?_; refine xZ ?_)
    refine wC (fun h2 => ?_) (fun h2 => ?_)
    · (refine xG ?_)
      have h2' : j < 8 := xW
      refine wD <| cutG <| Tri.seq <| Tri.block <| Tri.of Tryz.mixed Tryz.T_ok ?_
      (refine xB ?_)
      (refine wP _ _ (index_op Tryz.T_ok (wordsF (stepsV h b 64)) rfl rfl rfl rfl rfl rfl (fun _ _ => rfl) rfl (by omega) (by omega) rfl) ?_; refine xZ ?_)
      (repeat (refine wN ?_ ?_; exact xW; refine xG ?_))
      refine wD <| blockN <| cutG <| Tri.of Tryz.mixed Tryz.T_ok ?_
      (refine xB ?_)
      have hw : IntKind.i64.wrap ((j : Int) + 1) = ((j + 1 : Nat) : Int) := xW
      refine wD <| loopN ⟨⟨j + 1, h2'⟩, by dsimp only; omega, ?_⟩
      rw [hw]
      ((try dsimp only); refine Ent.renC [0, 1, 2, 3] hC ?_ ?_ <;> repeat' (first | exact trivial | exact rfl | exact ⟨_, rfl, rfl, rfl, Nat.le_refl _, fun _ _ => rfl⟩ | exact ⟨_, rfl, rfl, rfl, fun _ _ => rfl⟩ | exact ⟨_, rfl, rfl, rfl⟩ | exact ⟨_, rfl, rfl⟩ | refine ⟨_, rfl, rfl, rfl, by omega, fun k hk => ?_⟩ | refine ⟨?_, ?_⟩ | fail))
      rw [updW]
      simp only [wordsF, addedW, Int.toNat_natCast]
      by_cases hk2 : k = j
      · subst hk2
        rw [if_pos rfl, if_neg (Nat.lt_irrefl k), if_pos (Nat.lt_succ_self k)]
        rfl
      · rw [if_neg hk2]
        by_cases hk3 : k < j
        · rw [if_pos hk3, if_pos (by omega)]
        · rw [if_neg hk3, if_neg (by omega)]
    · (refine xG ?_)
      have h2' : j = 8 := xW
      subst h2'
      have hf : ∀ k, k < 8 → wordsF (addedW h b 8) k = wordsF (blockW h b) k := fun k hk => by simp [wordsF, addedW, hk]
      refine wD <| cutE <| loopX <| blockX ⟨.inl rfl, ⟨_, (0, .vec 283 1 8 (wordsF (blockW h b))) :: _, _⟩, Ent.chg0 rfl hf, rfl, fun i ch hi => ?_, fun i ch hi => by cases hi⟩
      simp only [Mem.get, nbeq] at hi
      by_cases hi0 : 0 = i
      · subst hi0
        simp only [decide_true, cond_true, Option.some.injEq] at hi
        exact ⟨by decide, by rw [← hi]; rfl⟩
      · simp [hi0] at hi
end Go.Proofs.YtnpkdoggfnlapaaGreatDoor
namespace Go.Proofs.YtnpkdoggfnlapaaGreatDoor
set_option maxRecDepth 100000
open Go.Sx
def rowB (l : List UInt8) : Nat → List Value := bytesF fun i => l.getD i 0
theorem rowB_join {a b : List UInt8} {f g : Nat → List Value} {m i : Nat} (hm : m = a.length) (hf : ∀ i, i < a.length → f i = rowB a i) (hg : ∀ i, i < b.length → g i = rowB b i) (hi : i < a.length + b.length) : joinF f m g i = rowB (a ++ b) i := by
  subst hm
  simp only [joinF, nblt]
  by_cases h : i < a.length
  · simp only [h, decide_true, cond_true]
    rw [hf i h]
    simp [rowB, bytesF, List.getD_eq_getElem?_getD, List.getElem?_append_left h]
  · simp only [h, decide_false, cond_false]
    rw [hg _ (by omega)]
    simp [rowB, bytesF, List.getD_eq_getElem?_getD, List.getElem?_append_right (show a.length ≤ i by omega)]
theorem rowB_snoc {a : List UInt8} {x : UInt8} {g : Nat → List Value} {m k : Nat} (hm : m = a.length) (hg : g 0 = [u8 x]) (hk : k < a.length + 1) : joinF (rowB a) m g k = rowB (a ++ [x]) k :=
  rowB_join (b := [x]) hm (fun _ _ => rfl) (fun i hi => by
    have : i = 0 := by simp at hi; omega
    subst this
    exact hg) hk
theorem lt1 {P : Nat → Prop} (h : P 0) : ∀ i, i < 1 → P i := fun i hi => by
  have : i = 0 := by omega
  rw [this]; exact h
def Short (l : List UInt8) : Prop := l.length ≤ 1000000000
theorem clone_can (l : List UInt8) (hl : Short l) : Makes Tryz.prog 208 [.row 1 l.length (rowB l)] [] (XV.sv (.slc 0 1 0 l.length)) (.vec 5 1 l.length (rowB l)) := by
  refine Makes.of Tryz.T_ok Tryz.func208 rfl _ _ _ _ rfl rfl rfl rfl 1 (fun C hC => ?_)
  (replace hC : C.n0 = 1 := hC; change Tri _ _ _ ⟨_, _, 1⟩ _)
  (refine Tri.cut 1 Tryz.mixed Tryz.T_ok ?_; refine xZ ?_)
  refine wD <| cutG <| Tri.nilCases 0 rfl (fun h0 => ?_) (fun cap hcap => ?_)
  · obtain rfl : l = [] := List.length_eq_zero_iff.1 h0
    refine Tri.of Tryz.mixed Tryz.T_ok ?_
    (refine xB ?_)
    refine wD (Ends.made (S' := ⟨[none, none, some (XV.sv (.slc 1 1 0 0)), none, none, none, none, none], [(0, .ro 1 0 (rowB [])), (1, .vec 5 1 0 (rowB []))], 2⟩) (.inr rfl) ((Ent.nils (t := 2) rfl 5 1).trans ?_) rfl (Nat.le_refl _) rfl)
    ((try dsimp only); refine Ent.renC [0, 5] hC ?_ ?_ <;> repeat' (first | exact trivial | exact rfl | exact ⟨_, rfl, rfl, rfl, Nat.le_refl _, fun _ _ => rfl⟩ | exact ⟨_, rfl, rfl, rfl, fun _ _ => rfl⟩ | exact ⟨_, rfl, rfl, rfl⟩ | exact ⟨_, rfl, rfl⟩ | refine ⟨_, rfl, rfl, rfl, by omega, fun k hk => ?_⟩ | refine ⟨?_, ?_⟩ | fail))
    exact absurd hk (Nat.not_lt_zero _)
  · refine Tri.of Tryz.mixed Tryz.T_ok ?_
    (refine xB ?_)
    have hb : l.length ≤ 1000000000 := hl
    (refine wP _ _ (append_op Tryz.T_ok rfl rfl rfl rfl rfl [0, 4] (old_vec rfl rfl (Nat.le_refl _) rfl) (new_slar (lo := 0) rfl rfl rfl (Nat.zero_mul _).symm (by omega)) rfl (fun _ _ => rfl) (by simp only [maxLen]; omega) (by dsimp only; omega)) ?_; refine xZ ?_)
    simp only [Nat.zero_add]
    refine wD (Ends.made (S' := ⟨[none, none, some (XV.sv (.slc 1 1 0 l.length)), none, none, none, none, none], [(0, .ro 1 l.length (rowB l)), (1, .vec 5 1 l.length (rowB l))], 2⟩) (.inr rfl) ?_ rfl (Nat.le_refl _) rfl)
    ((try dsimp only); refine Ent.renC [0, 6] hC ?_ ?_ <;> repeat' (first | exact trivial | exact rfl | exact ⟨_, rfl, rfl, rfl, Nat.le_refl _, fun _ _ => rfl⟩ | exact ⟨_, rfl, rfl, rfl, fun _ _ => rfl⟩ | exact ⟨_, rfl, rfl, rfl⟩ | exact ⟨_, rfl, rfl⟩ | refine ⟨_, rfl, rfl, rfl, by omega, fun k hk => ?_⟩ | refine ⟨?_, ?_⟩ | fail))
end Go.Proofs.YtnpkdoggfnlapaaGreatDoor
