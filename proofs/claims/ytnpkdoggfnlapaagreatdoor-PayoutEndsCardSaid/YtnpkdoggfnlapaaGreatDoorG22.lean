/- Parts Yl Hp Hq Hr Hs Hw Yr Ym Yt Za Zm Zo Zp Bb. -/
import Derived.Test.YtnpkdoggfnlapaaGreatDoorG20
import Derived.Test.YtnpkdoggfnlapaaGreatDoorG12
import Derived.Test.YtnpkdoggfnlapaaGreatDoorG17
import Derived.Test.YtnpkdoggfnlapaaGreatDoorG11
import Derived.Test.YtnpkdoggfnlapaaGreatDoorG21
import Derived.Test.YtnpkdoggfnlapaaGreatDoorG19
import Derived.Test.YtnpkdoggfnlapaaGreatDoorG18
set_option linter.unusedSimpArgs false
set_option linter.unusedVariables false
namespace Go.Proofs.YtnpkdoggfnlapaaGreatDoor
set_option maxRecDepth 100000
open Go.Sx
abbrev lV:TypeId:=108
abbrev og:TypeId:=109
abbrev kC (L:List au):mQ:=Dl lV og L
theorem EH (p:gZ) (h:Int) (q:Nat) (hq:Boxed q [.vec 29 8 p.keys.length (dA p.keys)] [.ins q 1 0 p.keys.length] [.row 8 p.keys.length (dA p.keys)]):Boxed q [.vec 29 8 p.keys.length (dA p.keys)] (gq (iO p h) (.ins q 1 0 p.keys.length) lG lG lG) (iO p h).ac :=
 BJ (x:=iO p h) hq ⟨.inl ⟨rfl,rfl⟩,trivial⟩ ⟨.inl ⟨rfl,rfl⟩,trivial⟩ ⟨.inl ⟨rfl,rfl⟩,trivial⟩
theorem BI (p:gZ) (q:Nat):Boxed q [.vec 29 8 p.keys.length (dA p.keys)] [.ins q 1 0 p.keys.length] [.row 8 p.keys.length (dA p.keys)]:=⟨.inr ⟨0,_,_,rfl,rfl,Nat.le_refl _,rfl⟩,trivial⟩
def lU (h:Int) (c:Nat):List (Option XV):=[some (XV.sv (.ptr 0 0 0 0)),none,some (XV.int .i64 h),none,some (XV.sv (.ptr c 0 0 0))]++List.replicate 35 none
def Ed (p:gZ) (k:SV):Chunk := .cells 40 (sU p k)
def qW (p:gZ):Chunk := .vec 29 8 p.keys.length (dA p.keys)
theorem Sq {M:Mem} {i:Nat} {c0 c:Chunk} (h:M.get i=some c0) (hc:kZ c0 c):∀ (j k:Nat) (ch:Chunk),[i][j]? = some k→[c][j]? = some ch→∃ ch0,M.get k=some ch0∧kZ ch0 ch:=by
 intro j k ch h1 h2
 rcases j with _ |j
 ·cases h1;cases h2;exact ⟨_,h,hc⟩
 ·cases h1
set_option maxHeartbeats 4000000 in
theorem J3 (L:List au) (p:gZ) (h:Int) (hl:p.keys.length≤1000000) (hL:L.length<8) (hp:rG p=true):fH Tryz.prog 65 (.abs (kC L)) (.abs (kC (L++[iO p h]))) [.box p.ac,.plain (.one (.raw (.int .i64 h)))] [] (.tup [.one (.raw (.int .i64 L.length)),.one (.raw (.int .i64 0))]):=by
 have hq:=AL p (by omega)
 rw [hp] at hq
 refine fH.of Tryz.aA Tryz.func65 rfl _ _ _ _ _ rfl rfl rfl (fun C hC => ?_)
 (replace hC:C.n0=3:=hC;change av _ _ _ ⟨_,_,3⟩ _)
 rcases L with _ |⟨x,r⟩
 ·refine Reg.qJ lV og 0 rfl ?_
  refine xK 4 ?_
  refine xC rfl Tryz.func112 rfl (hq.at [1] ⟨gG (aj rfl rfl),trivial⟩ trivial) ?_
  (refine wP _ _ (aD Tryz.aA rfl rfl rfl rfl rfl [1] (yJ rfl _ _ _ (fun _=>[])) (CJ (lo:=0) rfl rfl (Nat.le_of_eq (Nat.zero_add _)) rfl) rfl (fun _ _=>rfl) (by simp only [maxLen];omega) (by dsimp only;omega)) ?_;refine xZ ?_)
  simp only [Nat.zero_add]
  refine wD <| ak <| av.ent (S':=⟨lU h 3,[(0,.cells lV [lG]),(3,Ed p (.slc 4 8 0 p.keys.length)),(4,qW p)],5⟩) ?_ <| av.ent (aN.NG [4] [qW p] (by decide) rfl rfl (Sq rfl (kZ.refl _ rfl))) <|
   av.ent (S':=⟨lU h 3,[(0,.cells lV [lG]),(3,Ed p (.ins 4 1 0 p.keys.length)),(4,.abs (mK [qW p]))],5⟩) ?_ (xI ?_)
  ·unfold lU Ed qW
   ((try dsimp only);exact xE [0,1,2,4,18] hC)
  ·unfold lU Ed qW
   ((try dsimp only);exact xE [0,1,2,3,5] hC)
  unfold lU Ed qW
  (refine xB ?_)
  (refine wP _ _ (DZ Tryz.aA rfl rfl rfl rfl rfl rfl) ?_;refine xZ ?_)
  (refine wP _ _ (ou Tryz.aA rfl rfl rfl) ?_;refine xZ ?_)
  (refine wP _ _ (xq Tryz.aA rfl rfl rfl rfl rfl rfl rfl rfl (p:=4) rfl rfl rfl (by decide) (EH p h 4 (BI p 4))) ?_;refine xZ ?_)
  exact wD (Ends.bZ (.inr rfl) (Reg.shuts lV og [iO p h] 0 (i1:=15) Nat.one_pos rfl rfl rfl rfl rfl (Ig rfl)) rfl rfl rfl)
 ·have hLr:r.length + 1<8:=hL
  refine Reg.wB lV og (x::r) 0 (Nat.succ_pos _) rfl ?_
  refine xK 4 ?_
  refine xC rfl Tryz.func112 rfl (hq.at [1] ⟨gG (aj rfl rfl),trivial⟩ trivial) ?_
  (refine kE ?_ ?_;(first |refine decide_eq_false ?_ |rw [beq_eq_false_iff_ne] |rw [bne_eq_false_iff_eq]);exact xW;refine xG ?_)
  (refine wP _ _ (aD Tryz.aA rfl rfl rfl rfl rfl [1] (yJ rfl _ _ _ (fun _=>[])) (CJ (lo:=0) rfl rfl (Nat.le_of_eq (Nat.zero_add _)) rfl) rfl (fun _ _=>rfl) (by simp only [maxLen];omega) (by dsimp only;omega)) ?_;refine xZ ?_)
  simp only [Nat.zero_add]
  refine wD <| ak <| av.ent (S':=⟨lU h 4,[(0,.cells lV [.slc 3 42 0 (x::r).length]),(3,.abs (iP og 42 (x::r).length (bP (x::r)))),(4,Ed p (.slc 5 8 0 p.keys.length)),(5,qW p)],6⟩) ?_ <| av.ent (aN.NG [5] [qW p] (by decide) rfl rfl (Sq rfl (kZ.refl _ rfl))) <|
   av.ent (S':=⟨lU h 4,[(0,.cells lV [.slc 3 42 0 (x::r).length]),(3,.abs (iP og 42 (x::r).length (bP (x::r)))),(4,Ed p (.ins 5 1 0 p.keys.length)),(5,.abs (mK [qW p]))],6⟩) ?_ (xI ?_)
  ·unfold lU Ed qW
   ((try dsimp only);exact xE [0,1,2,4,5,19] hC)
  ·unfold lU Ed qW
   ((try dsimp only);exact xE [0,1,2,3,4,6] hC)
  unfold lU Ed qW
  (refine xB ?_)
  (refine wP _ _ (IJ Tryz.aA rfl rfl rfl rfl rfl rfl rfl rfl (by decide) (Nat.succ_pos _) (by simp only [maxLen];omega) (by dsimp only;omega) (fun i _=>au.V8 _)) ?_;refine xZ ?_)
  (refine wP _ _ (ou Tryz.aA rfl rfl rfl) ?_;refine xZ ?_)
  (refine wP _ _ (rU Tryz.aA rfl rfl rfl rfl rfl rfl rfl rfl rfl (p:=5) rfl (by decide) (by decide) rfl rfl (by simp only [maxLen];omega) (by dsimp only;omega) (EH p h 5 (BI p 5))) ?_;refine xZ ?_)
  have hl1:((x::r)++[iO p h]).length=(x::r).length + 1:=by simp
  refine wD (Ends.bZ (.inr rfl) (Reg.shuts lV og ((x::r)++[iO p h]) 0 (i1:=16) (m:=(x::r).length + 1) (n:=(x::r).length + 1) (by omega) rfl rfl rfl hl1.symm hl1.symm (fun i hi=>FK hi)) rfl rfl ?_)
  have e:IntKind.i64.wrap ((((x::r).length + 1:Nat):Int) - 1)=((x::r).length:Int):=xW
  show XV.tup [.one (.raw (.int .i64 (IntKind.i64.wrap ((((x::r).length + 1:Nat):Int) - 1)))),_]=_
  rw [e]
set_option maxHeartbeats 4000000 in
theorem J9 (L:List au) (i:Nat) (hi:i<L.length) (a:Int) (o:H8) (n:Int):fH Tryz.prog 67 (.abs (kC L)) (.abs (kC (L.set i (xQ (L.getD i default) n)))) [.plain (X5 i a o n)] [] (XV.int .i64 (rE (L.getD i default) n)):=by
 have h0:0<L.length:=by omega
 refine fH.of Tryz.aA Tryz.func67 rfl _ _ _ _ _ rfl rfl rfl (fun C hC => ?_)
 (replace hC:C.n0=2:=hC;change av _ _ _ ⟨_,_,2⟩ _)
 refine Reg.opens lV og L 0 h0 rfl (Nat.le_of_ble_eq_true rfl) (fun ad=>xI ?_)
 (refine xB ?_)
 (refine kE ?_ ?_;(first |refine decide_eq_false ?_ |rw [beq_eq_false_iff_ne] |rw [bne_eq_false_iff_eq]);exact xW;refine xG ?_)
 (refine kE ?_ ?_;(first |refine decide_eq_false ?_ |rw [beq_eq_false_iff_ne] |rw [bne_eq_false_iff_eq]);exact xW;refine xG ?_)
 (repeat (refine wN ?_ ?_;exact xW;refine xG ?_))
 simp only [Nat.zero_add,Int.toNat_natCast]
 obtain ⟨x,hx⟩:∃ x,L.getD i default=x:=⟨_,rfl⟩
 have no:∀ {S:St} {mem:Mem} {e:Int},rE x n=e→e≠0→aN C S ⟨S.slots,(0,.abs (kC L))::mem,S.nx⟩→tK Tryz.T ⟨S.slots,(0,.abs (kC L))::mem,S.nx⟩ Tryz.f67.results.toList=some (XV.int .i64 e) →
   Sx.Ends C Tryz.T Tryz.f67.results.toList 1 2 ⟨XV.int .i64 (rE (L.getD i default) n),[(0,.abs (kC (L.set i (xQ (L.getD i default) n))))],none⟩ .ret S:=by
  intro S mem e he h0 hE hr
  rw [I8 hi (by rw [hx,he];exact h0),hx,he]
  exact Ends.bZ (.inr rfl) hE rfl hr rfl
 have shut:=fun {slots:List (Option XV)} {mem:Mem} {nx:Nat} k0 k1 k2=>Reg.mJ (C:=C) (slots:=slots) (mem:=mem) (nx:=nx) lV og L L 0 (i1:=3) (q:=4) (ad:=ad) (m:=L.length) (n:=L.length) h0 k0 k1 k2 rfl rfl rfl (fun _ _=>rfl) jP
 refine wC (fun h1 => ?_) (fun h1 => ?_)
 ·rw [hx] at h1
  (refine xG ?_)
  exact wD (no (if_pos h1) (by decide) (shut rfl rfl rfl) rfl)
 rw [hx] at h1
 have bad:jY x n=false→rE x n=5:=fun h=>by rw [rE,if_neg (by rw [h1];simp),if_neg (by rw [h];simp)]
 (refine xG ?_)
 refine wC (fun h2 => ?_) (fun h2 => ?_)
 ·(refine xG ?_)
  exact wD (no (bad (by rw [jY,h2];rfl)) (by decide) (shut rfl rfl rfl) rfl)
 (refine xG ?_)
 refine wC (fun h3 => ?_) (fun h3 => ?_)
 ·have h3:kX n=false:=by simp only [decide_eq_true_eq] at h3;rw [kX,decide_eq_false (show ¬ n≤1125899906842624 by omega),Bool.and_false]
  (refine xG ?_)
  exact wD (no (bad (by rw [jY,h2,h3];rfl)) (by decide) (shut rfl rfl rfl) rfl)
 have h3:kX n=true:=by simp only [decide_eq_false_iff_not] at h2 h3;rw [kX,decide_eq_true (show 0≤n by omega),decide_eq_true (show n≤1125899906842624 by omega)];rfl
 (refine xG ?_)
 refine wC (fun h4 => ?_) (fun h4 => ?_)
 ·rw [hx] at h4
  (refine xG ?_)
  exact wD (no (bad (by rw [jY,h2,h3,yV,h4];rfl)) (by decide) (shut rfl rfl rfl) rfl)
 rw [hx] at h4
 (refine xG ?_)
 refine wC (fun h5 => ?_) (fun h5 => ?_)
 ·rw [hx] at h5
  (refine xG ?_)
  exact wD (no (bad (by rw [jY,h2,h3,yV,h4,h5];rfl)) (by decide) (shut rfl rfl rfl) rfl)
 rw [hx] at h5
 have he:rE x n=0:=by rw [rE,if_neg (by rw [h1];simp),if_pos (by rw [jY,h2,h3,yV,h4,h5];rfl)]
 have hX:xQ x n={ x with bal:=IntKind.i64.wrap (x.bal + n),fwd:=IntKind.i64.wrap (x.fwd + n) }:=by rw [xQ,if_pos he]
 (refine xG ?_)
 (repeat (refine wN ?_ ?_;exact xW;refine xG ?_))
 simp only [Nat.zero_add,Int.toNat_natCast]
 rw [hx,he,hX]
 have hl:∀ y:au,(L.set i y).length=L.length:=fun y=>List.length_set ..
 refine wD (Ends.bZ (.inr rfl) (Reg.mJ lV og L (L.set i { x with bal:=IntKind.i64.wrap (x.bal + n),fwd:=IntKind.i64.wrap (x.fwd + n) }) 0 (i1:=3) (q:=4) (ad:=ad) (by rw [hl];exact h0) rfl rfl rfl rfl (hl _).symm (hl _).symm (fun k hk => ?_) (fun k hk j y hy => ?_)) rfl rfl rfl)
 ·by_cases hki:k=i
  ·subst hki
   rw [jE,iU hi];rfl
  ·rw [iG hki,iV hki]
 ·by_cases hki:k=i
  ·subst hki
   rw [iU hi] at hy
   rw [bP,hx]
   exact qd (x:={ x with bal:=IntKind.i64.wrap (x.bal + n),fwd:=IntKind.i64.wrap (x.fwd + n) }) (y:=x) rfl rfl rfl rfl hy
  ·rw [iV hki] at hy
   exact .inr hy
set_option maxRecDepth 100000
open Go.Sx
noncomputable def jM {α:Type} (x:Nat) (k:Nat→α):α := @Nat.rec (fun _=>α) (k 0) (fun n _=>k (Nat.succ n)) x
theorem zI {α:Type} (x:Nat) (k:Nat→α):jM x k=k x:=by cases x<;>rfl
def oo (x n m:Nat):Nat:=Nat.lor (Nat.shiftRight x n) (Nat.mod (Nat.shiftLeft x m) 4294967296)
def XJ (x:Nat):Nat:=Nat.xor (Nat.xor (oo x 2 30) (oo x 13 19)) (oo x 22 10)
def Yx (x:Nat):Nat:=Nat.xor (Nat.xor (oo x 6 26) (oo x 11 21)) (oo x 25 7)
def ns0 (x:Nat):Nat:=Nat.xor (Nat.xor (oo x 7 25) (oo x 18 14)) (Nat.shiftRight x 3)
def Yz (x:Nat):Nat:=Nat.xor (Nat.xor (oo x 17 15) (oo x 19 13)) (Nat.shiftRight x 10)
def Yy (e f g:Nat):Nat:=Nat.xor (Nat.land e f) (Nat.land (Nat.xor 4294967295 e) g)
def O5 (a b c:Nat):Nat:=Nat.xor (Nat.xor (Nat.land a b) (Nat.land a c)) (Nat.land b c)
def nT (e f g h k w:Nat):Nat:=Nat.mod (Nat.add (Nat.add (Nat.add (Nat.add h (Yx e)) (Yy e f g)) k) w) 4294967296
def jK (a b:Nat):Nat:=Nat.mod (Nat.add a b) 4294967296
def R5 (w0 w1 w9 w14:Nat):Nat:=Nat.mod (Nat.add (Nat.add (Nat.add w0 w9) (ns0 w1)) (Yz w14)) 4294967296
abbrev mq (x:Nat):Prop:=x<4294967296
theorem uj (f:BitVec 32→BitVec 32→BitVec 32) (g:Nat→Nat→Nat) (hf:∀ a b,(f a b).toNat=g a.toNat b.toNat) {x y:Nat} (hx:mq x) (hy:mq y):IntKind.u32.wrap ((f (BitVec.ofInt 32 (x:Int)) (BitVec.ofInt 32 (y:Int))).toNat:Int)=((g x y:Nat):Int)∧mq (g x y):=by
 have e1:(BitVec.ofInt 32 (x:Int)).toNat=x:=by rw [nC,BitVec.toNat_ofNat];exact Nat.mod_eq_of_lt hx
 have e2:(BitVec.ofInt 32 (y:Int)).toNat=y:=by rw [nC,BitVec.toNat_ofNat];exact Nat.mod_eq_of_lt hy
 have h:=(f (BitVec.ofInt 32 (x:Int)) (BitVec.ofInt 32 (y:Int))).isLt
 rw [hf,e1,e2] at h ⊢
 refine ⟨?_,h⟩
 rw [IntKind.wrap_u32]
 exact Int.emod_eq_of_lt (by omega) (by omega)
theorem jV {x y:Nat} (hx:mq x) (hy:mq y):fA .xor .u32 (x:Int) (y:Int)=((Nat.xor x y:Nat):Int):=(uj (· ^^^ ·) Nat.xor (fun a b=>BitVec.toNat_xor a b) hx hy).1
theorem xg {x y:Nat} (hx:mq x) (hy:mq y):fA .and .u32 (x:Int) (y:Int)=((Nat.land x y:Nat):Int):=(uj (· &&& ·) Nat.land (fun a b=>BitVec.toNat_and a b) hx hy).1
theorem Sg {x y:Nat} (hx:mq x) (hy:mq y):fA .or .u32 (x:Int) (y:Int)=((Nat.lor x y:Nat):Int):=(uj (· ||| ·) Nat.lor (fun a b=>BitVec.toNat_or a b) hx hy).1
theorem wV {x y:Nat} (hx:mq x) (hy:mq y):mq (Nat.xor x y):=(uj (· ^^^ ·) Nat.xor (fun a b=>BitVec.toNat_xor a b) hx hy).2
theorem vG {x y:Nat} (hx:mq x) (hy:mq y):mq (Nat.land x y):=(uj (· &&& ·) Nat.land (fun a b=>BitVec.toNat_and a b) hx hy).2
theorem Yc {x y:Nat} (hx:mq x) (hy:mq y):mq (Nat.lor x y):=(uj (· ||| ·) Nat.lor (fun a b=>BitVec.toNat_or a b) hx hy).2
theorem uN (x n:Nat) (hn:n≤32):iN .u32 (x:Int) (n:Int)=((Nat.shiftRight x n:Nat):Int):=by
 have hb:IntKind.u32.bits=32:=rfl
 have e:min ((n:Int).toNat) IntKind.u32.bits=n:=by rw [hb];omega
 rw [iN,e,Int.fdiv_eq_ediv_of_nonneg _ (Int.le_of_lt (Int.pow_pos (by decide)))]
 show _=((x >>> n:Nat):Int)
 rw [Nat.shiftRight_eq_div_pow,Int.natCast_ediv,Int.natCast_pow]
 rfl
theorem FY (x n:Nat) (hn:n≤32):tO .u32 (x:Int) (n:Int)=((Nat.mod (Nat.shiftLeft x n) 4294967296:Nat):Int):=by
 have hb:IntKind.u32.bits=32:=rfl
 have e:min ((n:Int).toNat) IntKind.u32.bits=n:=by rw [hb];omega
 rw [tO,e,IntKind.wrap_u32]
 show _=((x <<< n % 4294967296:Nat):Int)
 rw [Nat.shiftLeft_eq,Int.natCast_emod,Int.natCast_mul,Int.natCast_pow]
 rfl
theorem gW (x:Nat):mq (Nat.mod x 4294967296):=Nat.mod_lt _ (by decide)
theorem Hy {x:Nat} (n:Nat) (hx:mq x):mq (Nat.shiftRight x n):=by
 show x >>> n<_
 rw [Nat.shiftRight_eq_div_pow]
 exact Nat.lt_of_le_of_lt (Nat.div_le_self _ _) hx
theorem iM {x:Nat} (n m:Nat) (hx:mq x):mq (oo x n m):=Yc (Hy n hx) (gW _)
theorem jQ {x n m:Nat} (hx:mq x) (hn:n≤32) (hm:m≤32) (e:IntKind.u64.wrap (32 - (n:Int))=(m:Int)):turn (x:Int) (n:Int)=((oo x n m:Nat):Int):=by
 rw [turn,e,uN x n hn,FY x m hm,Sg (Hy n hx) (gW _)]
 rfl
theorem fT (a b:Nat):w32 (a:Int) (b:Int)=((jK a b:Nat):Int):=by
 rw [w32,IntKind.wrap_u32]
 show _=(((a + b) % 4294967296:Nat):Int)
 omega
theorem yY {x:Nat} (hx:mq x):rotR (x:Int) 2=((oo x 2 30:Nat):Int)∧rotR (x:Int) 13=((oo x 13 19:Nat):Int)∧rotR (x:Int) 22=((oo x 22 10:Nat):Int)∧rotR (x:Int) 6=((oo x 6 26:Nat):Int)∧rotR (x:Int) 11=((oo x 11 21:Nat):Int)∧rotR (x:Int) 25=((oo x 25 7:Nat):Int)
  ∧ rotR (x:Int) 7=((oo x 7 25:Nat):Int)∧rotR (x:Int) 18=((oo x 18 14:Nat):Int)∧rotR (x:Int) 17=((oo x 17 15:Nat):Int)∧rotR (x:Int) 19=((oo x 19 13:Nat):Int):=by
 rw [← VW,← TY,← Uc,← VX,← TW,← Ud,← VY,← Ua,← T9,← Ub]
 exact ⟨jQ (n:=2) (m:=30) hx (by decide) (by decide) (by decide),jQ (n:=13) (m:=19) hx (by decide) (by decide) (by decide),jQ (n:=22) (m:=10) hx (by decide) (by decide) (by decide),jQ (n:=6) (m:=26) hx (by decide) (by decide) (by decide),jQ (n:=11) (m:=21) hx (by decide) (by decide) (by decide),jQ (n:=25) (m:=7) hx (by decide) (by decide) (by decide),
  jQ (n:=7) (m:=25) hx (by decide) (by decide) (by decide),jQ (n:=18) (m:=14) hx (by decide) (by decide) (by decide),jQ (n:=17) (m:=15) hx (by decide) (by decide) (by decide),jQ (n:=19) (m:=13) hx (by decide) (by decide) (by decide)⟩
theorem TN {v:Nat→Int} {a:Nat} (h:v 0=(a:Int)) (ha:mq a):Xo v=((XJ a:Nat):Int):=by
 obtain ⟨r2,r13,r22,_⟩:=yY ha
 rw [Xo,h,r2,r13,r22,jV (iM _ _ ha) (iM _ _ ha),jV (wV (iM _ _ ha) (iM _ _ ha)) (iM _ _ ha)]
 rfl
theorem TQ {v:Nat→Int} {a:Nat} (h:v 4=(a:Int)) (ha:mq a):Xp v=((Yx a:Nat):Int):=by
 obtain ⟨_,_,_,r6,r11,r25,_⟩:=yY ha
 rw [Xp,h,r6,r11,r25,jV (iM _ _ ha) (iM _ _ ha),jV (wV (iM _ _ ha) (iM _ _ ha)) (iM _ _ ha)]
 rfl
theorem Vm {a:Nat} (ha:mq a):YC (a:Int)=((ns0 a:Nat):Int):=by
 obtain ⟨_,_,_,_,_,_,r7,r18,_⟩:=yY ha
 rw [YC,r7,r18,show iN .u32 (a:Int) 3=_ from uN a 3 (by decide),jV (iM _ _ ha) (iM _ _ ha),jV (wV (iM _ _ ha) (iM _ _ ha)) (Hy _ ha)]
 rfl
theorem Vn {a:Nat} (ha:mq a):sg1 (a:Int)=((Yz a:Nat):Int):=by
 obtain ⟨_,_,_,_,_,_,_,_,r17,r19⟩:=yY ha
 rw [sg1,r17,r19,show iN .u32 (a:Int) 10=_ from uN a 10 (by decide),jV (iM _ _ ha) (iM _ _ ha),jV (wV (iM _ _ ha) (iM _ _ ha)) (Hy _ ha)]
 rfl
theorem UG {v:Nat→Int} {e f g:Nat} (h4:v 4=(e:Int)) (h5:v 5=(f:Int)) (h6:v 6=(g:Int)) (he:mq e) (hf:mq f) (hg:mq g):YI v=((Yy e f g:Nat):Int):=by
 have hm:(if IntKind.u32.signed then (-1:Int) else IntKind.u32.max)=((4294967295:Nat):Int):=by decide
 have h1:mq 4294967295:=by decide
 rw [YI,h4,h5,h6,hm,xg he hf,jV h1 he,xg (wV h1 he) hg,jV (vG he hf) (vG (wV h1 he) hg)]
 rfl
theorem RQ {v:Nat→Int} {a b c:Nat} (h0:v 0=(a:Int)) (h1:v 1=(b:Int)) (h2:v 2=(c:Int)) (ha:mq a) (hb:mq b) (hc:mq c):WC v=((O5 a b c:Nat):Int):=by
 rw [WC,h0,h1,h2,xg ha hb,xg ha hc,xg hb hc,jV (vG ha hb) (vG ha hc),jV (wV (vG ha hb) (vG ha hc)) (vG hb hc)]
 rfl
structure R8 (v:Nat→Int) (a b c d e f g h:Nat):Prop where
 (h0:v 0=(a:Int)) (h1:v 1=(b:Int)) (h2:v 2=(c:Int)) (h3:v 3=(d:Int)) (h4:v 4=(e:Int)) (h5:v 5=(f:Int)) (h6:v 6=(g:Int)) (h7:v 7=(h:Int))
 (l0:mq a) (l1:mq b) (l2:mq c) (l3:mq d) (l4:mq e) (l5:mq f) (l6:mq g) (l7:mq h)
theorem NV {v:Nat→Int} {a b c d e f g h k w:Nat} (R:R8 v a b c d e f g h):XK v (k:Int) (w:Int)=((nT e f g h k w:Nat):Int):=by
 rw [XK,R.h7,TQ R.h4 R.l4,UG R.h4 R.h5 R.h6 R.l4 R.l5 R.l6,fT,fT,fT,fT]
 congr 1
 show (((((h + Yx e) % 4294967296 + Yy e f g) % 4294967296) + k) % 4294967296 + w) % 4294967296=(h + Yx e + Yy e f g + k + w) % 4294967296
 omega
theorem TK {v:Nat→Int} {a b c d e f g h k w:Nat} (R:R8 v a b c d e f g h):R8 (VU v (k:Int) (w:Int)) (Nat.mod (Nat.add (nT e f g h k w) (Nat.add (XJ a) (O5 a b c))) 4294967296) a b c (Nat.mod (Nat.add d (nT e f g h k w)) 4294967296) e f g:=by
 refine ⟨?_,R.h0,R.h1,R.h2,?_,R.h4,R.h5,R.h6,gW _,R.l0,R.l1,R.l2,gW _,R.l4,R.l5,R.l6⟩
 ·show w32 (XK v k w) (Y6 v)=_
  rw [NV R,Y6,TN R.h0 R.l0,RQ R.h0 R.h1 R.h2 R.l0 R.l1 R.l2,fT,fT]
  congr 1
  show (nT e f g h k w + (XJ a + O5 a b c) % 4294967296) % 4294967296=(nT e f g h k w + (XJ a + O5 a b c)) % 4294967296
  omega
 ·show w32 (v 3) (XK v k w)=_
  rw [NV R,R.h3,fT]
  rfl
set_option maxRecDepth 100000
open Go.Sx
noncomputable def R6 {α:Type} (K:Nat→Nat→Nat→Nat→Nat→Nat→Nat→Nat→α) (ks:List Nat):Nat→Nat→Nat→Nat→Nat→Nat→Nat→Nat→Nat→Nat→Nat→Nat→Nat→Nat→Nat→Nat→Nat→Nat→Nat→Nat→Nat→Nat→Nat→Nat→α :=
 @List.rec Nat (fun _=>Nat→Nat→Nat→Nat→Nat→Nat→Nat→Nat→Nat→Nat→Nat→Nat→Nat→Nat→Nat→Nat→Nat→Nat→Nat→Nat→Nat→Nat→Nat→Nat→α)
  (fun a b c d e f g h _ _ _ _ _ _ _ _ _ _ _ _ _ _ _ _=>K a b c d e f g h)
  (fun k _ ih a b c d e f g h w0 w1 w2 w3 w4 w5 w6 w7 w8 w9 w10 w11 w12 w13 w14 w15 =>
   jM (nT e f g h k w0) fun t=>jM (Nat.mod (Nat.add t (Nat.add (XJ a) (O5 a b c))) 4294967296) fun a'=>jM (Nat.mod (Nat.add d t) 4294967296) fun e' =>
   jM (R5 w0 w1 w9 w14) fun w16=>ih a' a b c e' e f g w1 w2 w3 w4 w5 w6 w7 w8 w9 w10 w11 w12 w13 w14 w15 w16) ks
def Qq:List Nat:=[1116352408,1899447441,3049323471,3921009573,961987163,1508970993,2453635748,2870763221,3624381080,310598401,607225278,1426881987,1925078388,2162078206,2614888103,3248222580,3835390401,4022224774,264347078,604807628,770255983,1249150122,1555081692,1996064986,2554220882,2821834349,2952996808,3210313671,3336571891,3584528711,113926993,338241895,666307205,773529912,1294757372,1396182291,1695183700,1986661051,2177026350,2456956037,2730485921,2820302411,3259730800,3345764771,3516065817,3600352804,4094571909,275423344,430227734,506948616,659060556,883997877,958139571,1322822218,1537002063,1747873779,1955562222,2024104815,2227730452,2361852424,2428436474,2756734187,3204031479,3329325298]
noncomputable def yF {α:Type} (n:Nat):List Nat→Nat→Nat→Nat→Nat→Nat→Nat→Nat→Nat→(Nat→Nat→α)→α :=
 @Nat.rec (fun _=>List Nat→Nat→Nat→Nat→Nat→Nat→Nat→Nat→Nat→(Nat→Nat→α)→α)
  (fun _ a b _ _ _ _ _ _ k=>k a b)
  (fun _ ih l a b c d e f g h k =>
   jM (l.getD 0 0) fun w0=>jM (l.getD 1 0) fun w1=>jM (l.getD 2 0) fun w2=>jM (l.getD 3 0) fun w3=>jM (l.getD 4 0) fun w4=>jM (l.getD 5 0) fun w5=>jM (l.getD 6 0) fun w6=>jM (l.getD 7 0) fun w7=>jM (l.getD 8 0) fun w8=>jM (l.getD 9 0) fun w9=>jM (l.getD 10 0) fun w10=>jM (l.getD 11 0) fun w11=>jM (l.getD 12 0) fun w12=>jM (l.getD 13 0) fun w13=>jM (l.getD 14 0) fun w14=>jM (l.getD 15 0) fun w15 =>
   R6 (fun a' b' c' d' e' f' g' h'=>jM (jK a a') fun a=>jM (jK b b') fun b=>jM (jK c c') fun c=>jM (jK d d') fun d=>jM (jK e e') fun e=>jM (jK f f') fun f=>jM (jK g g') fun g=>jM (jK h h') fun h=>ih (l.drop 16) a b c d e f g h k)
    Qq a b c d e f g h w0 w1 w2 w3 w4 w5 w6 w7 w8 w9 w10 w11 w12 w13 w14 w15) n
theorem qc (b:Nat→UInt8) {n:Nat}:∀ N,n<N→sched b N n=if n<16 then word b n else mix (sched b n) n
 | 0,h=>absurd h (Nat.not_lt_zero _)
 | N + 1,h=>by
  rw [lK]
  by_cases e:n=N
  ·subst e;rw [if_pos rfl]
  ·rw [if_neg e];exact qc b N (by omega)
theorem qP (b:Nat→UInt8) {n N N':Nat} (h:n<N) (h':n<N'):sched b N n=sched b N' n:=by rw [qc b N h,qc b N' h']
theorem U9 {w0 w1 w9 w14:Nat} (h1:mq w1) (h14:mq w14):w32 (w32 (w32 (w0:Int) (w9:Int)) (YC (w1:Int))) (sg1 (w14:Int))=((R5 w0 w1 w9 w14:Nat):Int):=by
 rw [Vm h1,Vn h14,fT,fT,fT]
 congr 1
 show (((w0 + w9) % 4294967296 + ns0 w1) % 4294967296 + Yz w14) % 4294967296=(w0 + w9 + ns0 w1 + Yz w14) % 4294967296
 omega
theorem MI (b:Nat→UInt8) {n w0 w1 w9 w14:Nat} (hn:n + 16<64) (e0:sched b 64 n=(w0:Int)) (e1:sched b 64 (n + 1)=(w1:Int)) (e9:sched b 64 (n + 9)=(w9:Int)) (e14:sched b 64 (n + 14)=(w14:Int)) (h1:mq w1) (h14:mq w14):sched b 64 (n + 16)=((R5 w0 w1 w9 w14:Nat):Int):=by
 rw [qc b 64 hn,if_neg (by omega),mix,qP b (N':=64) (n:=n + 16 - 16) (by omega) (by omega),qP b (N':=64) (n:=n + 16 - 7) (by omega) (by omega),qP b (N':=64) (n:=n + 16 - 15) (by omega) (by omega),qP b (N':=64) (n:=n + 16 - 2) (by omega) (by omega),
  show n + 16 - 16=n by omega,show n + 16 - 7=n + 9 by omega,show n + 16 - 15=n + 1 by omega,show n + 16 - 2=n + 14 by omega,e0,e1,e9,e14,U9 h1 h14]
theorem Qd:∀ n,n<64→stepW n=((Qq.getD n 0:Nat):Int):=by decide
theorem RG {n:Nat} (h:n<64):Qq.drop n=Qq.getD n 0::Qq.drop (n + 1):=by
 have hl:Qq.length=64:=rfl
 rw [List.drop_eq_getElem_cons (by omega),List.getD_eq_getElem?_getD,List.getElem?_eq_getElem (by omega)];rfl
def YH (b:Nat→UInt8) (n:Nat) (ws:Nat→Nat):Prop:=∀ i,i<16→n + i<64→sched b 64 (n + i)=(ws i:Int)∧mq (ws i)
theorem NA {α:Type} (h0:Nat→Int) (b:Nat→UInt8) (K:Nat→Nat→Nat→Nat→Nat→Nat→Nat→Nat→α):∀ m n,n + m=64→∀ (a b' c d e f g h:Nat),R8 (lM h0 b n) a b' c d e f g h→∀ ws,YH b n ws →
  ∃ a2 b2 c2 d2 e2 f2 g2 h2,R8 (lM h0 b 64) a2 b2 c2 d2 e2 f2 g2 h2∧R6 K (Qq.drop n) a b' c d e f g h (ws 0) (ws 1) (ws 2) (ws 3) (ws 4) (ws 5) (ws 6) (ws 7) (ws 8) (ws 9) (ws 10) (ws 11) (ws 12) (ws 13) (ws 14) (ws 15)=K a2 b2 c2 d2 e2 f2 g2 h2
 | 0,n,hn,a,b',c,d,e,f,g,h,R,ws,W=>by
  obtain rfl:n=64:=by omega
  exact ⟨a,b',c,d,e,f,g,h,R,rfl⟩
 | m + 1,n,hn,a,b',c,d,e,f,g,h,R,ws,W=>by
  rw [RG (by omega)]
  have hw:=W 0 (by decide) (by omega)
  have hR:=TK (k:=Qq.getD n 0) (w:=ws 0) R
  rw [← Qd n (by omega),← (show sched b 64 n=(ws 0:Int) from hw.1)] at hR
  let ws':Nat→Nat:=fun i=>if i<15 then ws (i + 1) else R5 (ws 0) (ws 1) (ws 9) (ws 14)
  have hW:YH b (n + 1) ws':=by
   intro i hi hni
   by_cases h15:i<15
   ·have:=W (i + 1) (by omega) (by omega)
    rw [show n + 1 + i=n + (i + 1) by omega]
    simp only [ws',if_pos h15]
    exact this
   ·obtain rfl:i=15:=by omega
    have q0:=W 0 (by decide) (by omega)
    have q1:=W 1 (by decide) (by omega)
    have q9:=W 9 (by decide) (by omega)
    have q14:=W 14 (by decide) (by omega)
    refine ⟨?_,gW _⟩
    rw [show n + 1 + 15=n + 16 by omega]
    exact MI b (by omega) q0.1 q1.1 q9.1 q14.1 q1.2 q14.2
  obtain ⟨a2,b2,c2,d2,e2,f2,g2,h2,R2,e2'⟩:=NA h0 b K m (n + 1) (by omega) _ _ _ _ _ _ _ _ hR ws' hW
  refine ⟨a2,b2,c2,d2,e2,f2,g2,h2,R2,?_⟩
  rw [← e2']
  show (jM (nT e f g h (Qq.getD n 0) (ws 0)) fun t=>jM (Nat.mod (Nat.add t (Nat.add (XJ a) (O5 a b' c))) 4294967296) fun a'=>jM (Nat.mod (Nat.add d t) 4294967296) fun e' =>
   jM (R5 (ws 0) (ws 1) (ws 9) (ws 14)) fun w16=>R6 K (Qq.drop (n + 1)) a' a b' c e' e f g (ws 1) (ws 2) (ws 3) (ws 4) (ws 5) (ws 6) (ws 7) (ws 8) (ws 9) (ws 10) (ws 11) (ws 12) (ws 13) (ws 14) (ws 15) w16)=_
  rw [zI,zI,zI,zI]
  rfl
set_option maxRecDepth 100000
open Go.Sx
def Yt (a b c d:UInt8):Nat:=Nat.add (Nat.mul (Nat.add (Nat.mul (Nat.add (Nat.mul a.toNat 256) b.toNat) 256) c.toNat) 256) d.toNat
def w4:List UInt8→List Nat
 | a::b::c::d::r=>Yt a b c d::w4 r
 | _=>[]
theorem Ul:∀ (i:Nat) (l:List UInt8),4 * i + 3<l.length→(w4 l).getD i 0=Yt (l.getD (4 * i) 0) (l.getD (4 * i + 1) 0) (l.getD (4 * i + 2) 0) (l.getD (4 * i + 3) 0)
 | i,[],h=>by simp at h
 | i,[_],h=>by simp at h
 | i,[_,_],h=>by simp only [List.length_cons,List.length_nil] at h;omega
 | i,[_,_,_],h=>by simp only [List.length_cons,List.length_nil] at h;omega
 | 0,a::b::c::d::r,h=>rfl
 | i + 1,a::b::c::d::r,h=>by
  have:=Ul i r (by simp only [List.length_cons] at h;omega)
  show (w4 r).getD i 0=_
  rw [this]
  rfl
theorem yR {w:Nat} (h:w<16777216) (x:UInt8):push (w:Int) x=((Nat.add (Nat.mul w 256) x.toNat:Nat):Int):=by
 have hx:=x.toNat_lt
 have e1:tO .u32 (w:Int) 8=((Nat.mod (Nat.shiftLeft w 8) 4294967296:Nat):Int):=FY w 8 (by decide)
 have e2:Nat.mod (Nat.shiftLeft w 8) 4294967296=w <<< 8:=by
  show (w <<< 8) % 4294967296=_
  rw [Nat.shiftLeft_eq];omega
 have e3:IntKind.u32.wrap (x.toNat:Int)=(x.toNat:Int):=by rw [IntKind.wrap_u32];omega
 have b1:mq (w <<< 8):=by rw [Nat.shiftLeft_eq];omega
 rw [push,e1,e2,e3,Sg b1 (by omega)]
 congr 1
 show (w <<< 8) ||| x.toNat=w * 256 + x.toNat
 rw [← Nat.shiftLeft_add_eq_or_of_lt (by omega:x.toNat<2 ^ 8),Nat.shiftLeft_eq]
theorem Uo (b:Nat→UInt8) (i:Nat):word b i=((Yt (b (4 * i)) (b (4 * i + 1)) (b (4 * i + 2)) (b (4 * i + 3)):Nat):Int)∧mq (Yt (b (4 * i)) (b (4 * i + 1)) (b (4 * i + 2)) (b (4 * i + 3))):=by
 have h0:=(b (4 * i)).toNat_lt
 have h1:=(b (4 * i + 1)).toNat_lt
 have h2:=(b (4 * i + 2)).toNat_lt
 have h3:=(b (4 * i + 3)).toNat_lt
 constructor
 ·rw [word,show (0:Int)=((0:Nat):Int) from rfl,yR (by decide),yR,yR,yR]
  ·show (((((0 * 256 + (b (4 * i)).toNat) * 256 + (b (4 * i + 1)).toNat) * 256 + (b (4 * i + 2)).toNat) * 256 + (b (4 * i + 3)).toNat:Nat):Int)=_
   rw [Nat.zero_mul,Nat.zero_add]
   rfl
  ·show ((0 * 256 + (b (4 * i)).toNat) * 256 + (b (4 * i + 1)).toNat) * 256 + (b (4 * i + 2)).toNat<_
   omega
  ·show (0 * 256 + (b (4 * i)).toNat) * 256 + (b (4 * i + 1)).toNat<_
   omega
  ·show 0 * 256 + (b (4 * i)).toNat<_
   omega
 ·show (((b (4 * i)).toNat * 256 + (b (4 * i + 1)).toNat) * 256 + (b (4 * i + 2)).toNat) * 256 + (b (4 * i + 3)).toNat<_
  omega
theorem Oa {h0:Nat→Int} {b:Nat→UInt8} {a b' c d e f g h a2 b2 c2 d2 e2 f2 g2 h2:Nat} (R:R8 h0 a b' c d e f g h) (R2:R8 (lM h0 b 64) a2 b2 c2 d2 e2 f2 g2 h2):R8 (kG h0 b) (jK a a2) (jK b' b2) (jK c c2) (jK d d2) (jK e e2) (jK f f2) (jK g g2) (jK h h2):=by
 refine ⟨?_,?_,?_,?_,?_,?_,?_,?_,gW _,gW _,gW _,gW _,gW _,gW _,gW _,gW _⟩
 ·rw [kG,R.h0,R2.h0,fT]
 ·rw [kG,R.h1,R2.h1,fT]
 ·rw [kG,R.h2,R2.h2,fT]
 ·rw [kG,R.h3,R2.h3,fT]
 ·rw [kG,R.h4,R2.h4,fT]
 ·rw [kG,R.h5,R2.h5,fT]
 ·rw [kG,R.h6,R2.h6,fT]
 ·rw [kG,R.h7,R2.h7,fT]
theorem getD_drop {E:Type} (l:List E) (n i:Nat) (d:E):(l.drop n).getD i d=l.getD (n + i) d:=by rw [List.getD_eq_getElem?_getD,List.getElem?_drop,← List.getD_eq_getElem?_getD]
theorem CG {α:Type} (l:List UInt8) (k:Nat→Nat→α):∀ m t,t + m=bX l→∀ (a b c d e f g h:Nat),R8 (gM l t) a b c d e f g h →
  ∃ x y:Nat,gM l (bX l) 0=(x:Int)∧gM l (bX l) 1=(y:Int)∧yF m ((w4 (sQ l)).drop (16 * t)) a b c d e f g h k=k x y
 | 0,t,ht,a,b,c,d,e,f,g,h,R=>by
  obtain rfl:t=bX l:=by omega
  exact ⟨a,b,R.h0,R.h1,rfl⟩
 | m + 1,t,ht,a,b,c,d,e,f,g,h,R=>by
  have hbl:=blocks_eq l
  let ws:Nat→Nat:=fun i=>((w4 (sQ l)).drop (16 * t)).getD i 0
  have hW:YH (fB l t) 0 ws:=by
   intro i hi _
   have hg:ws i=Yt (fB l t (4 * i)) (fB l t (4 * i + 1)) (fB l t (4 * i + 2)) (fB l t (4 * i + 3)):=by
    show ((w4 (sQ l)).drop (16 * t)).getD i 0=_
    rw [getD_drop,Ul _ _ (by omega)]
    simp only [fB,show 4 * (16 * t + i)=64 * t + 4 * i by omega,Nat.add_assoc]
   have hw:=Uo (fB l t) i
   rw [hg,Nat.zero_add,qc _ 64 (by omega),if_pos hi]
   exact hw
  let K:Nat→Nat→Nat→Nat→Nat→Nat→Nat→Nat→α:=fun a' b' c' d' e' f' g' h'=>jM (jK a a') fun a=>jM (jK b b') fun b=>jM (jK c c') fun c=>jM (jK d d') fun d=>jM (jK e e') fun e=>jM (jK f f') fun f=>jM (jK g g') fun g=>jM (jK h h') fun h=>yF m (((w4 (sQ l)).drop (16 * t)).drop 16) a b c d e f g h k
  obtain ⟨a2,b2,c2,d2,e2,f2,g2,h2,R2,hK⟩:=NA (gM l t) (fB l t) K 64 0 rfl a b c d e f g h R ws hW
  have hR:R8 (gM l (t + 1)) _ _ _ _ _ _ _ _:=Oa R R2
  obtain ⟨x,y,q1,q2,q3⟩:=CG l k m (t + 1) (by omega) _ _ _ _ _ _ _ _ hR
  refine ⟨x,y,q1,q2,?_⟩
  rw [← q3]
  have e1:yF (m + 1) ((w4 (sQ l)).drop (16 * t)) a b c d e f g h k=R6 K (Qq.drop 0) a b c d e f g h (ws 0) (ws 1) (ws 2) (ws 3) (ws 4) (ws 5) (ws 6) (ws 7) (ws 8) (ws 9) (ws 10) (ws 11) (ws 12) (ws 13) (ws 14) (ws 15):=by
   show (jM (ws 0) fun w0=>jM (ws 1) fun w1=>jM (ws 2) fun w2=>jM (ws 3) fun w3=>jM (ws 4) fun w4=>jM (ws 5) fun w5=>jM (ws 6) fun w6=>jM (ws 7) fun w7=>jM (ws 8) fun w8=>jM (ws 9) fun w9=>jM (ws 10) fun w10=>jM (ws 11) fun w11=>jM (ws 12) fun w12=>jM (ws 13) fun w13=>jM (ws 14) fun w14=>jM (ws 15) fun w15=>R6 K Qq a b c d e f g h w0 w1 w2 w3 w4 w5 w6 w7 w8 w9 w10 w11 w12 w13 w14 w15)=_
   simp only [zI]
   rfl
  rw [e1,hK]
  show (jM (jK a a2) fun a=>jM (jK b b2) fun b=>jM (jK c c2) fun c=>jM (jK d d2) fun d=>jM (jK e e2) fun e=>jM (jK f f2) fun f=>jM (jK g g2) fun g=>jM (jK h h2) fun h=>yF m (((w4 (sQ l)).drop (16 * t)).drop 16) a b c d e f g h k)=_
  simp only [zI]
  rw [List.drop_drop,show 16 * t + 16=16 * (t + 1) by omega]
def X6 (x y:Nat):H8:=⟨UInt8.ofNat (Nat.shiftRight x 24),UInt8.ofNat (Nat.shiftRight x 16),UInt8.ofNat (Nat.shiftRight x 8),UInt8.ofNat x,UInt8.ofNat (Nat.shiftRight y 24),UInt8.ofNat (Nat.shiftRight y 16),UInt8.ofNat (Nat.shiftRight y 8),UInt8.ofNat y⟩
noncomputable def X4 {α:Type} (l:List UInt8) (k:H8→α):α:=yF (bX l) (w4 (sQ l)) 1779033703 3144134277 1013904242 2773480762 1359893119 2600822924 528734635 1541459225 fun x y=>k (X6 x y)
noncomputable def oV {α:Type} (p:UInt8) (bss:List (List UInt8)) (k:H8→α):α:=X4 (jI p bss) k
theorem BK (x n:Nat) (hn:n≤32):dn (IntKind.u8.wrap (iN .u32 (x:Int) (n:Int)))=UInt8.ofNat (Nat.shiftRight x n):=by
 rw [uN x n hn,IntKind.wrap_u8,dn]
 apply UInt8.toNat_inj.1
 rw [UInt8.toNat_ofNat',UInt8.toNat_ofNat']
 omega
theorem Bq {α:Type} (p:UInt8) (bss:List (List UInt8)) (k:H8→α):oV p bss k=k (Ea p bss):=by
 have h0:R8 (gM (jI p bss) 0) 1779033703 3144134277 1013904242 2773480762 1359893119 2600822924 528734635 1541459225:=by
  constructor<;>first |rfl |decide
 obtain ⟨x,y,hx,hy,hk⟩:=CG (jI p bss) (fun x y=>k (X6 x y)) (bX (jI p bss)) 0 (Nat.zero_add _) _ _ _ _ _ _ _ _ h0
 rw [oV,X4]
 refine hk.trans (congrArg k ?_)
 have b:=BK
 have s0:∀ z:Nat,Nat.shiftRight z 0=z:=fun _=>rfl
 have f:∀ j:Nat,j<8→Bh (jI p bss) j=UInt8.ofNat (Nat.shiftRight (if j<4 then x else y) (24 - j % 4 * 8)):=by
  intro j hj
  rw [Bh]
  by_cases h4:j<4
  ·rw [show j / 4=0 by omega,hx,if_pos h4,BK _ _ (by omega)]
  ·rw [show j / 4=1 by omega,hy,if_neg h4,BK _ _ (by omega)]
 rw [Ea,f 0 (by decide),f 1 (by decide),f 2 (by decide),f 3 (by decide),f 4 (by decide),f 5 (by decide),f 6 (by decide),f 7 (by decide)]
 rfl
set_option maxRecDepth 100000
open Go.Sx
noncomputable def xP {α:Type} (seed:H8) (idx i b:Nat) (k:H8→α):α:=oV 115 [seed.l,[dn (IntKind.u8.wrap (idx:Int)),dn (IntKind.u8.wrap (i:Int)),dn (IntKind.u8.wrap (b:Int)),0]] k
theorem Ca {α:Type} (seed:H8) (idx i b:Nat) (k:H8→α):xP seed idx i b k=k (mZ seed (idx:Int) (i:Int) (b:Int)):=Bq _ _ _
noncomputable def I5 {α:Type} (h:H8) (k:H8→α):α:=oV 112 [h.l] k
theorem I6 {α:Type} (h:H8) (k:H8→α):I5 h k=k (nM h):=Bq _ _ _
noncomputable def fall {α:Type} (seed:H8) (idx:Nat) (n:Nat):Nat→List UInt8→(List UInt8→α)→α :=
 @Nat.rec (fun _=>Nat→List UInt8→(List UInt8→α)→α) (fun _ acc k=>k acc)
  (fun _ ih i acc k=>xP seed idx i 0 fun s0=>I5 s0 fun m0=>xP seed idx i 1 fun s1=>I5 s1 fun m1=>ih (Nat.succ i) (acc++m0.l++m1.l) k) n
theorem Ni {α:Type} (seed:H8) (idx:Nat) (k:List UInt8→α):∀ n i,fall seed idx n i (oP (fun i b=>nM (mZ seed (idx:Int) (i:Int) (b:Int))) i) k=k (oP (fun i b=>nM (mZ seed (idx:Int) (i:Int) (b:Int))) (i + n))
 | 0,i=>rfl
 | n + 1,i=>by
  show (xP seed idx i 0 fun s0=>I5 s0 fun m0=>xP seed idx i 1 fun s1=>I5 s1 fun m1=>fall seed idx n (Nat.succ i) (oP (fun i b=>nM (mZ seed (idx:Int) (i:Int) (b:Int))) i++m0.l++m1.l) k)=_
  rw [Ca,I6,Ca,I6]
  rw [show i + (n + 1)=(i + 1) + n by omega]
  exact Ni seed idx k n (i + 1)
noncomputable def Eb {α:Type} (seed:H8) (idx:Nat) (k:H8→α):α:=fall seed idx 16 0 [] fun l=>oV 107 [l] k
theorem UQ {α:Type} (seed:H8) (idx:Nat) (k:H8→α):Eb seed idx k=k (Dc seed idx):=by
 have:=Ni seed idx (fun l=>oV 107 [l] k) 16 0
 rw [Eb]
 refine this.trans ?_
 rw [Bq]
 rfl
noncomputable def I7 {α:Type} (seed:H8) (k:H8→α):α :=
 Eb seed 0 fun p0=>Eb seed 1 fun p1=>Eb seed 2 fun p2=>Eb seed 3 fun p3=>Eb seed 4 fun p4=>Eb seed 5 fun p5=>Eb seed 6 fun p6=>Eb seed 7 fun p7 =>
 oV 108 [p0.l] fun l0=>oV 108 [p1.l] fun l1=>oV 108 [p2.l] fun l2=>oV 108 [p3.l] fun l3=>oV 108 [p4.l] fun l4=>oV 108 [p5.l] fun l5=>oV 108 [p6.l] fun l6=>oV 108 [p7.l] fun l7 =>
 oV 109 [l0.l,l1.l] fun a=>oV 109 [l2.l,l3.l] fun b=>oV 109 [l4.l,l5.l] fun c=>oV 109 [l6.l,l7.l] fun d=>oV 109 [a.l,b.l] fun x=>oV 109 [c.l,d.l] fun y=>oV 109 [x.l,y.l] k
theorem Cb {α:Type} (seed:H8) (k:H8→α):I7 seed k=k (vE seed):=by
 rw [I7]
 simp only [UQ,Bq]
 refine congrArg k ?_
 have h8:aH 8=4:=rfl
 have h4:aH 4=2:=rfl
 have h2:aH 2=1:=rfl
 rw [vE,j3 (n:=8) (by decide),h8,j3 (n:=4) (by decide),h4,j3 (n:=2) (by decide),h2]
 simp only [show 8 - 4=4 from rfl,show 4 - 2=2 from rfl,show 2 - 1=1 from rfl]
 rw [j3 (n:=4) (by decide),h4]
 simp only [show 4 - 2=2 from rfl,j3 (n:=2) (by decide),h2,show 2 - 1=1 from rfl]
 rfl
set_option maxRecDepth 100000
open Go.Sx
def VI (c h:H8):Bool:=Nat.beq h.b0.toNat c.b0.toNat && (Nat.beq h.b1.toNat c.b1.toNat && (Nat.beq h.b2.toNat c.b2.toNat && (Nat.beq h.b3.toNat c.b3.toNat && (Nat.beq h.b4.toNat c.b4.toNat && (Nat.beq h.b5.toNat c.b5.toNat && (Nat.beq h.b6.toNat c.b6.toNat && Nat.beq h.b7.toNat c.b7.toNat))))))
theorem LV {c h:H8} (e:VI c h=true):h=c:=by
 obtain ⟨a0,a1,a2,a3,a4,a5,a6,a7⟩:=h
 obtain ⟨c0,c1,c2,c3,c4,c5,c6,c7⟩:=c
 simp only [VI,Bool.and_eq_true,aL,decide_eq_true_eq,UInt8.toNat_inj] at e
 obtain ⟨rfl,rfl,rfl,rfl,rfl,rfl,rfl,rfl⟩:=e
 rfl
set_option maxRecDepth 100000
open Go.Sx
theorem JV:I7 ⟨113,0,0,0,0,0,0,0⟩ (VI ⟨42,27,56,72,149,84,97,106⟩)=true:=by kernel_rfl
theorem WV:vE ⟨113,0,0,0,0,0,0,0⟩=⟨42,27,56,72,149,84,97,106⟩:=LV ((Cb _ (VI ⟨42,27,56,72,149,84,97,106⟩)).symm.trans JV)
theorem JW:I7 ⟨113,1,0,0,0,0,0,0⟩ (VI ⟨198,66,121,243,225,231,225,136⟩)=true:=by kernel_rfl
theorem WW:vE ⟨113,1,0,0,0,0,0,0⟩=⟨198,66,121,243,225,231,225,136⟩:=LV ((Cb _ (VI ⟨198,66,121,243,225,231,225,136⟩)).symm.trans JW)
theorem JX:I7 ⟨113,2,0,0,0,0,0,0⟩ (VI ⟨103,242,72,14,141,212,250,235⟩)=true:=by kernel_rfl
theorem WX:vE ⟨113,2,0,0,0,0,0,0⟩=⟨103,242,72,14,141,212,250,235⟩:=LV ((Cb _ (VI ⟨103,242,72,14,141,212,250,235⟩)).symm.trans JX)
set_option maxRecDepth 100000
open Go.Sx
theorem WY:pY (0:Nat)=⟨113,0,0,0,0,0,0,0⟩:=rfl
theorem WZ:pY (1:Nat)=⟨113,1,0,0,0,0,0,0⟩:=rfl
theorem W9:pY (2:Nat)=⟨113,2,0,0,0,0,0,0⟩:=rfl
theorem WU:tF 3=[⟨42,27,56,72,149,84,97,106⟩,⟨198,66,121,243,225,231,225,136⟩,⟨103,242,72,14,141,212,250,235⟩]:=by
 rw [show (3:Nat)=2 + 1 from rfl,qK,show (2:Nat)=1 + 1 from rfl,qK,show (1:Nat)=0 + 1 from rfl,qK]
 rw [WY,WV,show pY ((0 + 1:Nat):Int)=_ from WZ,WW,show pY ((0 + 1 + 1:Nat):Int)=_ from W9,WX]
 rfl
def mp:gZ:=VK 3 2
theorem RY:rG mp=true:=by
 rw [mp,VK,WU]
 decide
theorem mF:mp.keys.length=3:=FD 3
def kQ:au:=iO mp 3
def dL (m:Int):au:=xQ kQ m
def gD (money:List Int) (i:Nat):List au:=(List.range i).map fun k:Nat=>dL (money.getD k 0)
theorem lC (money:List Int) (i:Nat):(gD money i).length=i:=by simp [gD]
theorem Lf (money:List Int) (i:Nat):(gD money i++[kQ]).set i (xQ ((gD money i++[kQ]).getD i default) (money.getD i 0))=gD money (i + 1):=by
 have h1:(gD money i++[kQ]).getD i default=kQ:=by
  rw [List.getD_eq_getElem?_getD,List.getElem?_append_right (by rw [lC];exact Nat.le_refl _),lC,Nat.sub_self];rfl
 have h2:(gD money i++[kQ]).set i (dL (money.getD i 0))=gD money i++[dL (money.getD i 0)]:=by
  rw [List.set_append,lC,if_neg (Nat.lt_irrefl i),Nat.sub_self];rfl
 rw [h1]
 show (gD money i++[kQ]).set i (dL _)=_
 rw [h2,gD,gD,List.range_succ,List.map_append];rfl
def qC (L:List au):List Chunk:=[.abs (fI L),.abs (kC L)]
def Ru (money:List Int) (i:Nat) (L:List au):St :=
 ⟨[some (XV.sv (.slc 0 1 0 money.length)),none,none,none,some (XV.sv (.ptr 1 0 0 0)),some (XV.sv (.ptr 2 0 0 0)),some (XV.int .i64 i)]++List.replicate 39 none,[(0,.ro 1 money.length (dO money)),(1,.abs (fI L)),(2,.abs (kC L))],3⟩
set_option maxHeartbeats 4000000 in
theorem BS (money:List Int) (hm:money.length≤8):Makes Tryz.prog 29 [.row 1 money.length (dO money)] [] (.tup [.one (.inn 0 0),.one (.inn 0 1)]) (.abs (mK (qC (gD money money.length)))):=by
 refine Makes.of Tryz.aA Tryz.func29 rfl _ _ _ _ rfl rfl rfl rfl 19 (fun C hC => ?_)
 (replace hC:C.n0=1:=hC;change av _ _ _ ⟨_,_,1⟩ _)
 refine xK 2 ?_
 refine xC rfl Tryz.func62 rfl (J7) ?_
 refine wD <| ak <| av.ent (Reg.pz lV og 5 rfl) <| av.seq ?_
 refine xK 1 ?_
 refine wD <| ak <| av.block ?_
 refine av.loop (α:={ i:Nat // i≤money.length }) (fun i=>Ru money i.1 (gD money i.1)) (fun i=>money.length - i.1) ⟨0,Nat.zero_le _⟩ ?_ ?_
 ·unfold Ru
  ((try dsimp only);exact xE [0,3,5] hC)
 rintro ⟨i,hi⟩
 dsimp only
 have hs:=Lf money i
 have hl:=lC money i
 obtain ⟨L,hL⟩:∃ L,gD money i=L:=⟨_,rfl⟩
 rw [hL] at hs hl ⊢
 unfold Ru
 refine xK 1 ?_
 refine wC (fun h1 => ?_) (fun h1 => ?_)
 ·(refine xG ?_)
  have h1':i<money.length:=xW
  have hw:IntKind.i64.wrap ((i:Int) + 1)=((i + 1:Nat):Int):=xW
  have hLA:(L++[kQ]).length=i + 1:=by rw [List.length_append,hl];rfl
  have hmk:mp.keys.length≤1000000:=by rw [mF];decide
  (refine zm ?_ ?_;(first |refine decide_eq_true ?_ |rw [beq_iff_eq] |rw [bne_iff_ne]);exact xW;refine xG ?_)
  refine wD <| ak <| av.seq <| av.block <| xI ?_
  (refine xB ?_)
  refine xC rfl Tryz.func64 rfl ((Jo 3 (by decide) 2).at [] ⟨ah rfl,ah rfl,trivial⟩ trivial) ?_
  refine xC rfl Tryz.func63 rfl ((K3 L mp 3 hmk (by omega) RY).at [16] rfl rfl rfl ⟨gG (p:=mp) (aF (lo:=0) mF.symm rfl rfl (Nat.le_of_eq ((Nat.zero_add _).trans mF)) (fun i _=>by rw [Nat.zero_add];rfl)),ah rfl,trivial⟩ trivial) ?_
  refine xC rfl Tryz.func64 rfl ((Jo 3 (by decide) 2).at [] ⟨ah rfl,ah rfl,trivial⟩ trivial) ?_
  refine xC rfl Tryz.func65 rfl ((J3 L mp 3 hmk (by omega) RY).at [19] rfl rfl rfl ⟨gG (p:=mp) (aF (lo:=0) mF.symm rfl rfl (Nat.le_of_eq ((Nat.zero_add _).trans mF)) (fun i _=>by rw [Nat.zero_add];rfl)),ah rfl,trivial⟩ trivial) ?_
  (repeat (refine wN ?_ ?_;exact xW;refine xG ?_))
  simp only [Nat.zero_add,Int.toNat_natCast]
  refine xC rfl Tryz.func66 rfl ((Lj (L++[kQ]) i (by omega) 1 ⟨1,0,0,0,0,0,0,0⟩ (money.getD i 0)).at [] rfl rfl rfl ⟨ah rfl,trivial⟩ trivial) ?_
  refine xC rfl Tryz.func67 rfl ((J9 (L++[kQ]) i (by omega) 1 ⟨1,0,0,0,0,0,0,0⟩ (money.getD i 0)).at [] rfl rfl rfl ⟨ah rfl,trivial⟩ trivial) ?_
  refine wD <| aJ <| ak <| xI ?_
  (refine xB ?_)
  refine wD <| aP ⟨⟨i + 1,h1'⟩,by dsimp only;omega,?_⟩
  rw [hw]
  dsimp only
  rw [← hs]
  ((try dsimp only);exact xE [0,1,2] hC)
 ·(refine xG ?_)
  have h1':i=money.length:=xW
  subst h1'
  rw [hL]
  refine wD <| bW <| aS <| aI <| ak <| xI ?_
  (refine xB ?_)
  refine wD (Ends.made (.inr rfl) (aN.pack [1,2] (qC L) (by decide) rfl rfl (fun j i ch hi hj => ?_)) rfl (Nat.le_of_ble_eq_true rfl) rfl)
  rcases j with _ |_ |j
  ·cases hi;cases hj;exact ⟨_,rfl,kZ.refl _ rfl⟩
  ·cases hi;cases hj;exact ⟨_,rfl,kZ.refl _ rfl⟩
  ·cases hi
end Go.Proofs.YtnpkdoggfnlapaaGreatDoor
namespace Go.Sx
variable {S:St}
end Go.Sx
namespace Go.Proofs.YtnpkdoggfnlapaaGreatDoor
set_option maxRecDepth 100000
open Go.Sx
set_option maxRecDepth 100000
open Go.Sx
theorem TD {m:Int} (h1:1≤m) (h2:m≤1000000000):dL m={ kQ with bal:=m,fwd:=m }:=by
 have hr:yV m=1125899906842624 - m:=bK (by omega)
 have hok:jY kQ m=true:=by
  have e1:kQ.bal=0:=rfl
  have e2:kQ.fwd=0:=rfl
  rw [jY,e1,e2,kX,hr,decide_eq_false (show ¬ m<1 by omega),decide_eq_true (show 0≤m by omega),decide_eq_true (show m≤1125899906842624 by omega),decide_eq_false (show ¬ 1125899906842624 - m<0 by omega)]
  rfl
 have he:rE kQ m=0:=by rw [rE,if_neg (by show ¬ false=true;decide),if_pos hok]
 have e1:IntKind.i64.wrap (kQ.bal + m)=m:=by rw [show kQ.bal=0 from rfl,Int.zero_add];exact bK (by omega)
 have e2:IntKind.i64.wrap (kQ.fwd + m)=m:=by rw [show kQ.fwd=0 from rfl,Int.zero_add];exact bK (by omega)
 rw [dL,xQ,if_pos he,e1,e2]
structure QB (a:jF) (m:Int) (c:Bool) (x:au):Prop where
 bal:x.bal=m
 clm:x.clm=0
 used:x.used=[]
 ceased:x.ceased=c
 root:x.root=NU a
 par:x.par=mp
 cert:x.cert=pR
structure Kept (x:au) (k:Nat):Prop where
 par:x.par=mp
 cert:x.cert=pR
 used:x.used.length≤k
theorem Kept.sized {x:au} {k:Nat} (h:Kept x k) (hk:k≤1000000):x.gN:=by
 refine ⟨?_,?_,?_,Nat.le_trans h.used hk⟩
 ·rw [h.par,mF];decide
 ·rw [h.cert];decide
 ·rw [h.cert];decide
theorem QB.kept {a:jF} {m:Int} {c:Bool} {x:au} (h:QB a m c x):Kept x 0:=⟨h.par,h.cert,by rw [h.used];exact Nat.le_refl _⟩
set_option maxRecDepth 100000
open Go.Sx
set_option maxRecDepth 100000
open Go.Sx
def Zb (a y:Int):Bool:=decide (a<y)
def XW (l:List Int) (a:Int) (k:Nat):Bool:=(l.take k).any (Zb a)
theorem below {l:List Int} {a:Int} {k:Nat} (h:XW l a k=false) (ha:a ∉ l):∀ y∈l.take k,y<a:=fun y hy=>by
 have h1:=List.any_eq_false.1 h y hy
 have h2:y≠a:=fun e=>ha (e▸List.mem_of_mem_take hy)
 simp only [Zb,decide_eq_true_eq] at h1
 omega
theorem uy {l:List Int} {a:Int} {f g:Nat→List Value} {n:Nat} (hn:n=l.length) (hf:∀ i,i<l.length→f i=dO l i) (hg:g 0=[.int .i64 a]) {i:Nat} (hi:i<n + 1):eB f n g i=dO (l++[a]) i:=by
 subst hn
 by_cases h:i<l.length
 ·have e:Nat.blt i l.length=true:=by rw [yG];exact decide_eq_true h
  simp only [eB,e,cond_true]
  rw [hf i h,dO,dO,List.getD_eq_getElem?_getD,List.getD_eq_getElem?_getD,List.getElem?_append_left h]
 ·have e:Nat.blt i l.length=false:=by rw [yG];exact decide_eq_false h
  obtain rfl:i=l.length:=by omega
  simp only [eB,e,cond_false]
  rw [Nat.sub_self,hg,dO,List.getD_eq_getElem?_getD,List.getElem?_append_right (Nat.le_refl _),Nat.sub_self];rfl
set_option maxRecDepth 100000
open Go.Sx
section
variable {C:Ctx} {slots:List (Option XV)} {mem:Mem} {nx:Nat}
end
theorem xD {n:Int}:∀ i,i<1→((rD [Value.int .i64 n] 1 (0 + i)).all fun v=>v.oneCell')=true:=fun i hi=>by
 obtain rfl:=Nat.lt_one_iff.1 hi
 rfl
set_option maxRecDepth 100000
open Go.Sx
def bV (l:List dG) (i:Nat):List Int:=(l.take i).map fun o=>o.amt.toInt
theorem kg {l:List dG} {i:Nat} (hi:i≤l.length):(bV l i).length=i:=by rw [bV,List.length_map,List.length_take];omega
theorem yK {l:List dG} {i:Nat} (hi:i<l.length):bV l (i + 1)=bV l i++[(l.getD i default).amt.toInt]:=by
 rw [bV,List.take_add_one,List.getElem?_eq_getElem hi,List.map_append,List.getD_eq_getElem?_getD,List.getElem?_eq_getElem hi];rfl
def Wn (c:aT) (i:Nat):St :=
 ⟨[none,none,none,none,some (XV.sv (.slc 2 1 0 i)),none,none,none,some (XV.sv (.slc 0 9 0 c.outs.length)),some (XV.int .i64 c.outs.length),some (XV.int .i64 i)]++List.replicate 13 none,
  [(0,.ro 9 c.outs.length (bE c.outs)),(2,.vec 3 1 i (dO (bV c.outs i)))],3⟩
set_option maxHeartbeats 4000000 in
theorem IK (c:aT) (hl:c.outs.length≤1000000):Reads Tryz.prog 125 [.box c.ac] [] (Ab (bV c.outs c.outs.length)):=by
 have hsum:=RZ (bV c.outs c.outs.length) (by rw [kg (Nat.le_refl _)];omega)
 rw [kg (Nat.le_refl _)] at hsum
 refine Reads.of Tryz.aA Tryz.func125 rfl _ _ _ rfl rfl (fun C hC => ?_)
 (replace hC:C.n0=2:=hC;change av _ _ _ ⟨_,_,2⟩ _)
 refine xK 2 ?_
 refine wD <| ak <| av.ent (aN.nO (t:=4) rfl 3 1) <| av.seq ?_
 refine xK 1 ?_
 refine wD <| ak <| av.block ?_
 refine av.loop (α:={ i:Nat // i≤c.outs.length }) (fun i=>Wn c i.1) (fun i=>c.outs.length - i.1) ⟨0,Nat.zero_le _⟩ ?_ ?_
 ·unfold Wn
  ((try dsimp only);refine aN.dH [0,1,6] hC ?_ ?_<;>repeat' (first |exact trivial |exact rfl |exact ⟨_,rfl,rfl,rfl,Nat.le_refl _,fun _ _=>rfl⟩ |exact ⟨_,rfl,rfl,rfl,fun _ _=>rfl⟩ |exact ⟨_,rfl,rfl,rfl⟩ |exact ⟨_,rfl,rfl⟩ |refine ⟨_,rfl,rfl,rfl,by omega,fun k hk => ?_⟩ |refine ⟨?_,?_⟩ |fail))
  all_goals exact absurd ‹_<0› (Nat.not_lt_zero _)
 rintro ⟨i,hi⟩
 dsimp only
 unfold Wn
 refine xK 2 ?_
 refine wC (fun h1 => ?_) (fun h1 => ?_)
 ·(refine xG ?_)
  have h1':i<c.outs.length:=xW
  have hw:IntKind.i64.wrap ((i:Int) + 1)=((i + 1:Nat):Int):=xW
  have hal:=kg (l:=c.outs) hi
  refine wD <| ak <| av.seq <| av.block <| xI ?_
  (refine xB ?_)
  (repeat (refine wN ?_ ?_;exact xW;refine xG ?_))
  simp only [Nat.zero_add,Int.toNat_natCast]
  (refine wP _ _ (aD Tryz.aA rfl rfl rfl rfl rfl [2,11] (aR rfl rfl (Nat.le_refl _) rfl) (bU (lo:=0) rfl rfl (Nat.le_of_eq (Nat.zero_add _)) rfl) rfl xD (by simp only [maxLen];omega) (by dsimp only;omega)) ?_;refine xZ ?_)
  refine wD <| aJ <| ak <| xI ?_
  (refine xB ?_)
  refine wD <| aP ⟨⟨i + 1,h1'⟩,by dsimp only;omega,?_⟩
  rw [hw]
  dsimp only
  rw [yK h1']
  ((try dsimp only);refine aN.dH [0,1,12] hC ?_ ?_<;>repeat' (first |exact trivial |exact rfl |exact ⟨_,rfl,rfl,rfl,Nat.le_refl _,fun _ _=>rfl⟩ |exact ⟨_,rfl,rfl,rfl,fun _ _=>rfl⟩ |exact ⟨_,rfl,rfl,rfl⟩ |exact ⟨_,rfl,rfl⟩ |refine ⟨_,rfl,rfl,rfl,by omega,fun k hk => ?_⟩ |refine ⟨?_,?_⟩ |fail))
  all_goals exact uy hal.symm (fun _ _=>rfl) rfl ‹_<i + 1›
 ·(refine xG ?_)
  have h1':i=c.outs.length:=xW
  subst h1'
  refine wD <| bW <| aS <| aI <| ak <| xI ?_
  (refine xB ?_)
  refine xC rfl Tryz.func167 rfl (hsum.at [2] ⟨aF (lo:=0) rfl rfl rfl (Nat.le_of_eq (Nat.zero_add _)) (fun i _=>by rw [Nat.zero_add];rfl),trivial⟩ trivial) ?_
  exact wD (Ends.plain (.inr rfl) rfl rfl)
end Go.Proofs.YtnpkdoggfnlapaaGreatDoor
