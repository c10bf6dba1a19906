/- Parts Va Vb Vc Vd Vs. -/
import Derived.Test.YtnpkdoggfnlapaaGreatDoorG15
import Derived.Test.YtnpkdoggfnlapaaGreatDoorG20
import Derived.Lib.Bytealg
import Derived.Laws.Externs
import Derived.Shelf.GgSortFunc.InsertionK
import Derived.Shelf.SlSortCmp.QuietGrown
import Derived.RangeFuncGives
import Derived.Sort.MapsRangeIn
import Derived.WalkKit
import Derived.OwnWalkIn
import Derived.TacticsInMore
import Derived.RegionIn
import Derived.LoopNIn
import Derived.LoopIn
import Derived.RangeFuncBound
import Derived.Maps.AppendAt
import Derived.Shelf.SlIter.Collect
import Derived.Sort.Statements
import Derived.Shelf.SlSortCmp.Insertion
import Derived.Shelf.SlSortCmp.WholeK
import Derived.Shelf.SlSortCmp.NoneTotal
import Derived.Shelf.SlicesG.Cmp
import Derived.Shelf.SlGeneric
import Derived.Ground.SlsfProg
import Derived.Ground.SlgcProg
import Derived.Test.YtnpkdoggfnlapaaGreatDoorProg
set_option linter.unusedSimpArgs false
set_option linter.unusedVariables false
namespace Go.Proofs.YtnpkdoggfnlapaaGreatDoor
set_option maxRecDepth 100000
open Go.RowKit Go.Lib Go.Sort
theorem addr_add (b o j:Nat):(⟨b,o,none⟩:Addr).add j=⟨b,o + j,none⟩:=by unfold Addr.add;split<;>simp_all
theorem wM {P:Program} (w:World) (b:Nat):∀ (xs:List UInt8) (o:Nat) (acc:ByteArray),(∀ j x,xs[j]? = some x→w.cell? ⟨b,o + j,none⟩=some (u8 x)) →
  (Extern.Bytes.loadBytes ⟨b,o,none⟩ xs.length acc).run P w = .ok ⟨acc.data++xs.toArray⟩ w
 | [],o,acc,_=>by simp [Extern.Bytes.loadBytes]
 | x::l,o,acc,h=>by
  have h0:w.cell? ⟨b,o,none⟩=some (u8 x):=by simpa using h 0 x rfl
  have ih:=wM (P:=P) w b l (o + 1) (acc.push x) (fun j y hy=>by
   have:=h (j + 1) y (by simpa using hy)
   rw [← this];congr 2;omega)
  have e:(⟨b,o,none⟩:Addr).add 1=⟨b,o + 1,none⟩:=by simp [Addr.add]
  simp only [List.length_cons,Extern.Bytes.loadBytes,Sem.run_bind,run_load,h0,Result.andThen,u8,e]
  have e2:(Int.toNat (x.toNat:Int)).toUInt8=x:=by simp
  rw [e2,ih]
  congr 1
  apply ByteArray.ext
  simp [ByteArray.push]
theorem Ef {P:Program} (w:World) (b1 b2 c1 c2:Nat) (xs ys:List UInt8) (h1:∀ j x,xs[j]? = some x→w.cell? ⟨b1,j,none⟩=some (u8 x)) (h2:∀ j x,ys[j]? = some x→w.cell? ⟨b2,j,none⟩=some (u8 x)) :
  (Extern.BytealgCompare.compare #[.slice (some ⟨b1,0,none⟩) xs.length c1,.slice (some ⟨b2,0,none⟩) ys.length c2]).run P w = .ok (.int .i64 (compareBytes xs ys)) w:=by
 change Sem.run P (do pure (goInt (Extern.BytealgCompare.cmp (← Extern.Bytes.bytesOf (.slice (some ⟨b1,0,none⟩) xs.length c1)) (← Extern.Bytes.bytesOf (.slice (some ⟨b2,0,none⟩) ys.length c2))))) w=_
 have e1:=wM (P:=P) w b1 xs 0 .empty (by simpa using h1)
 have e2:=wM (P:=P) w b2 ys 0 .empty (by simpa using h2)
 simp only [Extern.Bytes.bytesOf,Sem.run_bind,Sem.run_pure,e1,e2,Result.andThen]
 have e3:∀ l:List UInt8,ByteArray.empty.data++l.toArray=l.toArray:=fun l=>by show (#[]:Array UInt8)++_=_;simp
 rw [cmp_eq,e3,e3]
 rfl
theorem vL (xs ys:List UInt8) (n m b1 b2 c1 c2:Nat) (w:World) (hn:xs.length=n) (hm:ys.length=m) (h1:∀ j x,xs[j]? = some x→w.cell? ⟨b1,j,none⟩=some (u8 x)) (h2:∀ j x,ys[j]? = some x→w.cell? ⟨b2,j,none⟩=some (u8 x)) :
  Calls Tryz.prog 206 #[.slice (some ⟨b1,0,none⟩) n c1,.slice (some ⟨b2,0,none⟩) m c2] w fun e w'=>e = .returned (.int .i64 (compareBytes xs ys))∧w'=w:=by
 subst hn hm
 have hx:(callFunc 230 #[.slice (some ⟨b1,0,none⟩) xs.length c1,.slice (some ⟨b2,0,none⟩) ys.length c2]).run Tryz.prog w = .ok (.value (.int .i64 (compareBytes xs ys))) w:=by
  rw [run_callFunc_extern Tryz.func230 (by kernel_rfl) (by kernel_rfl) (by kernel_rfl) (e:=Extern.BytealgCompare.compare) (by kernel_rfl),Ef w b1 b2 c1 c2 xs ys h1 h2]
  rfl
 go_enter Tryz.func206,Tryz.ntmps206
 go_wp2
 go_ret
 exact ⟨rfl,rfl⟩
theorem Nk (h:H8) (w:World) (b:Nat) (hb:∃ t,w.heap[b]? = some (.cells h.cells.toArray t (0,0))) (j:Nat) (x:UInt8) (hj:h.l[j]? = some x):w.cell? ⟨b,j,none⟩=some (u8 x):=by
 obtain ⟨t,hb⟩:=hb
 have e:h.cells=h.l.map u8:=rfl
 simp [World.cell?,hb,e,hj]
theorem gQ (w:World) (o:Obj):(w.alloc o).heap[w.heap.size]? = some o:=by show (w.heap.push o)[w.heap.size]? = some o;simp
set_option maxHeartbeats 2000000 in
set_option maxRecDepth 100000 in
theorem su (a b:H8) (W:World):Calls Tryz.prog 174 #[.agg a.cells.toArray,.agg b.cells.toArray] W fun e w'=>e = .returned (.bool (decide (compareBytes a.l b.l<0)))∧∃ q os',w'=grow (W.drewN q) os':=by
 obtain ⟨W2,hW2⟩:∃ W2,(W.alloc (.cells a.cells.toArray 29)).alloc (.cells b.cells.toArray 29)=W2:=⟨_,rfl⟩
 have g2:W2=grow W #[.cells a.cells.toArray 29,.cells b.cells.toArray 29]:=by rw [← hW2,alloc_eq_grow,alloc_eq_grow,grow_grow];rfl
 have s2:W2.heap.size=W.heap.size + 2:=by rw [← hW2];simp
 have k1:W2.heap[W.heap.size]? = some (.cells a.cells.toArray 29 (0,0)):=by rw [← hW2];exact (Below.heap_alloc _ _ _ (by simp)).trans (gQ W _)
 have k2:W2.heap[W.heap.size + 1]? = some (.cells b.cells.toArray 29 (0,0)):=by rw [← hW2];have:=gQ (W.alloc (.cells a.cells.toArray 29)) (.cells b.cells.toArray 29);rwa [World.size_alloc] at this
 have hg:∀ n os (k:Nat) o,W2.heap[k]? = some o→(grow (W2.drewN n) os).heap[k]? = some o:=fun n os k o h=>by
  have hk:=(Array.getElem?_eq_some_iff.1 h).1
  show ((W2.heap++os)[k]?)=_
  rw [Array.getElem?_append_left hk,h]
 have hcon:∀ n os,Calls Tryz.prog 206 #[.slice (some ⟨W.heap.size,0,none⟩) 8 8,.slice (some ⟨W.heap.size + 1,0,none⟩) 8 8] (grow (W2.drewN n) os) fun e w'=>e = .returned (.int .i64 (compareBytes a.l b.l))∧∃ q os',w'=grow ((grow (W2.drewN n) os).drewN q) os':=fun n os =>
  (vL a.l b.l 8 8 _ _ 8 8 _ rfl rfl (Nk a _ _ ⟨_,hg n os _ _ k1⟩) (Nk b _ _ ⟨_,hg n os _ _ k2⟩)).mono fun _ _ ⟨he,hw⟩=>⟨he,0,#[],by rw [hw,grow_empty];rfl⟩
 have mixed:=Tryz.mixed
 have e47:∀ args w,(callFunc 206 args).run Tryz.prog w = .ok (.enter 206 args) w:=enters_of Tryz.func206 (by kernel_rfl) rfl
 clear hW2 k1 k2 hg s2
 generalize compareBytes a.l b.l=r at hcon ⊢
 go_enter Tryz.func174,Tryz.ntmps174
 go_wp2_with (fail)
 rw [alloc_eq_grow,alloc_eq_grow,grow_grow]
 change Code.wp _ _ _ _ (grow W #[.cells a.cells.toArray 29,.cells b.cells.toArray 29])
 rw [← g2]
 have g3:∃ os,W2=grow W os:=⟨_,g2⟩
 clear g2
 go_quiet_grown (first |(go_at_fn 206;refine Calls.grown_of (hcon _ _)))
 go_wp2
 go_ret
 obtain ⟨os,rfl⟩:=g3
 exact ⟨rfl,nq,os++osq,by rw [← grow_grow];rfl⟩
def Pb (p q:Pt):Int:=if compareBytes p.tx.l q.tx.l<0 then -1 else if compareBytes q.tx.l p.tx.l<0 then 1 else compareInt p.no.toInt q.no.toInt
def nG (W:World) (b:Nat) (p q:Pt) (w:World):Prop:=(∃ n os,w=grow (W.drewN n) os)∧(∀ j v,p.cells[j]? = some v→w.cell? ⟨b,j,none⟩=some v)∧(∀ j v,q.cells[j]? = some v→w.cell? ⟨b + 1,j,none⟩=some v)
theorem Ir {w:World} {a:Addr} {v:Value} (h:w.cell? a=some v):a.block<w.heap.size:=by
 unfold World.cell? at h
 split at h
 ·rename_i e
  exact (Array.getElem?_eq_some_iff.1 e).1
 ·cases h
theorem nG.more {W:World} {b:Nat} {p q:Pt} {w:World} (h:nG W b p q w) (n:Nat) (os:Array Obj):nG W b p q (grow (w.drewN n) os):=by
 obtain ⟨⟨m,os0,rfl⟩,h2,h3⟩:=h
 refine ⟨⟨m + n,os0++os,?_⟩,fun j v hj=>cell_grown (Ir (h2 j v hj)) (h2 j v hj) n os,fun j v hj=>cell_grown (Ir (h3 j v hj)) (h3 j v hj) n os⟩
 show grow (grow ((W.drewN m).drewN n) os0) os=_
 rw [grow_grow,World.drewN_drewN]
theorem nG.start (W:World) (p q:Pt):nG W W.heap.size p q ((W.alloc (.cells p.cells.toArray 65)).alloc (.cells q.cells.toArray 65)):=by
 have k1:((W.alloc (.cells p.cells.toArray 65)).alloc (.cells q.cells.toArray 65)).heap[W.heap.size]? = some (.cells p.cells.toArray 65 (0,0)):=(Below.heap_alloc _ _ _ (by simp)).trans (gQ W _)
 have k2:((W.alloc (.cells p.cells.toArray 65)).alloc (.cells q.cells.toArray 65)).heap[W.heap.size + 1]? = some (.cells q.cells.toArray 65 (0,0)):=by
  have:=gQ (W.alloc (.cells p.cells.toArray 65)) (.cells q.cells.toArray 65)
  rwa [World.size_alloc] at this
 refine ⟨⟨0,_,by rw [alloc_eq_grow,alloc_eq_grow,grow_grow];rfl⟩,fun j v hj => ?_,fun j v hj => ?_⟩
 ·simp only [World.cell?,k1];simpa using hj
 ·simp only [World.cell?,k2];simpa using hj
theorem nG.at {W:World} {b:Nat} {p q:Pt} {w:World} (h:nG W b p q w):w.cell? ⟨b,0,none⟩=some (u8 p.tx.b0)∧w.cell? ⟨b,1,none⟩=some (u8 p.tx.b1)∧w.cell? ⟨b,2,none⟩=some (u8 p.tx.b2)∧w.cell? ⟨b,3,none⟩=some (u8 p.tx.b3)∧w.cell? ⟨b,4,none⟩=some (u8 p.tx.b4)∧w.cell? ⟨b,5,none⟩=some (u8 p.tx.b5)∧w.cell? ⟨b,6,none⟩=some (u8 p.tx.b6)∧w.cell? ⟨b,7,none⟩=some (u8 p.tx.b7)∧w.cell? ⟨b,8,none⟩=some (i64 p.no)∧w.cell? ⟨b + 1,0,none⟩=some (u8 q.tx.b0)∧w.cell? ⟨b + 1,1,none⟩=some (u8 q.tx.b1)∧w.cell? ⟨b + 1,2,none⟩=some (u8 q.tx.b2)∧w.cell? ⟨b + 1,3,none⟩=some (u8 q.tx.b3)∧w.cell? ⟨b + 1,4,none⟩=some (u8 q.tx.b4)∧w.cell? ⟨b + 1,5,none⟩=some (u8 q.tx.b5)∧w.cell? ⟨b + 1,6,none⟩=some (u8 q.tx.b6)∧w.cell? ⟨b + 1,7,none⟩=some (u8 q.tx.b7)∧w.cell? ⟨b + 1,8,none⟩=some (i64 q.no):=⟨h.2.1 0 _ rfl,h.2.1 1 _ rfl,h.2.1 2 _ rfl,h.2.1 3 _ rfl,h.2.1 4 _ rfl,h.2.1 5 _ rfl,h.2.1 6 _ rfl,h.2.1 7 _ rfl,h.2.1 8 _ rfl,h.2.2 0 _ rfl,h.2.2 1 _ rfl,h.2.2 2 _ rfl,h.2.2 3 _ rfl,h.2.2 4 _ rfl,h.2.2 5 _ rfl,h.2.2 6 _ rfl,h.2.2 7 _ rfl,h.2.2 8 _ rfl⟩
set_option maxHeartbeats 4000000 in
set_option maxRecDepth 100000 in
theorem JC (hcmp:∀ (x y:Int) (w:World),Calls Tryz.prog 175 #[.int .i64 x,.int .i64 y] w fun e w'=>e = .returned (.int .i64 (compareInt x y))∧w'=w) (p q:Pt) (W:World):Calls Tryz.prog 133 #[.agg p.cells.toArray,.agg q.cells.toArray] W fun e w'=>e = .returned (.int .i64 (Pb p q))∧∃ q os',w'=grow (W.drewN q) os':=by
 have h1:∀ w,nG W W.heap.size p q w→Calls Tryz.prog 174 #[.agg p.tx.cells.toArray,.agg q.tx.cells.toArray] w fun e w'=>e = .returned (.bool (decide (compareBytes p.tx.l q.tx.l<0)))∧nG W W.heap.size p q w' :=
  fun w h=>(su p.tx q.tx w).mono fun _ _ ⟨he,n,os,hw⟩=>⟨he,hw▸h.more n os⟩
 have h2:∀ w,nG W W.heap.size p q w→Calls Tryz.prog 174 #[.agg q.tx.cells.toArray,.agg p.tx.cells.toArray] w fun e w'=>e = .returned (.bool (decide (compareBytes q.tx.l p.tx.l<0)))∧nG W W.heap.size p q w' :=
  fun w h=>(su q.tx p.tx w).mono fun _ _ ⟨he,n,os,hw⟩=>⟨he,hw▸h.more n os⟩
 have h3:=fun W=>hcmp p.no.toInt q.no.toInt W
 have h0:=nG.start W p q
 have hat:∀ w,nG W W.heap.size p q w→_:=fun w h=>h.at
 have hend:∀ w,nG W W.heap.size p q w→∃ n os,w=grow (W.drewN n) os:=fun w h=>h.1
 unfold Pb
 generalize hr1:compareBytes p.tx.l q.tx.l=r1 at h1 ⊢
 generalize hr2:compareBytes q.tx.l p.tx.l=r2 at h2 ⊢
 generalize compareInt p.no.toInt q.no.toInt=r3 at h3 ⊢
 clear hcmp hr1 hr2
 obtain ⟨⟨x0,x1,x2,x3,x4,x5,x6,x7⟩,xn⟩:=p
 obtain ⟨⟨y0,y1,y2,y3,y4,y5,y6,y7⟩,yn⟩:=q
 generalize nG W W.heap.size _ _=PA at *
 dsimp only [Pt.cells,H8.cells] at *
 go_enter Tryz.func133,Tryz.ntmps133
 go_wp2_with (first
  | (go_at_call 174;refine (h1 _ h0).mono ?_;clear h1;rintro e w1 ⟨rfl,hP1⟩;obtain ⟨c0,c1,c2,c3,c4,c5,c6,c7,c8,c9,c10,c11,c12,c13,c14,c15,c16,c17⟩:=hat _ hP1)
  | (go_at_call 174;refine (h2 _ hP1).mono ?_;clear h2;rintro e w2 ⟨rfl,hP2⟩;obtain ⟨d0,d1,d2,d3,d4,d5,d6,d7,d8,d9,d10,d11,d12,d13,d14,d15,d16,d17⟩:=hat _ hP2)
  | (go_at_call 175;refine (h3 _).mono ?_;clear h3;rintro e w' ⟨rfl,rfl⟩))
 ·go_ret
  exact ⟨rfl,hend _ hP1⟩
 ·go_ret
  exact ⟨rfl,hend _ hP2⟩
 ·go_ret
  exact ⟨rfl,hend _ hP2⟩
set_option maxRecDepth 100000
open Go.RowKit Go.Lib Go.Sort Go.MapKept
theorem xY {α β:Type} (f:α→β):∀ {l:List α},(l.map f).Nodup→∀ x∈l,∀ y∈l,f x=f y→x=y
 | [],_,x,hx,_,_,_=>by cases hx
 | a::l,h,x,hx,y,hy,e=>by
  rw [List.map_cons,List.nodup_cons] at h
  rcases List.mem_cons.1 hx with rfl |hx'<;>rcases List.mem_cons.1 hy with rfl |hy'
  ·rfl
  ·exact absurd (List.mem_map.2 ⟨y,hy',e.symm⟩) h.1
  ·exact absurd (List.mem_map.2 ⟨x,hx',e⟩) h.1
  ·exact xY f h.2 x hx' y hy' e
section
variable {F:Fence} {n:Nat} {P:Program} (w:World) {ops:Array Oper} {rest:List Oper} {o:Oper} {a:Act} {Q:Exit→Act→World→Prop}
structure Walk (w:World) (b r:Nat) (es:Array MapEntry) (clock:Nat) (done:List MapEntry):Prop where
 ne:r≠b
 map:w.heap[b]? = some (.map es clock)
 it:∃ since seen c0,w.heap[r]? = some (.mapIter (some b) since seen c0)∧(∀ x∈es.toList,x.born<since)∧since≤c0∧since≤clock∧seen.toList=done.map (·.born)
 sub:∀ e∈done,e∈es.toList
 nodup:(done.map (·.born)).Nodup
theorem Walk.of_walks {w w':World} {b r:Nat} {es:Array MapEntry} {clock:Nat} {done:List MapEntry} (h:Walk w b r es clock done) (hk:KeepsWalks w w'):Walk w' b r es clock done:=by
 obtain ⟨h0,h1,⟨since,seen,c0,h2,h3⟩,h4,h5⟩:=h
 exact ⟨h0,hk.same b _ h1 rfl,⟨since,seen,c0,hk.same r _ h2 rfl,h3⟩,h4,h5⟩
theorem Walk.iter {w:World} {b r:Nat} {es:Array MapEntry} {clock:Nat} {done:List MapEntry} (h:Walk w b r es clock done):∃ o:Obj,w.heap[r]? = some o∧o.isWalk=true:=by
 obtain ⟨_,_,⟨since,seen,c0,h2,_⟩,_,_⟩:=h
 exact ⟨_,h2,rfl⟩
theorem Walk.left_eq {w:World} {b r:Nat} {es:Array MapEntry} {clock:Nat} {done:List MapEntry} (h:Walk w b r es clock done) {since c0:Nat} {seen:Array Nat} (h2:w.heap[r]? = some (.mapIter (some b) since seen c0)):w.rangeLeft b r=(leftOf es seen).size:=by
 simp [World.rangeLeft,h.map,h2]
theorem Walk.Ci {w w':World} {b r:Nat} {es:Array MapEntry} {clock:Nat} {done:List MapEntry} (h:Walk w b r es clock done) (hk:KeepsWalks w w'):w'.rangeLeft b r=w.rangeLeft b r:=by
 obtain ⟨h0,h1,⟨since,seen,c0,h2,h3⟩,h4,h5⟩:=h
 simp [World.rangeLeft,h1,h2,hk.same b _ h1 rfl,hk.same r _ h2 rfl]
theorem wU (hg:o.guard=none) (m:Operand) (t:TypeId) (hop:o.op=Op.range t m) (k e:TypeId) (ht:P.underlying t=some (.map k e)) (b:Nat) (es:Array MapEntry) (clock:Nat)
  (hm:a.eval m = .map (some b)) (hb:w.heap[b]? = some (.map es clock)) (hst:Stamped es clock)
  (hK:∀ w',Walk w' b w.heap.size es clock []→w.grownBy w' none→w'.heap.size=w.heap.size + 1→wpListIn F n P ops Q rest (a.put o.dst (.pointer (some ⟨w.heap.size,0,none⟩))) w') :
  wpListIn F n P ops Q (o::rest) a w:=by
 refine wpListIn_plain hg fun K' hK' => ?_
 have hrun:=run_range_map (P:=P) w t k e b es clock ht hb
 have hlt:b<w.heap.size:=(Array.getElem?_eq_some_iff.1 hb).1
 unfold Oper.wpIn
 refine ⟨?_,?_⟩
 ·simp [Oper.about,hop]
 ·rw [Oper.semAt_plain F _ _ (by rw [hop];intro c hc';cases hc')]
  simp [execOp,hop,hm,hrun,Result.andThen]
  refine hK' _ _ (hK _ ⟨by omega,(Below.heap_alloc _ _ _ hlt).trans hb,⟨clock,#[],clock,gQ _ _,((stamped_iff es clock).1 hst).1,Nat.le_refl _,Nat.le_refl _,rfl⟩,by simp,by simp⟩ (World.grownBy_alloc w _ none) (by simp))
theorem zo (hg:o.guard=none) (it:Operand) (hop:o.op=Op.next it false) (b r:Nat) (es:Array MapEntry) (clock:Nat) (done:List MapEntry) (hst:Stamped es clock)
  (hit:a.eval it = .pointer (some ⟨r,0,none⟩)) (h:Walk w b r es clock done)
  (hDone:(∀ e∈es.toList,e∈done)→wpListIn F n P ops Q rest (a.put o.dst (.tuple #[.bool false])) w)
  (hMore:∀ (e:MapEntry) (w':World),e∈es.toList→e ∉ done→Walk w' b r es clock (done++[e])→w'.rangeLeft b r<w.rangeLeft b r→w.grownBy w' (some r)→w'.heap.size=w.heap.size →
   (Instr.entry (.pointer (some ⟨r,0,none⟩))).run P w' = .ok (.tuple #[e.key,e.val]) w'→wpListIn F n P ops Q rest (a.put o.dst (.tuple #[.bool true,e.key,e.val])) w') :
  wpListIn F n P ops Q (o::rest) a w:=by
 refine wpListIn_plain hg fun K' hK' => ?_
 unfold Oper.wpIn
 refine ⟨by simp [Oper.about,hop],?_⟩
 rw [Oper.semAt_plain F _ _ (by rw [hop];intro c hc';cases hc')]
 have hborn:=((stamped_iff es clock).1 hst).2.1
 have hW:=h
 obtain ⟨hne,hb,⟨since,seen,c0,hr,hold,hsc,hsk,hseen⟩,hsub,hnd⟩:=h
 have hcont:∀ x,seen.contains x=true↔x∈done.map (·.born):=fun x=>by rw [Array.contains_iff_mem,← Array.mem_toList_iff,hseen]
 have hinj:∀ x∈es.toList,∀ y∈es.toList,x.born=y.born→x=y:=xY _ hborn
 rcases run_next_at (P:=P) w o.type r b since c0 seen es clock hr hb hold hsc with ⟨h0,hrun⟩ |⟨e,he,w1,hal,hrun⟩
 ·simp [execOp,hop,hit,hrun,Result.andThen]
  refine hK' _ _ (hDone fun e he => ?_)
  have:=(hcont _).1 (all_seen es seen h0 e he)
  obtain ⟨d,hd,hde⟩:=List.mem_map.1 this
  exact hinj d (hsub d hd) e he hde▸hd
 ·obtain ⟨hem,hes⟩:=mem_left he
  have hr1:w1.heap[r]? = some (.mapIter (some b) since seen c0):=by rcases hal with rfl |rfl<;>exact hr
  have hb1:w1.heap[b]? = some (.map es clock):=by rcases hal with rfl |rfl<;>exact hb
  have hset:=heap_set (o' := .mapIter (some b) since (seen.push e.born) clock) hr1
  have hb':=(hset.2 b (fun e1=>hne e1.symm)).trans hb1
  have hnew:e.born ∉ done.map (·.born):=fun hx=>by rw [(hcont _).2 hx] at hes;cases hes
  have hwalk:Walk (Go.ChangeMaps.setBlock w1 r (.mapIter (some b) since (seen.push e.born) clock)) b r es clock (done++[e]):=by
   refine ⟨hne,hb',⟨since,seen.push e.born,clock,hset.1,hold,hsk,hsk,by simp [hseen]⟩,fun x hx => ?_,?_⟩
   ·rcases List.mem_append.1 hx with hx |hx
    ·exact hsub x hx
    ·simp at hx;subst hx;exact hem
   ·rw [List.map_append]
    refine List.nodup_append.2 ⟨hnd,by simp,fun x hx y hy => ?_⟩
    simp at hy;subst hy
    exact fun e=>hnew (e▸hx)
  simp [execOp,hop,hit,hrun,Result.andThen]
  refine hK' _ _ (hMore e _ hem (fun hx=>hnew (List.mem_map.2 ⟨e,hx,rfl⟩)) hwalk ?_ ?_ ?_ (run_entry_at _ r b since seen es clock e hset.1 hb' hem hborn))
  ·rw [hwalk.left_eq hset.1,hW.left_eq hr];exact left_shrinks es seen e he
  ·rcases hal with rfl |rfl<;>exact ⟨rfl,rfl,rfl,by simp [Go.ChangeMaps.setBlock],fun i _ hi=>hset.2 i (fun e1=>hi (by rw [e1]))⟩
  ·rcases hal with rfl |rfl<;>simp [Go.ChangeMaps.setBlock]
end
theorem RJ {α:Type} [DecidableEq α]:∀ {l l':List α},l.Nodup→(∀ x∈l,x∈l')→l.length≤l'.length
 | [],_,_,_=>Nat.zero_le _
 | a::r,l',h,hs=>by
  rw [List.nodup_cons] at h
  have ha:=hs a (by simp)
  have:=RJ (l:=r) (l':=l'.erase a) h.2 (fun x hx=>(List.mem_erase_of_ne (fun (e:x=a)=>h.1 (e▸hx))).2 (hs x (by simp [hx])))
  rw [List.length_erase_of_mem ha] at this
  have:0<l'.length:=List.length_pos_of_mem ha
  simp;omega
theorem kL {α β:Type} (f:α→β):∀ {l:List α},(l.map f).Nodup→l.Nodup
 | [],_=>List.nodup_nil
 | a::r,h=>by
  rw [List.map_cons,List.nodup_cons] at h
  exact List.nodup_cons.2 ⟨fun hx=>h.1 (List.mem_map.2 ⟨a,hx,rfl⟩),kL f h.2⟩
theorem Og {es:List MapEntry} {pc:List (Pt×bF)} {done:List MapEntry} {ss:List Pt} (hb:(es.map (·.born)).Nodup) (hk:(es.map (·.key)).Nodup) (hpc:es.map (fun e=>(e.key,e.val))=pc.map fun x=>(x.1.v,x.2.v))
  (hsub:∀ e∈done,e∈es) (hnd:(done.map (·.born)).Nodup) (hds:done.map (·.key)=ss.map Pt.v) (hall:∀ e∈es,e∈done):ss.Perm (pc.map (·.1)):=by
 have h1:done.Perm es:=(List.perm_ext_iff_of_nodup (kL _ hnd) (kL _ hb)).2 fun e=>⟨hsub e,hall e⟩
 have h2:es.map (·.key)=(pc.map (·.1)).map Pt.v:=by
  have:=congrArg (List.map Prod.fst) hpc
  simpa [List.map_map,Function.comp_def] using this
 have h3:(ss.map Pt.v).Perm ((pc.map (·.1)).map Pt.v):=by rw [← hds,← h2];exact h1.map _
 have h4:(ss.map Pt.v).Nodup:=by rw [← hds];exact (h1.map _).nodup_iff.2 hk
 have h5:((pc.map (·.1)).map Pt.v).Nodup:=by rw [← h2];exact hk
 refine (List.perm_ext_iff_of_nodup (kL _ h4) (kL _ h5)).2 fun p => ?_
 have h6:∀ l:List Pt,p∈l↔p.v∈l.map Pt.v:=fun l=>⟨fun h=>List.mem_map.2 ⟨p,h,rfl⟩,fun h=>by obtain ⟨q,hq,e⟩:=List.mem_map.1 h;exact Pt.inj _ _ e▸hq⟩
 rw [h6,h6,h3.mem_iff]
set_option maxRecDepth 100000 in
set_option maxHeartbeats 2000000 in
theorem Me (F:Fence) (n:Nat) (h39:F.fn 173) (hro:F.round=none) (hn:1≤n) (l Bm b:Nat) (es:Array MapEntry) (clock:Nat) (hst:Stamped es clock) (pc:List (Pt×bF))
  (hpc:es.toList.map (fun e=>(e.key,e.val))=pc.map fun x=>(x.1.v,x.2.v)) (J:List Pt→World→Prop)
  (hY:∀ pre x W,J pre W→pre.length<pc.length→YieldAt F (n - 1) Tryz.prog l #[x.v] W fun e W'=>e = .returned (.bool true)∧J (pre++[x]) W'∧KeepsWalks W W')
  (W:World) (hJ:AbidesFrom W.heap.size J) (hm:W.cell? ⟨Bm,0,none⟩=some (.map (some b))) (hb:W.heap[b]? = some (.map es clock)) (h0:J [] W) :
  CallsIn F n Tryz.prog 173 #[.func (.yield l) #[] #[],.pointer (some ⟨Bm,0,none⟩)] W fun e W'=>(∃ v,e = .returned v)∧∃ ss:List Pt,ss.Perm (pc.map (·.1))∧J ss W':=by
 have hkeys:∀ e∈es.toList,∃ x∈pc,e.key=x.1.v∧e.val=x.2.v:=fun e he=>by
  have:(e.key,e.val)∈es.toList.map (fun e=>(e.key,e.val)):=List.mem_map.2 ⟨e,he,rfl⟩
  rw [hpc] at this
  obtain ⟨x,hx,e1⟩:=List.mem_map.1 this
  simp only [Prod.mk.injEq] at e1
  exact ⟨x,hx,e1.1.symm,e1.2.symm⟩
 have hlen:es.toList.length=pc.length:=by have:=congrArg List.length hpc;simpa using this
 have hst':=(stamped_iff es clock).1 hst
 refine callsIn_of_wp Tryz.func173 rfl h39 ?_ hro
 simp only [Tryz.ntmps173,List.size_toArray,List.length_cons,List.length_nil,Nat.reduceAdd,Nat.reduceSub,Array.replicate_succ,Array.replicate_zero,List.push_toArray,List.append_toArray,List.nil_append,List.cons_append]
 gi_wp2_with (first
  | (gi_at_range;refine wU _ rfl _ 128 rfl 65 61 rY b es clock rfl hb hst ?_;intro w0 hrg0 hg0 hs0)
  | gi_in)
 go_frame
 gi_loopw [3] (fun _ wr=>∃ (done:List MapEntry) (ss:List Pt),Walk wr b W.heap.size es clock done∧done.map (·.key)=ss.map Pt.v∧J ss wr)
  (fun _ wr=>wr.rangeLeft b W.heap.size)
 case atStart =>
  exact ⟨[],[],hrg0,rfl,hJ [] W w0 none h0 hg0 (fun r e=>by cases e)⟩
 case round =>
  obtain ⟨done,ss,hrg,hds,hJs⟩:=hrel
  gi_wp2_with (first
   | (gi_at_next;refine zo _ rfl _ rfl b W.heap.size es clock done hst rfl hrg ?_ ?_)
   | gi_in)
  ·intro hall
   gi_wp2
   go_end0
   have hkn:(es.toList.map (·.key)).Nodup:=List.pairwise_map.2 hst'.2.2
   exact ⟨⟨_,rfl⟩,ss,Og hst'.2.1 hkn hpc hrg.sub hrg.nodup hds (by simpa using hall),hJs⟩
  ·intro e w2 hem hnew hrg2 hlt hg2 hs2 hen
   have hem':e∈es.toList:=by simpa using hem
   obtain ⟨⟨p,c⟩,hx,ek,ev⟩:=hkeys e hem'
   have hll:(done++[e]).length≤es.toList.length:=by
    have:=RJ (l:=(done++[e]).map (·.born)) (l':=es.toList.map (·.born)) hrg2.nodup (fun x hx=>by obtain ⟨y,hy,rfl⟩:=List.mem_map.1 hx;exact List.mem_map.2 ⟨y,hrg2.sub y hy,rfl⟩)
    simpa using this
   have hsl:ss.length<pc.length:=by
    have:=congrArg List.length hds
    simp at this hll
    simp at hlen
    omega
   have hds2:(done++[e]).map (·.key)=(ss++[p]).map Pt.v:=by simp [hds,ek]
   have hJ2:J ss w2:=hJ ss wr w2 (some W.heap.size) hJs hg2 (fun r e=>by cases e;exact ⟨Nat.le_refl _,hrg.iter⟩)
   have hJ3:J ss (w2.alloc (.cells p.cells.toArray 65)):=hJ ss w2 _ none hJ2 (World.grownBy_alloc w2 _ none) (fun r e=>by cases e)
   have hk3:KeepsWalks w2 (w2.alloc (.cells p.cells.toArray 65)):=KeepsWalks.alloc _ _
   have hrg3:=hrg2.of_walks hk3
   obtain ⟨fn,tmps,assign,body,hy,hR⟩:=hY ss p _ hJ3 hsl
   simp only [ek,ev] at hen ⊢
   have hlt3:(w2.alloc (.cells p.cells.toArray 65)).rangeLeft b W.heap.size<wr.rangeLeft b W.heap.size:=by rw [hrg2.Ci hk3];exact hlt
   clear hs2 hk3 hJ3 hkeys hx hlt hrg2
   generalize hq:ss++[p]=ssp at *
   generalize c.v=cv at *
   obtain ⟨⟨x0,x1,x2,x3,x4,x5,x6,x7⟩,xn⟩:=p
   dsimp only [Pt.v,Pt.cells,YtnpkdoggfnlapaaGreatDoor.u8,i64] at *
   gi_wp2
   refine hR.mono ?_
   rintro e W3 ⟨rfl,hJ3,hk3⟩
   gi_wp2
   have hlt4:=hrg3.Ci hk3
   have hrg4:=hrg3.of_walks hk3
   go_roundw
   case rel=>exact ⟨_,ssp,hrg4,hds2,hJ3⟩
   case measure=>rw [hlt4];exact hlt3
theorem Px (F:Fence) (n:Nat) (h31:F.fn 132) (hro:F.round=none) (mb:Option Nat) (w:World) :
  CallsIn F n Tryz.prog 132 #[.map mb] w fun e w'=>e = .returned (.func (.func 173) #[] #[.pointer (some ⟨w.heap.size,0,none⟩)])∧w'=w.alloc (.cells #[.map mb] 128):=by
 refine callsIn_of_wp Tryz.func132 rfl h31 ?_ hro
 simp only [Tryz.ntmps132,List.size_toArray,List.length_cons,List.length_nil,Nat.reduceAdd,Nat.reduceSub,Array.replicate_succ,Array.replicate_zero,List.push_toArray,List.append_toArray,List.nil_append,List.cons_append]
 gi_wp2
 go_ret
 exact ⟨rfl,rfl⟩
theorem G8 (F:Fence) (n:Nat) (h39:F.fn 173) (hro:F.round=none) (hn:1≤n) (Bm b:Nat) (es:Array MapEntry) (clock:Nat) (hst:Stamped es clock) (pc:List (Pt×bF))
  (hpc:es.toList.map (fun e=>(e.key,e.val))=pc.map fun x=>(x.1.v,x.2.v)) (w:World) (hBm:Bm<w.heap.size) (hm:w.cell? ⟨Bm,0,none⟩=some (.map (some b))) (hb:w.heap[b]? = some (.map es clock)) :
  SeqGives F n Tryz.prog 173 #[.pointer (some ⟨Bm,0,none⟩)] Pt.v (fun ss=>ss.Perm (pc.map (·.1))) pc.length w:=fun l J W hW hJ hY h0 =>
 Me F n h39 hro hn l Bm b es clock hst pc hpc J hY W hJ ((hW.cell (p:=⟨Bm,0,none⟩) hBm).trans hm) ((hW.block b (Array.getElem?_eq_some_iff.1 hb).1).trans hb) h0
set_option maxRecDepth 100000
open Go.RowKit Go.Lib Go.Sort Go.MapKept
def wm:Code→Option (Code×Code)
 | .rangeFunc _ _ a b=>some (a,b)
 | .block _ c=>wm c
 | .seq a b=>match wm a with |some x=>some x |none=>wm b
 | _=>none
def apRec (A B:Code) (fn:FuncId) (sv:Value) (Bs D:Nat) (st:LoopState) (pend:Option Code):Loop :=
 { state:=st,pending:=pend,fn,tmps := #[.slice none 0 0,sv,.pointer (some ⟨Bs,0,none⟩),undef,.slice none 0 0,undef,sv,undef,undef,undef,undef,undef,undef],params := #[7],assign:=A,body:=B,defers:=D }
def fC (ss:List Pt):List Value:=ss.flatMap Pt.cells
theorem BX (ss:List Pt):(fC ss).length=ss.length * 9:=by
 induction ss with
 | nil=>rfl
 | cons x r ih=>simp only [fC,List.flatMap_cons,List.length_append,List.length_cons] at ih ⊢;rw [ih];simp [Pt.cells];omega
structure ApAt (A B:Code) (w0:World) (fn:FuncId) (sv:Value) (Bs l D:Nat) (ss:List Pt) (W:World):Prop where
 box:∃ v,W.heap[Bs]? = some (.cells #[v] 75 (0,0))∧W.ownsRow w0.heap.size 65 9 v ss.length (fC ss)∧(v = .slice none 0 0↔ss=[])
 L:W.heap[l]? = some (.loop (apRec A B fn sv Bs D .ready none))
 K:W.heap[D]? = some (.deferred (some []))
 below:Below w0.heap.size w0 W
theorem ap_abides (A B:Code) (w0:World) (fn:FuncId) (sv:Value) (Bs l D b:Nat) (hB:w0.heap.size≤b):AbidesFrom b (ApAt A B w0 fn sv Bs l D):=fun s W W' row h hg hrow=>by
 have hrow':∀ r,row=some r→∃ o:Obj,W.heap[r]? = some o∧o.isWalk=true:=fun r e=>(hrow r e).2
 obtain ⟨v,hv,hr,hn⟩:=h.box
 exact ⟨⟨v,(grownBy_keeps hg hrow' hv rfl).trans hv,ownsRow_abides_a hr hg hrow',hn⟩,(grownBy_keeps hg hrow' h.L rfl).trans h.L,(grownBy_keeps hg hrow' h.K rfl).trans h.K,
  h.below.grown hg h.below.size (fun k e=>Nat.le_trans hB (hrow k e).1)⟩
theorem QH:((75:TypeId)≠65):=by decide
theorem QI:Tryz.prog.underlying 75=some (.slice 65):=Tryz.underlying75
theorem Ux:(Tryz.prog.info? 65).map (fun i=>(i.zero,i.size,i.bytes))=some (some (Pt.v default),9,16):=by kernel_rfl
theorem Oi (W:World) (cs:List Value) (t:TypeId) (j:Nat) (u:Value) (h:cs[j]? = some u):(W.alloc (.cells cs.toArray t)).cell? ((⟨W.heap.size,0,none⟩:Addr).add j)=some u:=by
 rw [addr_add]
 simp only [World.cell?,gQ]
 simpa using h
set_option maxRecDepth 100000 in
set_option maxHeartbeats 4000000 in
theorem apYield {A B:Code} (hAB:Tryz.f203.body.bind wm=some (A,B)) (F:Fence) (m:Nat) (w0:World) (fn:FuncId) (hfn:F.fn fn) (sv:Value) (Bs l D:Nat) (hBl:Bs≠l) (hDl:D≠l) (hDB:D≠Bs) (h0B:w0.heap.size≤Bs) (h0l:w0.heap.size≤l)
  (N:Nat) (hN:N≤maxLen) (hNb:N * 16≤140737488355328) (ss:List Pt) (x:Pt) (W:World) (h:ApAt A B w0 fn sv Bs l D ss W) (hlen:ss.length<N) :
  YieldAt F m Tryz.prog l #[x.v] W fun e W'=>e = .returned (.bool true)∧ApAt A B w0 fn sv Bs l D (ss++[x]) W'∧KeepsWalks W W':=by
 obtain ⟨i0,hi,hz0,hz1,hz2⟩:=info_parts Ux
 obtain ⟨v,hv,hrow,_⟩:=h.box
 refine ⟨fn,#[.slice none 0 0,sv,.pointer (some ⟨Bs,0,none⟩),undef,.slice none 0 0,undef,sv,x.v,undef,undef,undef,undef,undef],A,B,by simpa [apRec] using run_yield (P:=Tryz.prog) (args := #[x.v]) h.L rfl,roundIn_of_wpIn hfn ?_⟩
 have hl:l<W.heap.size:=(Array.getElem?_eq_some_iff.1 h.L).1
 -- the variable's own block
 obtain ⟨W1,hW1⟩:∃ W1,W.alloc (.cells x.cells.toArray 65)=W1:=⟨_,rfl⟩
 have hg1:W.grownBy W1 none:=by rw [← hW1];exact World.grownBy_alloc W _ none
 have hk1:KeepsWalks W W1:=by rw [← hW1];exact KeepsWalks.alloc _ _
 have hx1:W1.heap[W.heap.size]? = some (.cells x.cells.toArray 65 (0,0)):=by rw [← hW1];exact gQ _ _
 have hold1:∀ (k:Nat) (o:Obj),W.heap[k]? = some o→W1.heap[k]? = some o:=fun k o hk=>(hg1.block k (Array.getElem?_eq_some_iff.1 hk).1 (by simp)).trans hk
 have hrow1:W1.ownsRow w0.heap.size 65 9 v ss.length (fC ss):=by rw [← hW1];exact hrow.alloc _
 have hL1:=hold1 _ _ h.L
 have hbr:=run_beginRound (P:=Tryz.prog) hL1 rfl
 obtain ⟨W2,hW2⟩:∃ W2,W1.putObj l (.loop { apRec A B fn sv Bs D .ready none with state := .busy })=W2:=⟨_,rfl⟩
 rw [hW2] at hbr
 have hg2:W1.grownBy W2 (some l):=by rw [← hW2];exact grownBy_putObj_a _ _ _
 have hk2:KeepsWalks W W2:=hk1.trans (by rw [← hW2];exact KeepsWalks.putObj _ hL1 rfl)
 have hv2:W2.heap[Bs]? = some (.cells #[v] 75 (0,0)):=by rw [← hW2];exact (World.putObj_heap_other hBl).trans (hold1 _ _ hv)
 have hK2:W2.heap[D]? = some (.deferred (some [])):=by rw [← hW2];exact (World.putObj_heap_other hDl).trans (hold1 _ _ h.K)
 have hl1:l<W1.heap.size:=(Array.getElem?_eq_some_iff.1 hL1).1
 have hx2:W2.heap[W.heap.size]? = some (.cells x.cells.toArray 65 (0,0)):=by rw [← hW2];exact (World.putObj_heap_other (by omega)).trans hx1
 have hL2:W2.heap[l]? = some (.loop { apRec A B fn sv Bs D .ready none with state := .busy }):=by rw [← hW2];exact World.putObj_heap_same hl1
 have hrow2:W2.ownsRow w0.heap.size 65 9 v ss.length (fC ss):=hrow1.kept hg2 (ownsRow_ne_a hrow1 hL1 (fun cur e=>by first |cases e |exact QH (Obj.cells.inj e).2.1))
 have hb1:Below w0.heap.size w0 W1:=by rw [← hW1];exact h.below.alloc h.below.size _
 have hb2:Below w0.heap.size w0 W2:=hb1.grown hg2 hb1.size (fun k e=>by cases e;exact h0l)
 obtain ⟨hc2,hf2⟩:=cell_of_box_a hv2
 have hBlt:Bs<W2.heap.size:=(Array.getElem?_eq_some_iff.1 hv2).1
 have hl2:l<W2.heap.size:=(Array.getElem?_eq_some_iff.1 hL2).1
 have hDlt:D<W2.heap.size:=(Array.getElem?_eq_some_iff.1 hK2).1
 have ne_of:∀ {j:Nat} {o:Obj},W2.heap[j]? = some o→(∀ cur,o ≠ .cells cur 65 (0,0))→some j≠v.ownBlock:=fun hj hno=>by
  rcases ownsRow_ne_a hrow2 hj hno with e |e
  ·rw [e];simp
  ·exact fun e'=>e e'.symm
 have hxc:∀ j u,x.cells[j]? = some u→W2.cell? ⟨W.heap.size,j,none⟩=some u:=fun j u hj=>by simp only [World.cell?,hx2];simpa using hj
 have hx0:=hxc 0 _ rfl
 have hxa:=hxc 1 _ rfl
 have hxb:=hxc 2 _ rfl
 have hxd:=hxc 3 _ rfl
 have hxe:=hxc 4 _ rfl
 have hxf:=hxc 5 _ rfl
 have hxg:=hxc 6 _ rfl
 have hxh:=hxc 7 _ rfl
 have hxi:=hxc 8 _ rfl
 have hnew:=Oi W2 x.cells 65
 have hone:∀ u∈x.cells,u.oneCell'=true:=fun u hu=>by simp [Pt.cells] at hu;rcases hu with rfl |rfl |rfl |rfl |rfl |rfl |rfl |rfl |rfl<;>rfl
 have hflat:fC (ss++[x])=fC ss++x.cells:=by simp [fC]
 have hss:(ss++[x]).length=ss.length + 1:=by simp
 have hnil:ss++[x]≠[]:=by simp
 rw [← hW1] at hbr
 have hendR:∀ W',W'.heap[l]? = some (.loop { apRec A B fn sv Bs D .ready none with state := .busy })→(Instr.endRound l none).run Tryz.prog W' = .ok (.bool true) (W'.putObj l (.loop (apRec A B fn sv Bs D .ready none))):=fun W' h'=>run_endRound none h'
 have hmk:∀ W' v',W'.heap[Bs]? = some (.cells #[v'] 75 (0,0))→W'.ownsRow w0.heap.size 65 9 v' (ss.length + 1) (fC ss++x.cells)→v' ≠ .slice none 0 0→W'.heap[l]? = some (.loop (apRec A B fn sv Bs D .ready none))→W'.heap[D]? = some (.deferred (some []))→Below w0.heap.size w0 W'→ApAt A B w0 fn sv Bs l D (ss++[x]) W' :=
  fun W' v' q1 q2 q3 q4 q5 q6=>⟨⟨v',q1,by rw [hss,hflat];exact q2,⟨fun e=>absurd e q3,fun e=>absurd e hnil⟩⟩,q4,q5,q6⟩
 have hoB:∀ cur t,(Obj.loop { apRec A B fn sv Bs D .ready none with state := .busy }) ≠ .cells cur t (0,0):=fun _ _ e=>by cases e
 have hwB:(Obj.loop { apRec A B fn sv Bs D .ready none with state := .busy }).isWalk=false:=rfl
 clear hW2 hW1 hxc hx1 hx2 hL1 hold1 hflat hss
 generalize (Obj.loop { apRec A B fn sv Bs D .ready none with state := .busy })=oB at *
 generalize (Obj.loop (apRec A B fn sv Bs D .ready none))=oR at *
 generalize ApAt A B w0 fn sv Bs l D (ss++[x])=PA at *
 clear h
 obtain ⟨⟨x0,x1,x2,x3,x4,x5,x6,x7⟩,xn⟩:=x
 dsimp only [Pt.v,Pt.cells,YtnpkdoggfnlapaaGreatDoor.u8,i64] at *
 simp only [Tryz.f203,Option.bind_some,wm,Option.some.injEq,Prod.mk.injEq] at hAB
 obtain ⟨rfl,rfl⟩:=hAB
 gi_wp2_with gi_round_op_a
 refine ⟨W2,hbr,?_⟩
 gi_wp2_with (first
  | (
    gi_at_builtin;refine wpListIn_append_own _ rfl _ _ 75 rfl w0.heap.size 65 i0 _ 9 16 QI hi hz0 hz1 hz2 rfl (by decide) _ _ _ rfl (hrow2.alloc _) ⟨W2.heap.size,0,none⟩ 1 1 [.int .u8 x0.toNat,.int .u8 x1.toNat,.int .u8 x2.toNat,.int .u8 x3.toNat,.int .u8 x4.toNat,.int .u8 x5.toNat,.int .u8 x6.toNat,.int .u8 x7.toNat,.int .i64 xn.toInt] rfl rfl hnew hone (by omega) (by omega) (by have:=hb2.size;simp;omega) ?_;intro v' w3 hown' hg3 hnil3
    have hv3:w3.heap[Bs]? = some (.cells #[v] 75 (0,0)):=(hg3.block Bs (by simp;omega) (ne_of hv2 (fun cur e=>by first |cases e |exact QH (Obj.cells.inj e).2.1))).trans ((Below.heap_alloc _ _ Bs hBlt).trans hv2)
    obtain ⟨hc3,hf3⟩:=cell_of_box_a hv3
    obtain ⟨g',cap',cur',rfl,hbase',hgb',hr1,hr2,hr3,hr4⟩:∃ g' cap' cur',v' = .slice (some ⟨g',0,none⟩) (ss.length + 1) cap'∧w0.heap.size≤g'∧w3.heap[g']? = some (.cells cur' 65 (0,0))∧ss.length + 1≤cap'∧cap'≤maxLen∧cur'.size=cap' * 9∧cur'.toList.take ((ss.length + 1) * 9)=fC ss++[.int .u8 x0.toNat,.int .u8 x1.toNat,.int .u8 x2.toNat,.int .u8 x3.toNat,.int .u8 x4.toNat,.int .u8 x5.toNat,.int .u8 x6.toNat,.int .u8 x7.toNat,.int .i64 xn.toInt]:=by
     rcases hown'.2 with ⟨_,h0⟩ |h'
     ·exact absurd h0 (by omega)
     ·exact h'
    go_frame)
  | gi_round_op_a)
 have hg3':W2.grownBy w3 v.ownBlock:=(World.grownBy_alloc W2 _ _).trans hg3
 have hL3:w3.heap[l]? = some oB:=(hg3'.block l hl2 (ne_of hL2 (fun cur=>hoB cur _))).trans hL2
 have hK3:w3.heap[D]? = some (.deferred (some [])):=(hg3'.block D hDlt (ne_of hK2 (fun cur e=>by cases e))).trans hK2
 have hk3:KeepsWalks W2 w3:=KeepsWalks.of_grownBy hg3' (ownsRow_not_walk_a hrow2)
 have hb3:Below w0.heap.size w0 w3:=hb2.grown hg3' hb2.size (fun k e=>(hrow2.lt k e).1)
 obtain ⟨w4,hw4⟩:∃ w4,w3.setCell ⟨Bs,0,none⟩ (.slice (some ⟨g',0,none⟩) (ss.length + 1) cap')=w4:=⟨_,rfl⟩
 rw [hw4]
 have hg4:w3.grownBy w4 (some Bs):=by rw [← hw4];exact grownBy_setCell0_a _ _ _
 have hv4:w4.heap[Bs]? = some (.cells #[.slice (some ⟨g',0,none⟩) (ss.length + 1) cap'] 75 (0,0)):=by rw [← hw4];exact heap_setCell_box_a _ hv3
 have hL4:w4.heap[l]? = some oB:=(hg4.block l (Array.getElem?_eq_some_iff.1 hL3).1 (fun e=>hBl (by cases e;rfl))).trans hL3
 have hK4:w4.heap[D]? = some (.deferred (some [])):=(hg4.block D (Array.getElem?_eq_some_iff.1 hK3).1 (fun e=>hDB (by cases e;rfl))).trans hK3
 have hrow4:=hown'.kept hg4 (ownsRow_ne_a hown' hv3 (fun cur e=>by first |cases e |exact QH (Obj.cells.inj e).2.1))
 have hl4:l<w4.heap.size:=(Array.getElem?_eq_some_iff.1 hL4).1
 have hb4:Below w0.heap.size w0 w4:=hb3.grown hg4 hb3.size (fun k e=>by cases e;exact h0B)
 have hk4:KeepsWalks W w4:=(hk2.trans hk3).trans (by rw [← hw4];exact KeepsWalks.setCell _ _ _)
 clear hw4
 refine ⟨_,_,hendR _ hL4,rfl,hmk _ _ ((World.putObj_heap_other hBl).trans hv4) ?_ (by simp) (World.putObj_heap_same hl4) ((World.putObj_heap_other hDl).trans hK4) (hb4.grown (grownBy_putObj_a _ _ _) hb4.size (fun k e=>by cases e;exact h0l)),hk4.trans (KeepsWalks.putObj _ hL4 hwB)⟩
 exact hrow4.kept (grownBy_putObj_a w4 l oR) (ownsRow_ne_a hrow4 hL4 (fun cur=>hoB cur _))
set_option maxRecDepth 100000 in
set_option maxHeartbeats 4000000 in
theorem appendSeq_in (F:Fence) (n:Nat) (h44:F.fn 203) (hro:F.round=none) (hn:2≤n) (g:Nat) (lb:Array Value) (hFg:F.fn g) (eg:∀ args w,(callFunc g args).run Tryz.prog w = .ok (.enter g args) w)
  (S:List Pt→Prop) (N:Nat) (hN:N≤maxLen) (hNb:N * 16≤140737488355328) (w:World) (hseq:SeqGives F (n - 1) Tryz.prog g lb Pt.v S N w) :
  CallsIn F n Tryz.prog 203 #[.slice none 0 0,.func (.func g) #[] lb] w fun e w'=>∃ (v:Value) (ss:List Pt),e = .returned v∧S ss∧w'.ownsRow w.heap.size 65 9 v ss.length (fC ss)∧(v = .slice none 0 0↔ss=[])∧Below w.heap.size w w':=by
 have h1:1≤n:=by omega
 obtain ⟨A,B,hAB⟩:∃ A B,Tryz.f203.body.bind wm=some (A,B):=⟨_,_,rfl⟩
 have hAB':=hAB
 simp only [Tryz.f203,Option.bind_some,wm,Option.some.injEq,Prod.mk.injEq] at hAB'
 obtain ⟨hA,hB⟩:=hAB'
 refine callsIn_of_wp_marks Tryz.func203 rfl h44 ?_ hro
 simp only [Tryz.ntmps203,List.size_toArray,List.length_cons,List.length_nil,Nat.reduceAdd,Nat.reduceSub,Array.replicate_succ,Array.replicate_zero,List.push_toArray,List.append_toArray,List.nil_append,List.cons_append]
 gi_wp2
 refine wpIn_rangeFunc ?_
 intro fn hfn
 rw [hro,hA,hB]
 clear hA hB
 obtain ⟨W0,hW0⟩:∃ W0,w.alloc (.cells #[.slice none 0 0] 75)=W0:=⟨_,rfl⟩
 have hs0:W0.heap.size=w.heap.size + 1:=by rw [← hW0];simp
 have hv0:W0.heap[w.heap.size]? = some (.cells #[.slice none 0 0] 75 (0,0)):=by rw [← hW0];exact gQ w _
 have hb0:Below w.heap.size w W0:=by rw [← hW0];exact (Below.refl _ w).alloc (Nat.le_refl _) _
 rw [hW0]
 obtain ⟨W1,hW1⟩:∃ W1,(W0.alloc (.deferred (some []))).alloc (.loop (apRec A B fn (.func (.func g) #[] lb) w.heap.size W0.heap.size .ready none))=W1:=⟨_,rfl⟩
 have hold:∀ k,k<W0.heap.size→W1.heap[k]? = W0.heap[k]?:=fun k hk=>by
  rw [← hW1];exact (Below.heap_alloc _ _ k (by simp;omega)).trans (Below.heap_alloc _ _ k hk)
 have hb1:Below w.heap.size w W1:=by rw [← hW1];exact (hb0.alloc hb0.size _).alloc (by have:=hb0.size;simp;omega) _
 have hs1:W1.heap.size=W0.heap.size + 2:=by rw [← hW1];simp
 have hM:ApAt A B w fn (.func (.func g) #[] lb) w.heap.size (W0.heap.size + 1) W0.heap.size [] W1 :=
  ⟨⟨_,(hold w.heap.size (by omega)).trans hv0,⟨rfl,.inl ⟨rfl,rfl⟩⟩,by simp⟩,
   by rw [← hW1];have:=gQ (W0.alloc (.deferred (some []))) (.loop (apRec A B fn (.func (.func g) #[] lb) w.heap.size W0.heap.size .ready none));rwa [World.size_alloc] at this,
   by rw [← hW1];exact (Below.heap_alloc _ _ _ (by simp)).trans (gQ W0 _),hb1⟩
 refine ⟨W0.heap.size + 1,[{ target := .collected W0.heap.size,args := #[] }],W1,{ target := .fn (.func g) lb,args := #[.func (.yield (W0.heap.size + 1)) #[] #[]] },W1,g,
  #[.func (.yield (W0.heap.size + 1)) #[] #[]]++lb,W1,?_,?_,?_,?_,fun _=>h1,?_⟩
 ·rw [← hW1];exact run_enterLoop_outer _ _ _ _ _
 ·simp [resolve,go_sem]
 ·intro f' hf';simp [Target.leads] at hf';subst hf';exact hFg
 ·simp [invoke,go_sem,eg]
 ·refine (hseq (W0.heap.size + 1) (ApAt A B w fn (.func (.func g) #[] lb) w.heap.size (W0.heap.size + 1) W0.heap.size) W1 hb1 (ap_abides A B _ _ _ _ _ _ _ hb1.size)
   (fun pre x W hJ hl=>apYield hAB F (n - 1 - 1) w fn hfn _ w.heap.size (W0.heap.size + 1) W0.heap.size (by omega) (by omega) (by omega) (Nat.le_refl _) (by omega) N hN hNb pre x W hJ hl) hM).mono ?_
  rintro e W2 ⟨⟨v0,rfl⟩,ss,hS,h2⟩
  obtain ⟨v,hv,hrow,hnil⟩:=h2.box
  have hend:=run_endLoop (P:=Tryz.prog) h2.L (by simp [apRec])
  obtain ⟨W3,hW3⟩:∃ W3,W2.putObj (W0.heap.size + 1) (.loop { apRec A B fn (.func (.func g) #[] lb) w.heap.size W0.heap.size .ready none with state := .exhausted })=W3:=⟨_,rfl⟩
  rw [hW3] at hend
  have hg3:W2.grownBy W3 (some (W0.heap.size + 1)):=by rw [← hW3];exact grownBy_putObj_a _ _ _
  have hv3:W3.heap[w.heap.size]? = some (.cells #[v] 75 (0,0)):=by rw [← hW3];exact (World.putObj_heap_other (by omega)).trans hv
  have hK3:W3.heap[W0.heap.size]? = some (.deferred (some [])):=by rw [← hW3];exact (World.putObj_heap_other (by omega)).trans h2.K
  have hrow3:=hrow.kept hg3 (ownsRow_ne_a hrow h2.L (fun cur e=>by cases e))
  have hb3:Below w.heap.size w W3:=h2.below.grown hg3 h2.below.size (fun k e=>by cases e;omega)
  obtain ⟨hc3,hf3⟩:=cell_of_box_a hv3
  clear hW3
  refine ⟨none,W3,hend,?_⟩
  gi_wp2
  rw [← hs0]
  refine ⟨by simp,.inl ⟨_,_,rfl,run_takeDeferred hK3,?_⟩⟩
  exact ⟨_,results_tmp rfl _ _ _,v,ss,rfl,hS,hrow3.kept (grownBy_putObj_a _ _ _) (ownsRow_ne_a hrow3 hK3 (fun cur e=>by cases e)),hnil,hb3.grown (grownBy_putObj_a _ _ _) hb3.size (fun k e=>by cases e;omega)⟩
set_option maxHeartbeats 1000000 in
theorem collect_in (F:Fence) (n:Nat) (h37:F.fn 171) (h44:F.fn 203) (hro:F.round=none) (hn:3≤n) (g:Nat) (lb:Array Value) (hFg:F.fn g) (eg:∀ args w,(callFunc g args).run Tryz.prog w = .ok (.enter g args) w)
  (S:List Pt→Prop) (N:Nat) (hN:N≤maxLen) (hNb:N * 16≤140737488355328) (w:World) (hseq:SeqGives F (n - 1 - 1) Tryz.prog g lb Pt.v S N w) :
  CallsIn F n Tryz.prog 171 #[.func (.func g) #[] lb] w fun e w'=>∃ (v:Value) (ss:List Pt),e = .returned v∧S ss∧w'.ownsRow w.heap.size 65 9 v ss.length (fC ss)∧(v = .slice none 0 0↔ss=[])∧Below w.heap.size w w':=by
 have h1:1≤n:=by omega
 refine callsIn_of_wp Tryz.func171 rfl h37 ?_ hro
 simp only [Tryz.ntmps171,List.size_toArray,List.length_cons,List.length_nil,Nat.reduceAdd,Nat.reduceSub,Array.replicate_succ,Array.replicate_zero,List.push_toArray,List.append_toArray,List.nil_append,List.cons_append]
 gi_wp2_with (gi_at_call 203;refine (appendSeq_in F (n - 1) h44 hro (by omega) g lb hFg eg S N hN hNb _ hseq).mono ?_;rintro e w' ⟨v,ss,rfl,hS,hrow,hnil,hb⟩)
 go_ret
 exact ⟨v,ss,rfl,hS,hrow,hnil,hb⟩
set_option maxRecDepth 100000
open Go.Lib Go.Sort
theorem BM:∀ {a b:List UInt8},a.length=b.length→(compareBytes a b<0↔uR a<uR b)
 | [],[],_=>by simp [compareBytes,uR]
 | x::a,y::b,hl=>by
  have hl':a.length=b.length:=by simpa using hl
  have h:=(CO x y _ _ _ (hl'▸qo a) (qo b)).1
  simp only [compareBytes,uR,hl',h,UInt8.lt_iff_toNat_lt]
  by_cases e:x=y
  ·subst e;simp [BM hl']
  ·have hne:x.toNat≠y.toNat:=fun h=>e (UInt8.toNat_inj.1 h)
   rcases Nat.lt_or_gt_of_ne hne with h1 |h1
   ·simp [h1]
   ·have h2:¬ x.toNat<y.toNat:=by omega
    simp [h1,h2,e]
theorem BO (x y:Int):compareInt x y<0↔x<y:=by
 unfold compareInt
 by_cases h1:x<y
 ·simp [h1]
 ·by_cases h2:y<x<;>simp [h1,h2]
theorem JA (p q:Pt):Pb p q<0↔ig p q=true:=by
 rw [Cq]
 unfold Pb
 simp only [BM (a:=p.tx.l) (b:=q.tx.l) rfl,BM (a:=q.tx.l) (b:=p.tx.l) rfl]
 show (if p.num<q.num then (-1:Int) else if q.num<p.num then 1 else compareInt p.no.toInt q.no.toInt)<0↔_
 by_cases h1:p.num<q.num
 ·simp [h1]
 ·by_cases h2:q.num<p.num
  ·simp [h1,h2];omega
  ·have h3:p.num=q.num:=by omega
   simp [h3,BO]
theorem Co:ltOf Pb=ig:=by
 funext p q
 unfold ltOf
 cases h:ig p q
 ·simp only [decide_eq_false_iff_not,JA,h];simp
 ·simp only [decide_eq_true_eq,JA,h]
end Go.Proofs.YtnpkdoggfnlapaaGreatDoor
namespace Go.Proofs
open Go.Shelf
def Tryz.Dz:Go.Shelf.Ren:=⟨fun |6=>172 |15=>205 |14=>204 |28=>228 |29=>229 |20=>220 |21=>221 |22=>222 |23=>223 |24=>224 |25=>225 |26=>226 |27=>227 |46=>240 |47=>241 |48=>242 |49=>243 |50=>244 |57=>247 |n=>n,fun |22=>75 |24=>65 |25=>214 |3=>3 |39=>84 |0=>0 |53=>225 |55=>229 |4=>4 |46=>294 |45=>293 |50=>87 |5=>5 |9=>9 |66=>310 |70=>314 |76=>316 |77=>147 |n=>n,fun |n=>n⟩
theorem Tryz.TF:Go.Proofs.SlLaysF0.n6 Tryz.prog Tryz.Dz:={
 mixed:=by kernel_rfl
 f6:=⟨Tryz.f172.name,by decide,Tryz.func172.trans (congrArg some (by kernel_rfl))⟩
 f14:=⟨Tryz.f204.name,by decide,Tryz.func204.trans (congrArg some (by kernel_rfl))⟩
 f15:=Tryz.func205.trans (congrArg some (by kernel_rfl))
 f20:=⟨Tryz.f220.name,by decide,Tryz.func220.trans (congrArg some (by kernel_rfl))⟩
 f21:=⟨Tryz.f221.name,by decide,Tryz.func221.trans (congrArg some (by kernel_rfl))⟩
 f22:=⟨Tryz.f222.name,by decide,Tryz.func222.trans (congrArg some (by kernel_rfl))⟩
 f23:=⟨Tryz.f223.name,by decide,Tryz.func223.trans (congrArg some (by kernel_rfl))⟩
 f24:=⟨Tryz.f224.name,by decide,Tryz.func224.trans (congrArg some (by kernel_rfl))⟩
 f25:=⟨Tryz.f225.name,by decide,Tryz.func225.trans (congrArg some (by kernel_rfl))⟩
 f26:=⟨Tryz.f226.name,by decide,Tryz.func226.trans (congrArg some (by kernel_rfl))⟩
 f27:=⟨Tryz.f227.name,by decide,Tryz.func227.trans (congrArg some (by kernel_rfl))⟩
 f28:=Tryz.func228.trans (congrArg some (by kernel_rfl))
 f29:=Tryz.func229.trans (congrArg some (by kernel_rfl))
 f46:=⟨Tryz.f240.name,by decide,Tryz.func240.trans (congrArg some (by kernel_rfl))⟩
 f47:=Tryz.func241.trans (congrArg some (by kernel_rfl))
 f48:=Tryz.func242.trans (congrArg some (by kernel_rfl))
 f49:=⟨Tryz.f243.name,by decide,Tryz.func243.trans (congrArg some (by kernel_rfl))⟩
 f50:=⟨Tryz.f244.name,by decide,Tryz.func244.trans (congrArg some (by kernel_rfl))⟩
 f57:=⟨Tryz.f247.name,by decide,Tryz.func247.trans (congrArg some (by kernel_rfl))⟩
 t0:=Tryz.underlying0
 a0:=Tryz.isAgg0
 z0:=Tryz.sizeOf0
 v0:=Tryz.zeroValue0
 t3:=Tryz.underlying3
 a3:=Tryz.isAgg3
 z3:=Tryz.sizeOf3
 v3:=Tryz.zeroValue3
 t4:=Tryz.underlying4
 a4:=Tryz.isAgg4
 z4:=Tryz.sizeOf4
 v4:=Tryz.zeroValue4
 t5:=Tryz.underlying5
 a5:=Tryz.isAgg5
 z5:=Tryz.sizeOf5
 v5:=Tryz.zeroValue5
 t9:=Tryz.underlying9
 a9:=Tryz.isAgg9
 z9:=Tryz.sizeOf9
 v9:=Tryz.zeroValue9
 t22:=Tryz.underlying75
 a22:=Tryz.isAgg75
 z22:=Tryz.sizeOf75
 v22:=Tryz.zeroValue75
 t25:=Tryz.underlying214
 a25:=Tryz.isAgg214
 z25:=Tryz.sizeOf214
 v25:=Tryz.zeroValue214
 t39:=Tryz.underlying84
 a39:=Tryz.isAgg84
 z39:=Tryz.sizeOf84
 v39:=Tryz.zeroValue84
 t45:=Tryz.underlying293
 a45:=Tryz.isAgg293
 z45:=Tryz.sizeOf293
 v45:=Tryz.zeroValue293
 t46:=Tryz.underlying294
 a46:=Tryz.isAgg294
 z46:=Tryz.sizeOf294
 v46:=Tryz.zeroValue294
 t50:=Tryz.underlying87
 a50:=Tryz.isAgg87
 z50:=Tryz.sizeOf87
 v50:=Tryz.zeroValue87
 t53:=Tryz.underlying225
 a53:=Tryz.isAgg225
 z53:=Tryz.sizeOf225
 v53:=Tryz.zeroValue225
 t55:=Tryz.underlying229
 a55:=Tryz.isAgg229
 z55:=Tryz.sizeOf229
 v55:=Tryz.zeroValue229
 t66:=Tryz.underlying310
 a66:=Tryz.isAgg310
 z66:=Tryz.sizeOf310
 v66:=Tryz.zeroValue310
 t70:=Tryz.underlying314
 a70:=Tryz.isAgg314
 z70:=Tryz.sizeOf314
 v70:=Tryz.zeroValue314
 t76:=Tryz.underlying316
 a76:=Tryz.isAgg316
 z76:=Tryz.sizeOf316
 v76:=Tryz.zeroValue316
 t77:=Tryz.underlying147
 a77:=Tryz.isAgg147
 z77:=Tryz.sizeOf147
 v77:=Tryz.zeroValue147 }
def Tryz.KX:Go.Shelf.Ren:=⟨fun |5=>175 |7=>156 |n=>n,fun |22=>3 |3=>3 |4=>4 |n=>n,fun |n=>n⟩
theorem Tryz.Wm:Go.Proofs.SlLaysC2.n5 Tryz.prog Tryz.KX:={
 mixed:=by kernel_rfl
 f5:=⟨Tryz.f175.name,by decide,Tryz.func175.trans (congrArg some (by kernel_rfl))⟩
 f7:=⟨Tryz.f156.name,by decide,Tryz.func156.trans (congrArg some (by kernel_rfl))⟩
 t3:=Tryz.underlying3
 a3:=Tryz.isAgg3
 z3:=Tryz.sizeOf3
 v3:=Tryz.zeroValue3
 t4:=Tryz.underlying4
 a4:=Tryz.isAgg4
 z4:=Tryz.sizeOf4
 v4:=Tryz.zeroValue4
 t22:=Tryz.underlying3
 a22:=Tryz.isAgg3
 z22:=Tryz.sizeOf3
 v22:=Tryz.zeroValue3 }
end Go.Proofs
