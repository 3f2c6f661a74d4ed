/- DERIVED. Parts. -/
import Derived.Test.YtknpgjeclmadkaaProg
import Derived.Test.YtknpgjeclmadkaaZ14
set_option maxRecDepth 1000000
set_option maxHeartbeats 32000000
namespace Go.Proofs.Ytknpgjeclmadkaa
open Go Go.RowKit
theorem mixed : Try.prog.follows .mixedOrders = true:=by kernel_rfl
def Ct.int1 (f : FuncId) (out : Int -> Int) (ok : ∀ x,∃ H m wr,FnS Try.prog 0 f [.int .i64 x] .e 0 (.ret (.int .i64 (out x)) H m wr)) : Ct Try.prog 0 where
 f:=f
 res l H n := match l with | [.int .i64 x] => .ret (.int .i64 (out x)) H n [] | _ => .bad "arguments" []
 ok l H n:=by
  split
  ·rename_i x
   obtain ⟨_,_,_,h⟩:=ok x
   exact zBl h rfl rfl H n
  trivial
 ck l H n K:=match l with | [.int .i64 x]=>K (.ret (.int .i64 (out x)) H n []) | _=>False
 imp l H n K h:=by
  split at h
  ·exact h
  exact h.elim
def Ct.yes (f : FuncId) (ok : ∀ w : World,0 < w.heap.size -> Calls Try.prog f #[] w fun e w'=>e = .returned (.bool true) /\ Below w.heap.size w w') : Ct Try.prog 0 where
 f:=f
 res l H n := match l with | [] => .ret (.bool true) H n [] | _ => .bad "arguments" []
 ok l H n:=by
  split
  ·exact zHp ok rfl rfl H n
  trivial
 ck l H n K:=match l with | []=>K (.ret (.bool true) H n []) | _=>False
 imp l H n K h:=by
  split at h
  ·exact h
  exact h.elim
noncomputable def tbO1 : Tb Try.prog 0:=tbOf mixed []
noncomputable def sAt (C : List Value) (r e : Value) (f : Nat -> Option Value) : Fs:=⟨slots 7 [(4,r),(5,.pointer (some ⟨1,0,none⟩))] f,heap 2 [(0,.win C 1),(1,.cells [e] 33)],2,[],[.call 94 [.pointer (some ⟨1,0,none⟩)] []]⟩
noncomputable def rAt (tb : Tb Try.prog 0) (x : Ex) (C : List Value) (r : Int) (f : Nat -> Option Value) : Res:=endR tb Try.f85 x (sAt C (.int .u8 r) (.int .i64 0) f)
def panB : Ex:=.pan [(.chan (some 8),false)]
theorem at_ret (tb : Tb Try.prog 0) (R : Res -> Prop) (C : List Value) (b : Int) (f : Nat -> Option Value) : fnK tb Try.f85 R .ret (sAt C (.int .u8 b) (.int .i64 0) f) = R (.ret (.tuple #[.int .u8 b,.int .i64 0]) (resH (rAt tb .ret C b f)) (resN (rAt tb .ret C b f)) []):=by kernel_rfl
theorem at_pan (tb : Tb Try.prog 0) (R : Res -> Prop) (C : List Value) (f : Nat -> Option Value) : fnK tb Try.f85 R panB (sAt C (.int .u8 0) (.int .i64 0) f) = R (.ret (.tuple #[.int .u8 0,.int .i64 4]) (resH (rAt tb panB C 0 f)) (resN (rAt tb panB C 0 f)) [1]):=by kernel_rfl
abbrev Bl:=List UInt8
def byV (b : UInt8) : Value:=.int .u8 (b.toNat : Int)
theorem zAc (l : Bl) : plainL (l.map byV) = true:=by simp [plainL,plainV,byV]
def atOut (l : Bl) (o n : Nat) (i : Int) : Value:=bif inI i n then .tuple #[byV (l.getD (o + i.toNat) 0),.int .i64 0] else .tuple #[.int .u8 0,.int .i64 4]
theorem zSq (l : Bl) (o n : Nat) (i : Int) : plainV 8 (atOut l o n i) = true:=by unfold atOut;cases inI i n <;> rfl
theorem at_fn (l : Bl) (o n c : Nat) (i : Int) (h : o + n<=l.length) : ∃ r,FnS Try.prog 0 85 [.slice (some ⟨0,o,none⟩) n c,.int .i64 i] (heap 1 [(0,.win (l.map byV) 1)]) 1 r /\ ∃ H m wr,r = .ret (atOut l o n i) H m wr /\ ∀ k ∈ wr,1<=k:=by
 refine zVs mixed tbO1 [0] Try.func85 (c:=bodyOf Try.f85) (by kernel_rfl) ?_
 unfold atOut
 refine ifK (fun h1=>?_) (fun h1=>?_)
 ·rw [h1]
  have hi : 0<=i /\ i < n:=by simpa [inI] using h1
  have hlt : o + i.toNat < l.length:=by omega
  refine eI ((l.getD (o + i.toNat) 0).toNat : Int) (aI ?_ ?_)
  ·show (l.map byV)[o + i.toNat * 1]? = _
   rw [aR]
   simp [gG hlt,byV]
  refine aI rfl (zAh (rcq [1] (d:=7) (d2:=2) (lv:=[(4,byV (l.getD (o + i.toNat) 0)),(5,.pointer (some ⟨1,0,none⟩))]) (bs:=[(0,.win (l.map byV) 1),(1,.cells [.int .i64 0] 33)]) (W:=[]) (m:=2) (df:=[.call 94 [.pointer (some ⟨1,0,none⟩)] []]) ⟨(sI rfl),(sP rfl rfl),tv⟩ ⟨bpo (zAc l),bpo rfl,tv⟩ (.fn _ _ _ _ _ _ _ (.cons _ _ _ _ (.ptr _ _ _ rfl) .nil) .nil .nil)) (fun f=>?_))
  refine Eq.mpr (at_ret _ _ _ _ f) ?_
  exact ⟨_,_,_,rfl,fun k hk=>by cases hk⟩
 rw [h1]
 refine aI rfl (zAh (rcq [1] (d:=7) (d2:=2) (lv:=[(4,.int .u8 0),(5,.pointer (some ⟨1,0,none⟩))]) (bs:=[(0,.win (l.map byV) 1),(1,.cells [.int .i64 0] 33)]) (W:=[]) (m:=2) (df:=[.call 94 [.pointer (some ⟨1,0,none⟩)] []]) ⟨(sI rfl),(sP rfl rfl),tv⟩ ⟨bpo (zAc l),bpo rfl,tv⟩ (.fn _ _ _ _ _ _ _ (.cons _ _ _ _ (.ptr _ _ _ rfl) .nil) .nil .nil)) (fun f=>?_))
 refine Eq.mpr (at_pan _ _ _ f) ?_
 exact ⟨_,_,_,rfl,fun k hk=>by simp at hk;omega⟩
theorem zCt {H : Tr AObj} {b : Nat} {t : TypeId} {z : Nat} {C : List Value} (h : H.get b = some (.cells C t)) : seesB H b t z C:=by
 unfold seesB;rw [h];simp [AObj.as]
structure RdB where
 b : Nat
 o : Nat
 n : Nat
 c : Nat
 l : Bl
def RdB.sl (x : RdB) : Value:=.slice (some ⟨x.b,x.o,none⟩) x.n x.c
def RdB.at (x : RdB) (H : Tr AObj) : Prop:=seesB H x.b 5 1 (x.l.map byV) /\ x.o + x.n<=x.l.length
theorem map_byV {a b : Bl} (h : a.map byV = b.map byV) : a = b:=by
 refine List.map_inj_right (fun x y e=>?_) |>.1 h
 simp only [byV,Value.int.injEq,true_and] at e
 exact UInt8.toNat_inj.1 (by omega)
theorem RdB.uniq {x y : RdB} {H : Tr AObj} (h : x.sl = y.sl) (hx : x.at H) (hy : y.at H) : x = y:=by
 obtain ⟨b,o,n,c,l⟩:=x
 obtain ⟨b',o',n',c',l'⟩:=y
 simp only [RdB.sl,Value.slice.injEq,aP,Addr.mk.injEq,and_true] at h
 obtain ⟨⟨rfl,rfl⟩,rfl,rfl⟩:=h
 rw [show l = l' from map_byV (seesB.uniq hx.1 hy.1)]
theorem byte_size : (Try.prog.info? 5).map (·.size) = some 1:=by kernel_rfl
theorem zFs {b : Nat} {H : Tr AObj} {C : List Value} (h : seesB H b 5 1 C) (hp : plainL C = true) : CallB Try.prog [b] H (heap 1 [(0,.win C 1)]):=callB_one h hp byte_size
noncomputable def CtR.rdB (f : FuncId) (Y : Type) (args : Y -> List Value) (out : RdB -> Y -> Value) (pre : RdB -> Y -> Prop) (hp : ∀ y,plainL (args y) = true) (hv : ∀ x y,plainV 8 (out x y) = true) (inj : ∀ y z,args y = args z -> y = z)
  (ok : ∀ (l : Bl) (o n c : Nat) (y : Y),o + n<=l.length -> pre ⟨0,o,n,c,l⟩ y -> ∃ H m wr,FnS Try.prog 0 f (.slice (some ⟨0,o,none⟩) n c :: args y) (heap 1 [(0,.win (l.map byV) 1)]) 1 (.ret (out ⟨0,o,n,c,l⟩ y) H m wr) /\ ∀ k ∈ wr,1<=k)
  (hb : ∀ b o n c l y,out ⟨b,o,n,c,l⟩ y = out ⟨0,o,n,c,l⟩ y) (hpb : ∀ b o n c l y,pre ⟨b,o,n,c,l⟩ y -> pre ⟨0,o,n,c,l⟩ y)
  (tr : RdB -> Y -> (Value -> Prop) -> Prop:=fun x y F=>F (out x y)) (trOk : ∀ x y F,tr x y F -> F (out x y):=by exact fun _ _ _ h=>h) : Ct Try.prog 0 :=
 CtR.ct { f,tr:=fun x H n K=>tr x.1 x.2 fun v=>K (.ret v H n []),trOk:=fun x H n K h=>trOk _ _ _ h,X:=RdB × Y,pre:=fun x a H _=>a = x.1.sl :: args x.2 /\ x.1.at H /\ pre x.1 x.2,out:=fun x H n=>.ret (out x.1 x.2) H n [],
          ok:=fun ⟨⟨b,o,n,c,l⟩,y⟩ a H m ⟨h1,h2,h3⟩=>by
           subst h1
           obtain ⟨H',m',wr,hF,hw⟩:=ok l o n c y h2.2 (hpb _ _ _ _ _ _ h3)
           show CallOK Try.prog 0 f _ H m (.ret (out ⟨b,o,n,c,l⟩ y) H m [])
           rw [hb]
           exact zDb [b] hF hw zKz (.cons _ _ _ _ (.sl _ _ _ _ _ rfl) (zCi (hp y))) (zFs h2.1 (zAc l)) (hv _ _),
          uniq:=fun ⟨x,y⟩ ⟨x',y'⟩ a H m ⟨h1,h2,_⟩ ⟨k1,k2,_⟩=>by
           rw [h1] at k1
           simp only [aQ] at k1
           rw [RdB.uniq k1.1 h2 k2,inj _ _ k1.2] }
noncomputable def CtR.rdN (f : FuncId) (Y : Type) (args : Y -> List Value) (out : RdB -> Y -> Nat -> Value × Option (List Value × TypeId)) (pre : RdB -> Y -> Prop) (hp : ∀ y,plainL (args y) = true) (inj : ∀ y z,args y = args z -> y = z)
  (ok : ∀ (l : Bl) (o n c : Nat) (y : Y),o + n<=l.length -> pre ⟨0,o,n,c,l⟩ y -> ∃ v H m wr,FnS Try.prog 0 f (.slice (some ⟨0,o,none⟩) n c :: args y) (heap 1 [(0,.win (l.map byV) 1)]) 1 (.ret v H m wr) /\ (∀ k ∈ wr,1<=k) /\
   ((∀ n',out ⟨0,o,n,c,l⟩ y n' = (v,none) /\ plainV 8 v = true) \/ ∃ b xs e,H.get b = some (.cells xs e) /\ 1<=b /\ b < JJ /\ plainL xs = true /\ ∀ b0 n',(out ⟨0,o,n,c,l⟩ y n').2 = some (xs,e) /\ RV (tau [b0] [b] n') v (out ⟨0,o,n,c,l⟩ y n').1))
  (hb : ∀ b o n c l y,out ⟨b,o,n,c,l⟩ y = out ⟨0,o,n,c,l⟩ y) (hpb : ∀ b o n c l y,pre ⟨b,o,n,c,l⟩ y -> pre ⟨0,o,n,c,l⟩ y)
  (tr : RdB -> Y -> Tr AObj -> Nat -> (Res -> Prop) -> Prop:=fun x y H n K=>K (resNew (out x y n) H n)) (trOk : ∀ x y H n K,tr x y H n K -> K (resNew (out x y n) H n):=by exact fun _ _ _ _ _ h=>h) : Ct Try.prog 0 :=
 CtR.ct { f,tr:=fun x H n K=>tr x.1 x.2 H n K,trOk:=fun x H n K h=>trOk _ _ _ _ _ h,X:=RdB × Y,pre:=fun x a H _=>a = x.1.sl :: args x.2 /\ x.1.at H /\ pre x.1 x.2,out:=fun x H n=>resNew (out x.1 x.2 n) H n,
          ok:=fun ⟨⟨b,o,n,c,l⟩,y⟩ a H m ⟨h1,h2,h3⟩=>by
           subst h1
           obtain ⟨v,H',m',wr,hF,hw,hres⟩:=ok l o n c y h2.2 (hpb _ _ _ _ _ _ h3)
           show TOK Try.prog 0 (.call f (RdB.sl _ :: args y)) _ (resNew (out ⟨b,o,n,c,l⟩ y m) H m)
           rw [hb]
           rcases hres with hr | ⟨b',xs,e,r1,r2,r3,r4,r5⟩
           ·rw [(hr m).1]
            exact zDb [b] hF hw zKz (.cons _ _ _ _ (.sl _ _ _ _ _ rfl) (zCi (hp y))) (zFs h2.1 (zAc l)) (hr m).2
           have e1 : ∀ n',out ⟨0,o,n,c,l⟩ y n' = ((out ⟨0,o,n,c,l⟩ y n').1,some (xs,e)):=fun n'=>by rw [<- (r5 0 n').1]
           rw [e1 m]
           exact zOi (fun n'=>(out ⟨0,o,n,c,l⟩ y n').1) [b] hF hw zKz (.cons _ _ _ _ (.sl _ _ _ _ _ rfl) (zCi (hp y))) (zFs h2.1 (zAc l)) r1 r2 r3 r4 (fun n'=>(r5 b n').2),
          uniq:=fun ⟨x,y⟩ ⟨x',y'⟩ a H m ⟨h1,h2,_⟩ ⟨k1,k2,_⟩=>by
           rw [h1] at k1
           simp only [aQ] at k1
           rw [RdB.uniq k1.1 h2 k2,inj _ _ k1.2] }
noncomputable def ct_at : Ct Try.prog 0:=CtR.rdB 85 Int (fun i=>[.int .i64 i]) (fun x i=>atOut x.l x.o x.n i) (fun _ _=>True) (fun _=>rfl) (fun _ _=>zSq _ _ _ _) (fun y z h=>by simpa using h)
 (fun l o n c i h _=>by obtain ⟨r,hF,H,m,wr,rfl,hw⟩:=at_fn l o n c i h;exact ⟨H,m,wr,hF,hw⟩) (fun _ _ _ _ _ _=>rfl) (fun _ _ _ _ _ _ h=>h)
 (fun x i F=>brK (inI i x.n) (F (.tuple #[.int .u8 ((x.l.getD (x.o + i.toNat) 0).toNat : Int),.int .i64 0])) (F (.tuple #[.int .u8 0,.int .i64 4])))
 (fun x i F h=>by
  unfold atOut
  cases hb : inI i x.n with
  | true=>rw [hb] at h;exact h
  | false=>rw [hb] at h;exact h)
noncomputable def tbO2 : Tb Try.prog 0:=tbOf mixed [ct_at]
theorem wrapM {x : Int} (h1 : 0<=x) (h2 : x < 9223372036854775808) : IntKind.i64.wrap x = x:=zDv (by omega) h2
theorem shl8 (a : Nat) (ha : a < 1099511627776) : shlI .i64 (a : Int) 8 = ((a * 256 : Nat) : Int):=by
 unfold shlI
 rw [show (2 : Int) ^ (min (8 : Int).toNat IntKind.i64.bits) = 256 from rfl,wrapM (by omega) (by omega)];omega
theorem bvN (a : Nat) (h : a < 18446744073709551616) : (BitVec.ofInt IntKind.i64.bits (a : Int)).toNat = a:=by
 have e : IntKind.i64.bits = 64:=rfl
 rw [BitVec.toNat_ofInt,e];omega
theorem or_byte (a c : Nat) (ha : a < 1099511627776) (hc : c < 256) : bitsI .or .i64 (shlI .i64 (a : Int) 8) (c : Int) = ((a * 256 + c : Nat) : Int):=by
 rw [shl8 a ha]
 unfold bitsI
 simp only []
 have e : (BitVec.ofInt IntKind.i64.bits ((a * 256 : Nat) : Int) ||| BitVec.ofInt IntKind.i64.bits (c : Int)).toNat = a * 256 + c:=by
  rw [BitVec.toNat_or,bvN _ (by omega),bvN _ (by omega)]
  have := Nat.shiftLeft_add_eq_or_of_lt (a:=a) (b:=c) (i:=8) (by omega)
  rw [Nat.shiftLeft_eq] at this
  exact this.symm
 rw [e,wrapM (by omega) (by omega)]
def beN (l : Bl) : Nat:=l.foldl (fun n c=>n * 256 + c.toNat) 0
theorem zVg (l : Bl) (c : UInt8) : beN (l++[c]) = beN l * 256 + c.toNat:=by simp [beN]
theorem beN_lt (l : Bl) : beN l < 256 ^ l.length:=by
 have : ∀ (m : Nat) (l : Bl),l.length = m -> beN l < 256 ^ m:=by
  intro m
  induction m with
  | zero=>intro l h;rw [List.length_eq_zero_iff.1 h];decide
  | succ m ih =>
   intro l h
   rcases List.eq_nil_or_concat l with rfl | ⟨i,c,rfl⟩
   ·simp at h
   rw [List.concat_eq_append] at h ⊢
   have := ih i (by simp at h;exact h)
   have := UInt8.toNat_lt c
   rw [zVg,Nat.pow_succ];omega
 exact this _ l rfl
def getOut (l : Bl) (o n : Nat) (i : Int) (sz : Nat) : Value :=
 if i < 0 \/ (n : Int) < i then .tuple #[.int .i64 0,.int .i64 0,.agg #[.int .i64 5,.int .i64 0]]
 else if i.toNat + sz<=n then .tuple #[.int .i64 (beN ((l.drop (o + i.toNat)).take sz) : Int),.int .i64 ((i.toNat + sz : Nat) : Int),.agg #[.int .i64 0,.int .i64 0]]
 else .tuple #[.int .i64 0,.int .i64 0,.agg #[.int .i64 4,.int .i64 (n : Int)]]
theorem zFl (l : Bl) (o n : Nat) (i : Int) (sz : Nat) : plainV 8 (getOut l o n i sz) = true:=by
 unfold getOut
 split
 ·rfl
 split <;> rfl
theorem zMu (l : Bl) (o k : Nat) (h : o + k < l.length) : (l.drop o).take (k + 1) = (l.drop o).take k++[l.getD (o + k) 0]:=by
 rw [List.take_succ_eq_append_getElem (by simp;omega)]
 simp [List.getD_eq_getElem?_getD,gG h]
def getS (l : Bl) (o n c : Nat) (i : Int) (sz : Nat) (k : Nat) (f : Nat -> Option Value) : Fs :=
 ⟨slots 7 [(0,.slice (some ⟨0,o,none⟩) n c),(1,.int .i64 i),(2,.int .i64 sz),(8,.pointer (some ⟨1,0,none⟩)),(9,.int .i64 (beN ((l.drop (o + i.toNat)).take k) : Int)),(22,.int .i64 sz),(23,.int .i64 k)] f,
  heap 2 [(0,.win (l.map byV) 1),(1,.cells [.int .i64 0,.int .i64 0] 53)],2,[],[]⟩
theorem get_fn (l : Bl) (o n c : Nat) (i : Int) (sz : Nat) (h : o + n<=l.length) (hsz : sz<=4) (hn : n<=1000000000) : ∃ r,FnS Try.prog 0 74 [.slice (some ⟨0,o,none⟩) n c,.int .i64 i,.int .i64 sz] (heap 1 [(0,.win (l.map byV) 1)]) 1 r /\ ∃ H m wr,r = .ret (getOut l o n i sz) H m wr /\ ∀ k ∈ wr,1<=k:=by
 refine zBo mixed tbO2 [0] Try.func74 (c:=bodyOf Try.f74) (by kernel_rfl) ?_
 unfold getOut
 refine ifK (fun h1=>?_) (fun h1=>?_)
 ·rw [if_pos (.inl (oT h1))]
  exact ⟨_,_,_,rfl,zAx rfl⟩
 have h1:=oF h1
 refine ifK (fun h2=>?_) (fun h2=>?_)
 ·rw [if_pos (.inr (oT h2))]
  exact ⟨_,_,_,rfl,zAx rfl⟩
 have h2:=oF h2
 rw [if_neg (by omega)]
 refine zAp (fun k=>getS l o n c i sz k) (fun k=>sz - k) (fun k=>k<=sz /\ i.toNat + k<=n) 0 ⟨aH _,by omega⟩ (rcq [1] ⟨(sL rfl rfl),(sI rfl),(sI rfl),(sP rfl rfl),(sI rfl),(sI rfl),(sI rfl),tv⟩ ⟨bpo (zAc l),bpo rfl,tv⟩ .nil) ?_
 rintro k f ⟨hk,hin⟩
 refine zAq tbO2 [0] 1 _ none mixed _ _ _ ?_
 refine ifK (fun h3=>?_) (fun h3=>?_)
 ·have h3 : k < sz:=by have := oT h3;omega
  have e1 : IntKind.i64.wrap (i + (k : Nat)) = ((i.toNat + k : Nat) : Int):=by rw [wrapM (by omega) (by omega)];omega
  refine eI (⟨0,o,n,c,l⟩,IntKind.i64.wrap (i + (k : Nat))) (aI ⟨rfl,⟨rfl,h⟩,tv⟩ ?_)
  refine ifK (fun h4=>?_) (fun h4=>?_)
  ·have h4 : i.toNat + k < n:=by
    simp only [inI,e1,bA,dT] at h4;omega
   have hb:=beN_lt ((l.drop (o + i.toNat)).take k)
   have hlen : ((l.drop (o + i.toNat)).take k).length = k:=by simp;omega
   rw [hlen] at hb
   have hb2 : 256 ^ k<=256 ^ 4:=Nat.pow_le_pow_right (by decide) (by omega)
   have hc:=UInt8.toNat_lt (l.getD (o + (i.toNat + k)) 0)
   have e2 : bitsI .or .i64 (shlI .i64 (beN ((l.drop (o + i.toNat)).take k) : Int) 8) (IntKind.i64.wrap (((l.getD (o + (IntKind.i64.wrap (i + (k : Nat))).toNat) 0).toNat : Nat) : Int)) = (beN ((l.drop (o + i.toNat)).take (k + 1)) : Int):=by
    rw [e1,aO,wrapM (by omega) (by omega),or_byte _ _ (by omega) hc,zMu l _ k (by omega),zVg,Nat.add_assoc]
   refine ⟨k + 1,⟨h3,by omega⟩,by omega,rcq [1] ⟨(sL rfl rfl),(sI rfl),(sI rfl),(sP rfl rfl),⟨_,rfl,?_⟩,(sI rfl),zAa rfl (by rw [wrapM (by omega) (by omega)];omega),tv⟩ ⟨bpo (zAc l),bpo rfl,tv⟩ .nil⟩
   rw [<- e2];exact .int _ _
  have h4 : ¬ i.toNat + k < n:=by
   simp only [inI,e1] at h4
   simp at h4;omega
  rw [if_neg (by omega)]
  refine aI rfl (zAh (rcq [1] (d:=7) (d2:=2) (lv:=[(6,.int .i64 0),(7,.int .i64 0),(8,.pointer (some ⟨1,0,none⟩))]) (bs:=[(1,.cells [.int .i64 4,.int .i64 (n : Int)] 53)]) (W:=[]) (m:=2) (df:=[]) ⟨(sI rfl),(sI rfl),(sP rfl rfl),tv⟩ ⟨bpo rfl,tv⟩ .nil) (fun f=>?_))
  exact ⟨_,_,_,rfl,zAx rfl⟩
 have h3 : ¬ k < sz:=by have := oF h3;omega
 have hkz : k = sz:=by omega
 subst hkz
 rw [if_pos (by omega),show ((i.toNat + k : Nat) : Int) = IntKind.i64.wrap (i + (k : Nat)) by rw [wrapM (by omega) (by omega)];omega]
 refine aI rfl (zAh (rcq [1] (d:=7) (d2:=2) (lv:=[(1,.int .i64 i),(2,.int .i64 k),(8,.pointer (some ⟨1,0,none⟩)),(9,.int .i64 (beN ((l.drop (o + i.toNat)).take k) : Int))]) (bs:=[(1,.cells [.int .i64 0,.int .i64 0] 53)]) (W:=[]) (m:=2) (df:=[]) ⟨(sI rfl),(sI rfl),(sP rfl rfl),(sI rfl),tv⟩ ⟨bpo rfl,tv⟩ .nil) (fun f=>?_))
 exact ⟨_,_,_,rfl,zAx rfl⟩
def getTr (x : RdB) (i : Int) (sz : Nat) (F : Value -> Prop) : Prop :=
 brK (decide (i < 0) || decide ((x.n : Int) < i)) (F (.tuple #[.int .i64 0,.int .i64 0,.agg #[.int .i64 5,.int .i64 0]]))
  (brK (Nat.ble (i.toNat + sz) x.n) (F (.tuple #[.int .i64 (beN ((x.l.drop (x.o + i.toNat)).take sz) : Int),.int .i64 ((i.toNat + sz : Nat) : Int),.agg #[.int .i64 0,.int .i64 0]]))
   (F (.tuple #[.int .i64 0,.int .i64 0,.agg #[.int .i64 4,.int .i64 (x.n : Int)]])))
theorem zPc {x : RdB} {i : Int} {sz : Nat} {F : Value -> Prop} (h : getTr x i sz F) : F (getOut x.l x.o x.n i sz):=by
 unfold getTr at h
 unfold getOut
 cases h1 : (decide (i < 0) || decide ((x.n : Int) < i)) with
 | true =>
  rw [h1] at h
  simp only [Bool.or_eq_true,dT] at h1
  rw [if_pos h1];exact h
 | false =>
  rw [h1] at h
  simp only [Bool.or_eq_false_iff,decide_eq_false_iff_not] at h1
  rw [if_neg (by omega)]
  cases h2 : Nat.ble (i.toNat + sz) x.n with
  | true=>rw [h2] at h;rw [if_pos (aE h2)];exact h
  | false =>
   rw [h2] at h
   rw [if_neg (fun e=>by rw [bL e] at h2;cases h2)];exact h
noncomputable def ct_get : Ct Try.prog 0:=CtR.rdB 74 (Int × Nat) (fun y=>[.int .i64 y.1,.int .i64 (y.2 : Int)]) (fun x y=>getOut x.l x.o x.n y.1 y.2) (fun x y=>y.2<=4 /\ x.n<=1000000000) (fun _=>rfl) (fun _ _=>zFl _ _ _ _ _)
 (fun y z h=>by simp only [aQ,Value.int.injEq,true_and,and_true] at h;exact Prod.ext h.1 (by omega))
 (fun l o n c y h hp=>by obtain ⟨r,hF,H,m,wr,rfl,hw⟩:=get_fn l o n c y.1 y.2 h hp.1 hp.2;exact ⟨H,m,wr,hF,hw⟩) (fun _ _ _ _ _ _=>rfl) (fun _ _ _ _ _ _ h=>h)
 (fun x y F=>getTr x y.1 y.2 F) (fun _ _ _ h=>zPc h)
noncomputable def tbO3 : Tb Try.prog 0:=tbOf mixed [ct_get]
theorem get32_fn (l : Bl) (o n c : Nat) (i : Int) (h : o + n<=l.length) (hn : n<=1000000000) : ∃ r,FnS Try.prog 0 88 [.slice (some ⟨0,o,none⟩) n c,.int .i64 i] (heap 1 [(0,.win (l.map byV) 1)]) 1 r /\ ∃ H m wr,r = .ret (getOut l o n i 4) H m wr /\ ∀ k ∈ wr,1<=k:=by
 refine zBo mixed tbO3 [0] Try.func88 (c:=bodyOf Try.f88) (by kernel_rfl) ?_
 refine eI (⟨0,o,n,c,l⟩,(i,4)) (aI ⟨rfl,⟨rfl,h⟩,(show 4<=4 by decide),hn⟩ ?_)
 unfold getOut
 refine ifK (fun h1=>?_) (fun h1=>?_)
 ·rw [if_pos (by simpa using h1)];exact ⟨_,_,_,rfl,zAx rfl⟩
 rw [if_neg (by simpa using h1)]
 refine ifK (fun h2=>?_) (fun h2=>?_)
 ·rw [if_pos (aE h2)];exact ⟨_,_,_,rfl,zAx rfl⟩
 rw [if_neg (fun e=>by rw [show Nat.ble (i.toNat + 4) n = true from bL e] at h2;cases h2)];exact ⟨_,_,_,rfl,zAx rfl⟩
noncomputable def ct_get32 : Ct Try.prog 0:=CtR.rdB 88 Int (fun y=>[.int .i64 y]) (fun x y=>getOut x.l x.o x.n y 4) (fun x y=>x.n<=1000000000) (fun _=>rfl) (fun _ _=>zFl _ _ _ _ _)
 (fun y z h=>by simpa using h)
 (fun l o n c y h hp=>by obtain ⟨r,hF,H,m,wr,rfl,hw⟩:=get32_fn l o n c y h hp;exact ⟨H,m,wr,hF,hw⟩)
 (fun _ _ _ _ _ _=>rfl) (fun _ _ _ _ _ _ h=>h)
 (fun x y F=>getTr x y 4 F) (fun _ _ _ h=>zPc h)
noncomputable def tbO5 : Tb Try.prog 0:=tbOf mixed []
def bytesOk (n : Nat) (i z : Int) : Bool:=decide (0<=z /\ 0<=i /\ i<=n /\ z<=n - i)
def bytesBad (n : Nat) (i z : Int) : Value:=.tuple #[.slice none 0 0,.int .i64 0,if z < 0 then .agg #[.int .i64 2,.int .i64 0] else if i < 0 \/ i > n then .agg #[.int .i64 5,.int .i64 0] else .agg #[.int .i64 4,.int .i64 (n : Int)]]
def bytesV (i z : Int) (b : Nat) : Value:=.tuple #[.slice (some ⟨b,0,none⟩) z.toNat (if z.toNat = 0 then 0 else U),.int .i64 (i + z),.agg #[.int .i64 0,.int .i64 0]]
theorem bytes_fn (l : Bl) (o n c : Nat) (i z : Int) (h : o + n<=l.length) (hn : n<=1000000000) (hc : c = U \/ n<=c /\ c<=9223372036854775807) : ∃ r,FnS Try.prog 0 62 [.slice (some ⟨0,o,none⟩) n c,.int .i64 i,.int .i64 z] (heap 1 [(0,.win (l.map byV) 1)]) 1 r /\
  ∃ v H m wr,r = .ret v H m wr /\ (∀ k ∈ wr,1<=k) /\ ((bytesOk n i z = false /\ v = bytesBad n i z) \/ (bytesOk n i z = true /\ ∃ b,H.get b = some (.cells (((l.drop (o + i.toNat)).take z.toNat).map byV) 5) /\ 1<=b /\ b < JJ /\ v = bytesV i z b)):=by
 refine zBo mixed tbO5 [0] Try.func62 (c:=bodyOf Try.f62) (by kernel_rfl) ?_
 refine ifK (fun h1=>?_) (fun h1=>?_)
 ·have h1:=oT h1
  refine ⟨_,_,_,_,rfl,zAx rfl,.inl ⟨by unfold bytesOk;simp;omega,?_⟩⟩
  unfold bytesBad;rw [if_pos h1];rfl
 have h1:=oF h1
 refine ifK (fun h2=>?_) (fun h2=>?_)
 ·have h2:=oT h2
  refine ⟨_,_,_,_,rfl,zAx rfl,.inl ⟨by unfold bytesOk;simp;omega,?_⟩⟩
  unfold bytesBad;rw [if_neg h1,if_pos (.inl h2)];rfl
 have h2:=oF h2
 refine ifK (fun h3=>?_) (fun h3=>?_)
 ·have h3:=oT h3
  refine ⟨_,_,_,_,rfl,zAx rfl,.inl ⟨by unfold bytesOk;simp;omega,?_⟩⟩
  unfold bytesBad;rw [if_neg h1,if_pos (.inr h3)];rfl
 have h3:=oF h3
 have e1 : IntKind.i64.wrap ((n : Int) - i) = (n : Int) - i:=wrapM (by omega) (by omega)
 refine ifK (fun h4=>?_) (fun h4=>?_)
 ·have h4:=oT h4
  rw [e1] at h4
  refine ⟨_,_,_,_,rfl,zAx rfl,.inl ⟨by unfold bytesOk;simp;omega,?_⟩⟩
  unfold bytesBad;rw [if_neg h1,if_neg (by omega)];rfl
 have h4:=oF h4
 rw [e1] at h4
 have e2 : IntKind.i64.wrap (i + z) = i + z:=wrapM (by omega) (by omega)
 have hok : bytesOk n i z = true:=by unfold bytesOk;simp;omega
 have e3 : (IntKind.i64.wrap (i + z)).toNat - i.toNat = z.toNat:=by rw [e2];omega
 have hcs : ∀ o',(o' = o + i.toNat \/ z.toNat = 0) -> ∀ c' : Nat,∀ G : Gh,G 0 = some (.win (l.map byV) 1) -> zAl G 1 (.slice (some ⟨0,o',none⟩) ((IntKind.i64.wrap (i + z)).toNat - i.toNat) c') = some ((IntKind.i64.wrap (i + z)).toNat - i.toNat,((l.drop (o + i.toNat)).take z.toNat).map byV):=by
  intro o' ho' c' G hG
  rw [e3]
  unfold zAl
  by_cases hz : z.toNat = 0
  ·rw [hz];simp
  have ho' : o' = o + i.toNat:=ho'.resolve_right hz
  subst ho'
  have : z.toNat.beq 0 = false:=by cases hb : z.toNat.beq 0;rfl;exact ab (aA hb) hz
  simp only [this,cF,hG,Option.bind_some,AObj.look]
  rw [bL (by simp;omega)]
  simp [List.map_take,List.map_drop]
 refine ifK (fun h5=>?_) (fun h5=>?_)
 ·refine aI (by rw [e2];simp only [inLH,bA,dT];omega) ?_
  refine eI (((l.drop (o + i.toNat)).take z.toNat).map byV) (aI ?_ ?_)
  ·refine hcs (o + i.toNat * 1) (.inl (by omega)) U _ rfl
  refine ifK (fun h6=>?_) (fun h6=>?_)
  ·have h6 : z.toNat = 0:=by rw [e3] at h6;exact aA h6
   refine ⟨_,_,_,_,rfl,zAx rfl,.inr ⟨hok,2,?_,by decide,by decide,?_⟩⟩
   ·rw [h6];rfl
   rw [show bytesV i z 2 = .tuple #[.slice (some ⟨2,0,none⟩) 0 0,.int .i64 (IntKind.i64.wrap (i + z)),.agg #[.int .i64 0,.int .i64 0]] by unfold bytesV;rw [h6,e2];rfl];rfl
  have h6 : z.toNat ≠ 0:=by rw [e3] at h6;exact fun e=>by rw [e] at h6;cases h6
  refine aI (by rw [e3];have hB : (Try.prog.types[5]).bytes = 1:=(by kernel_rfl);simp [hB];omega) ?_
  refine ⟨_,_,_,_,rfl,zAx rfl,.inr ⟨hok,3,rfl,by decide,by decide,?_⟩⟩
  rw [show bytesV i z 3 = .tuple #[.slice (some ⟨3,0,none⟩) (0 + ((IntKind.i64.wrap (i + z)).toNat - i.toNat)) U,.int .i64 (IntKind.i64.wrap (i + z)),.agg #[.int .i64 0,.int .i64 0]] by unfold bytesV;rw [if_neg h6,e3,e2,aS]];rfl
 have hcU : c ≠ U:=fun e=>by subst e;cases h5
 obtain ⟨c1,c2⟩:=hc.resolve_left hcU
 refine aI (by rw [e2];simp only [inLH,bA,dT];refine ⟨⟨⟨⟨?_,?_⟩,?_⟩,bL c1⟩,bL ?_⟩ <;> omega) ?_
 refine eI (((l.drop (o + i.toNat)).take z.toNat).map byV) (aI ?_ ?_)
 ·refine hcs (bif c.beq i.toNat then o else o + i.toNat * 1) ?_ _ _ rfl
  cases hb : c.beq i.toNat with
  | true=>have := aA hb;exact .inr (by omega)
  | false=>exact .inl (by rw [cF];omega)
 refine ifK (fun h6=>?_) (fun h6=>?_)
 ·have h6 : z.toNat = 0:=by rw [e3] at h6;exact aA h6
  refine ⟨_,_,_,_,rfl,zAx rfl,.inr ⟨hok,2,?_,by decide,by decide,?_⟩⟩
  ·rw [h6];rfl
  rw [show bytesV i z 2 = .tuple #[.slice (some ⟨2,0,none⟩) 0 0,.int .i64 (IntKind.i64.wrap (i + z)),.agg #[.int .i64 0,.int .i64 0]] by unfold bytesV;rw [h6,e2];rfl];rfl
 have h6 : z.toNat ≠ 0:=by rw [e3] at h6;exact fun e=>by rw [e] at h6;cases h6
 refine aI (by rw [e3];have hB : (Try.prog.types[5]).bytes = 1:=(by kernel_rfl);simp [hB];omega) ?_
 refine ⟨_,_,_,_,rfl,zAx rfl,.inr ⟨hok,3,rfl,by decide,by decide,?_⟩⟩
 rw [show bytesV i z 3 = .tuple #[.slice (some ⟨3,0,none⟩) (0 + ((IntKind.i64.wrap (i + z)).toNat - i.toNat)) U,.int .i64 (IntKind.i64.wrap (i + z)),.agg #[.int .i64 0,.int .i64 0]] by unfold bytesV;rw [if_neg h6,e3,e2,aS]];rfl
theorem zMq (n : Nat) (i z : Int) : plainV 8 (bytesBad n i z) = true:=by
 unfold bytesBad
 split
 ·rfl
 split <;> rfl
theorem bytesV_rv {σ : Nat -> Nat -> Prop} (i z : Int) {b n : Nat} (h : σ b n) : RV σ (bytesV i z b) (bytesV i z n):=.tuple _ _ (.cons _ _ _ _ (.sl _ _ _ _ _ h) (.cons _ _ _ _ (.int _ _) (.cons _ _ _ _ (zAu 8 rfl) .nil)))
def bytesOut (x : RdB) (y : Int × Int) (n : Nat) : Value × Option (List Value × TypeId) :=
 bif bytesOk x.n y.1 y.2 then (bytesV y.1 y.2 n,some (((x.l.drop (x.o + y.1.toNat)).take y.2.toNat).map byV,5)) else (bytesBad x.n y.1 y.2,none)
def bytesTr (x : RdB) (i z : Int) (H : Tr AObj) (n : Nat) (K : Res -> Prop) : Prop :=
 brK (decide (z < 0)) (K (.ret (.tuple #[.slice none 0 0,.int .i64 0,.agg #[.int .i64 2,.int .i64 0]]) H n []))
  (brK (decide (i < 0) || decide (i > x.n)) (K (.ret (.tuple #[.slice none 0 0,.int .i64 0,.agg #[.int .i64 5,.int .i64 0]]) H n []))
   (brK (decide ((x.n : Int) - i < z)) (K (.ret (.tuple #[.slice none 0 0,.int .i64 0,.agg #[.int .i64 4,.int .i64 (x.n : Int)]]) H n []))
    (brK (z.toNat.beq 0) (K (.ret (.tuple #[.slice (some ⟨n,0,none⟩) 0 0,.int .i64 (i + z),.agg #[.int .i64 0,.int .i64 0]]) (H.set n (some (.cells [] 5))) (n + 1) []))
     (K (.ret (.tuple #[.slice (some ⟨n,0,none⟩) z.toNat U,.int .i64 (i + z),.agg #[.int .i64 0,.int .i64 0]]) (H.set n (some (.cells (((x.l.drop (x.o + i.toNat)).take z.toNat).map byV) 5))) (n + 1) [])))))
theorem zXl {x : RdB} {y : Int × Int} {H : Tr AObj} {n : Nat} {K : Res -> Prop} (h : bytesTr x y.1 y.2 H n K) : K (resNew (bytesOut x y n) H n):=by
 obtain ⟨i,z⟩:=y
 unfold bytesTr at h
 unfold bytesOut
 simp only [] at h ⊢
 cases h1 : decide (z < 0) with
 | true =>
  rw [h1] at h
  have h1:=oT h1
  rw [show bytesOk x.n i z = false by unfold bytesOk;simp;omega]
  unfold bytesBad;rw [if_pos h1];exact h
 | false =>
  rw [h1] at h
  have h1:=oF h1
  cases h2 : (decide (i < 0) || decide (i > x.n)) with
  | true =>
   rw [h2] at h
   have h2 : i < 0 \/ i > x.n:=by simpa using h2
   rw [show bytesOk x.n i z = false by unfold bytesOk;simp;omega]
   unfold bytesBad;rw [if_neg h1,if_pos h2];exact h
  | false =>
   rw [h2] at h
   have h2 : ¬ (i < 0 \/ i > x.n):=by simpa using h2
   cases h3 : decide ((x.n : Int) - i < z) with
   | true =>
    rw [h3] at h
    have h3:=oT h3
    rw [show bytesOk x.n i z = false by unfold bytesOk;simp;omega]
    unfold bytesBad;rw [if_neg h1,if_neg h2];exact h
   | false =>
    rw [h3] at h
    have h3:=oF h3
    rw [show bytesOk x.n i z = true by unfold bytesOk;simp;omega]
    simp only [cT]
    cases h4 : z.toNat.beq 0 with
    | true =>
     rw [h4] at h
     have h4:=aA h4
     unfold bytesV;rw [h4];exact h
    | false =>
     rw [h4] at h
     unfold bytesV;rw [if_neg (fun e=>by rw [e] at h4;cases h4)];exact h
theorem zVw (l : Bl) (o n c : Nat) (i : Int) (h : o + n<=l.length) (hn : n<=1000000000) : ∃ r,FnS Try.prog 0 56 [.slice (some ⟨0,o,none⟩) n c,.int .i64 i] (heap 1 [(0,.win (l.map byV) 1)]) 1 r /\ ∃ H m wr,r = .ret (getOut l o n i 2) H m wr /\ ∀ k ∈ wr,1<=k:=by
 refine zBo mixed tbO3 [0] Try.func56 (c:=bodyOf Try.f56) (by kernel_rfl) ?_
 refine eI (⟨0,o,n,c,l⟩,(i,2)) (aI ⟨rfl,⟨rfl,h⟩,(show 2<=4 by decide),hn⟩ ?_)
 unfold getOut
 refine ifK (fun h1=>?_) (fun h1=>?_)
 ·rw [if_pos (by simpa using h1)];exact ⟨_,_,_,rfl,zAx rfl⟩
 rw [if_neg (by simpa using h1)]
 refine ifK (fun h2=>?_) (fun h2=>?_)
 ·rw [if_pos (aE h2)];exact ⟨_,_,_,rfl,zAx rfl⟩
 rw [if_neg (fun e=>by rw [show Nat.ble (i.toNat + 2) n = true from bL e] at h2;cases h2)];exact ⟨_,_,_,rfl,zAx rfl⟩
noncomputable def zOm : Ct Try.prog 0:=CtR.rdB 56 Int (fun y=>[.int .i64 y]) (fun x y=>getOut x.l x.o x.n y 2) (fun x y=>x.n<=1000000000) (fun _=>rfl) (fun _ _=>zFl _ _ _ _ _)
 (fun y z h=>by simpa using h)
 (fun l o n c y h hp=>by obtain ⟨r,hF,H,m,wr,rfl,hw⟩:=zVw l o n c y h hp;exact ⟨H,m,wr,hF,hw⟩)
 (fun _ _ _ _ _ _=>rfl) (fun _ _ _ _ _ _ h=>h)
 (fun x y F=>getTr x y 2 F) (fun _ _ _ h=>zPc h)
noncomputable def zVl : Ct Try.prog 0:=CtR.rdN 62 (Int × Int) (fun y=>[.int .i64 y.1,.int .i64 y.2]) bytesOut (fun x _=>x.n<=1000000000 /\ (x.c = U \/ x.n<=x.c /\ x.c<=9223372036854775807)) (fun _=>rfl)
 (fun y z h=>by simp only [aQ,Value.int.injEq,true_and,and_true] at h;exact Prod.ext h.1 h.2)
 (fun l o n c y h hp=>by
  obtain ⟨r,hF,v,H,m,wr,rfl,hw,⟨h1,rfl⟩ | ⟨h1,b,h2,h3,h4,rfl⟩⟩:=bytes_fn l o n c y.1 y.2 h hp.1 hp.2
  ·exact ⟨_,H,m,wr,hF,hw,.inl fun n'=>⟨by unfold bytesOut;simp [h1],zMq _ _ _⟩⟩
  exact ⟨_,H,m,wr,hF,hw,.inr ⟨b,_,_,h2,h3,h4,zAc _,fun b0 n'=>⟨by unfold bytesOut;simp [h1],by unfold bytesOut;simp only [h1];exact bytesV_rv _ _ (zJg (A:=[b0]) h3)⟩⟩⟩)
 (fun _ _ _ _ _ _=>rfl) (fun _ _ _ _ _ _ h=>h) (fun x y H n K=>bytesTr x y.1 y.2 H n K) (fun _ _ _ _ _ h=>zXl h)
noncomputable def tbN : Tb Try.prog 0:=tbOf mixed []
def b64 (x : Int) : BitVec 64:=BitVec.ofInt 64 x
def codeI (x : Int) : Int:=IntKind.i64.wrap (b64 x &&& b64 15).toNat
theorem code_fn (x : Int) : ∃ r,FnS Try.prog 0 29 [.int .i64 x] .e 0 r /\ ∃ H m wr,r = .ret (.int .i64 (codeI x)) H m wr:=by
 refine zBo mixed tbN [] Try.func29 (c:=bodyOf Try.f29) (by kernel_rfl) ?_
 exact ⟨_,_,_,rfl⟩
def ct_code : Ct Try.prog 0:=Ct.int1 29 codeI (fun x=>by obtain ⟨r,h,H,m,wr,rfl⟩:=code_fn x;exact ⟨H,m,wr,h⟩)
theorem zOf {n : Nat} (h : n < 18446744073709551616) : (b64 (n : Int)).toNat = n:=by
 unfold b64
 rw [BitVec.toNat_ofInt]
 omega
theorem b64_15 : b64 15 = 15#64:=by decide
theorem and15 (b : BitVec 64) : (b &&& 15#64).toNat = b.toNat % 16:=by
 rw [BitVec.toNat_and]
 exact Nat.and_two_pow_sub_one_eq_mod b.toNat 4
theorem zSr : zPu (evT Try.prog 0 ([] : List (Ct Try.prog 0)) 1000000 (.call 20 []) fs0) = true:=by kernel_rfl
theorem zQl (w : World) (hpos : 0 < w.heap.size) : Calls Try.prog 20 #[] w fun e w'=>e = .returned (.bool true) /\ Below w.heap.size w w':=evT_true mixed [] 1000000 _ zSr w hpos
end Go.Proofs.Ytknpgjeclmadkaa
