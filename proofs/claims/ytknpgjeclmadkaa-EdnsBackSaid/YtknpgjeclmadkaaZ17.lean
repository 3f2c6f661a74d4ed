/- DERIVED. Parts. -/
import Derived.LoopIn
import Derived.Test.YtknpgjeclmadkaaZ14
import Derived.Test.YtknpgjeclmadkaaZ15
import Derived.Test.YtknpgjeclmadkaaZ16
import Derived.Test.YtknpgjeclmadkaaZ2
set_option maxRecDepth 1000000
set_option maxHeartbeats 32000000
namespace Go.Proofs.Ytknpgjeclmadkaa
section
open Go Go.RowKit
def bs (s : ByteArray) : Bs:=s.data.toList
theorem zSb (s : ByteArray) : str (bs s) = .string s:=by simp [str,bs]
def shortB (s : ByteArray) : Bool:=s.data.size.ble 1000000000
theorem zFx {s : ByteArray} (h : shortB s = true) : (bs s).length<=1000000000:=by unfold bs;rw [Array.length_toList];exact aE h
def gStr : List Value -> Option Bool
 | [.string s]=>some (shortB s)
 | _=>none
def Ct.str1 (f : FuncId) (out : ByteArray -> Value) (hp : ∀ s,plainV 8 (out s) = true) (ok : ∀ s w,(bs s).length<=1000000000 -> Calls Try.prog f #[.string s] w fun e w'=>e = .returned (out s) /\ Below w.heap.size w w') : Ct Try.prog 0 where
 f:=f
 res l H n := match l with | [.string s] => bif shortB s then .ret (out s) H n [] else .bad "long" [] | _ => .bad "arguments" []
 ok l H n:=by
  split
  ·rename_i s
   cases hs : shortB s with
   | false=>trivial
   | true=>exact zQm (fun w=>ok s w (zFx hs)) rfl (hp s) H n
  trivial
 ck l H n K:=match l with | [.string s]=>shortB s = true /\ K (.ret (out s) H n []) | _=>False
 imp l H n K h:=by
  split at h
  ·obtain ⟨h1,h2⟩:=h
   simp only [h1,cT];exact h2
  exact h.elim
def zHs : Ct Try.prog 0:=Ct.str1 66 (fun s=>.int .i64 (labels (bs s)).2) (fun _=>rfl) (fun s w hs=>by have := zPk (bs s) w hs;rwa [zSb] at this)
end
section
open Go Go.RowKit
theorem zVi (s : ByteArray) (l h : Nat) : bs (subS s l h) = ((bs s).take h).drop l:=by simp [bs,subS]
theorem zAo (s : ByteArray) : s.data.size = (bs s).length:=by simp [bs]
theorem atS_get (s : ByteArray) (i : Nat) (h : i < (bs s).length) : atS s (i : Int) = (bs s)[i]:=by
 unfold atS
 rw [aO,List.getD_eq_getElem?_getD]
 show ((bs s)[i]?).getD 0 = _
 rw [gG h];rfl
theorem wrapN {x : Int} (h1 : 0<=x) (h2 : x < 9223372036854775808) : IntKind.i64.wrap x = x:=zDv (by omega) h2
theorem byte_lt (c : UInt8) : c.toNat < 256:=UInt8.toNat_lt c
def txtF : Nat -> Bs -> Bool
 | 0,_=>false
 | _ + 1,[]=>true
 | n + 1,c :: r=>decide (c.toNat<=r.length)&&txtF n (r.drop c.toNat)
theorem txtF_eq : ∀ (n m : Nat) (l : Bs),l.length < n -> l.length < m -> txtF n l = txtF m l
 | n + 1,m + 1,[],_,_=>rfl
 | n + 1,m + 1,c :: r,h1,h2=>by
  simp only [txtF]
  rw [txtF_eq n m (r.drop c.toNat) (by simp at h1 ⊢;omega) (by simp at h2 ⊢;omega)]
def txt (l : Bs) : Bool:=txtF (l.length + 1) l
theorem txt_nil : txt [] = true:=rfl
theorem txt_cons (c : UInt8) (r : Bs) : txt (c :: r) = (decide (c.toNat<=r.length)&&txt (r.drop c.toNat)):=by
 unfold txt
 simp only [txtF,aC]
 rw [txtF_eq (r.length + 1) ((r.drop c.toNat).length + 1) _ (by simp;omega) (by omega)]
theorem txt_at (l : Bs) (i : Nat) (h : i < l.length) : txt (l.drop i) = (decide (i + 1 + l[i].toNat<=l.length)&&txt (l.drop (i + 1 + l[i].toNat))):=by
 rw [bD h,txt_cons,List.drop_drop]
 congr 1
 rw [decide_eq_decide];simp;omega
def texts (l : Bs) : Bool:=!l.isEmpty&&txt l
theorem texts_fn (s : ByteArray) (hs : (bs s).length<=1000000000) : ∃ r,FnS Try.prog 0 92 [.string s] .e 0 r /\ ∃ H m wr,r = .ret (.bool (texts (bs s))) H m wr:=by
 refine zBo mixed (tbOf mixed []) [] Try.func92 (c:=bodyOf Try.f92) (by kernel_rfl) ?_
 refine zPh (fun i f=>⟨slots 6 [(0,.string s),(3,.int .i64 (i : Nat))] f,heap 0 [],0,[],[]⟩) (fun i=>(bs s).length - i) (fun i=>i<=(bs s).length /\ txt (bs s) = txt ((bs s).drop i)) 0 ⟨aH _,rfl⟩
  (zAn [] rfl rfl rfl (fun l e=>by cases e) List.nodup_nil (fun x hx=>by cases hx) rfl rfl (fun k hk _=>hk) ⟨⟨_,rfl,.string _⟩,(sI rfl),tv⟩ trivial .nil) ?_
 rintro i f ⟨hi,heq⟩
 refine zAq (tbOf mixed []) [] 0 _ none mixed _ _ _ ?_
 refine ifK (fun h1=>?_) (fun h1=>?_)
 ·have h1 : i < (bs s).length:=by have := oT h1;rw [zAo] at this;omega
  have hb:=byte_lt (bs s)[i]
  have hat:=atS_get s i h1
  have e1 : IntKind.i64.wrap ((i : Int) + IntKind.i64.wrap (1 + IntKind.i64.wrap ((atS s (i : Int)).toNat : Int))) = ((i + 1 + (bs s)[i].toNat : Nat) : Int):=by
   rw [hat,wrapN (x:=(((bs s)[i]).toNat : Int)) (by omega) (by omega),wrapN (x:=1 + (((bs s)[i]).toNat : Int)) (by omega) (by omega),wrapN (by omega) (by omega)];omega
  refine aI (by simp only [inI,zAo];simp;omega) ?_
  have hstep:=txt_at (bs s) i h1
  refine ifK (fun h2=>?_) (fun h2=>?_)
  ·have h2:=oT h2
   rw [e1,zAo] at h2
   have : texts (bs s) = false:=by
    unfold texts;rw [heq,hstep,aY (by omega)];simp
   rw [this];exact ⟨_,_,_,rfl⟩
  have h2:=oF h2
  rw [e1,zAo] at h2
  refine ⟨i + 1 + (bs s)[i].toNat,⟨by omega,?_⟩,by omega,zAn [] rfl rfl rfl (fun l e=>by cases e) List.nodup_nil (fun x hx=>by cases hx) rfl rfl (fun k hk _=>hk) ⟨⟨_,rfl,.string _⟩,zAa rfl e1,tv⟩ trivial .nil⟩
  rw [heq,hstep,aX (by omega),Bool.true_and]
 have h1 : ¬ i < (bs s).length:=by have := oF h1;rw [zAo] at this;omega
 have : texts (bs s) = !(s.data.toList == []):=by
  unfold texts
  rw [heq,bE (by omega),txt_nil,Bool.and_true]
  show (!(bs s).isEmpty) = !(bs s == [])
  cases bs s <;> rfl
 rw [this];exact ⟨_,_,_,rfl⟩
end
section
open Go Go.RowKit
def rOf (Q : Value -> Tr AObj -> Prop) (r : Res) : Prop:=match r with | .ret v H _ _=>Q v H | _=>False
def resV (r : Res) : Value:=match r with | .ret v _ _ _=>v | _=>.nilFunc
noncomputable def evP (t : Int) : Res:=ev Try.prog 0 1000 (.call 89 [.int .i64 t]) ⟨.e,.e,0,[],[]⟩
theorem zCd (t : Int) (Q : Value -> Tr AObj -> Prop) : (frcTr (tmpsOf [.int .i64 t] 0 .e) fun T=>sx (tbK mixed (g0:=0) true []) [] 0 (1 + (Try.f89.ntmps - 1)) none (bodyOf Try.f89) ⟨T,.e,0,[],[]⟩ (fnK (tbK mixed (g0:=0) true []) Try.f89 (rOf Q))) =
  brK (t == 1) (Q (resV (evP 1)) (resH (evP 1))) (brK (t == 28) (Q (resV (evP 28)) (resH (evP 1))) (brK (t == 2) (Q (resV (evP 2)) (resH (evP 1))) (brK (t == 5) (Q (resV (evP 5)) (resH (evP 1))) (brK (t == 12) (Q (resV (evP 12)) (resH (evP 1)))
   (brK (t == 15) (Q (resV (evP 15)) (resH (evP 1))) (brK (t == 6) (Q (resV (evP 6)) (resH (evP 1))) (brK (t == 16) (Q (resV (evP 16)) (resH (evP 1))) (Q (.tuple #[.slice none 0 0,.bool false]) (resH (evP 1)))))))))):=by kernel_rfl
def part (n : Int) (name rest : Bool) : List Value:=[.int .i64 n,.bool name,.bool rest]
def partsTab : List (Int × Nat × List Value) :=
 [(1,1,part 4 false false),(28,1,part 16 false false),(2,1,part 0 true false),(5,1,part 0 true false),(12,1,part 0 true false),(15,2,part 2 false false++part 0 true false),
  (6,3,part 0 true false++part 0 true false++part 20 false false),(16,1,part 0 false true)]
def partsOut (len : Nat) (c : List Value) (H : Tr AObj) (n : Nat) : Res:=.ret (.tuple #[.slice (some ⟨n,0,none⟩) len len,.bool true]) (H.set n (some (.cells c 138))) (n + 1) []
def partsGo (t : Int) (H : Tr AObj) (n : Nat) : List (Int × Nat × List Value) -> Res
 | []=>.ret (.tuple #[.slice none 0 0,.bool false]) H n []
 | (k,len,c) :: l=>bif t == k then partsOut len c H n else partsGo t H n l
theorem zWk (t : Int) (H : Tr AObj) (n : Nat) : CallOK Try.prog 0 89 [.int .i64 t] H n (partsGo t H n partsTab):=by
 have main : ∀ v,(frcTr (tmpsOf [.int .i64 t] 0 .e) fun T=>sx (tbK mixed (g0:=0) true []) [] 0 (1 + (Try.f89.ntmps - 1)) none (bodyOf Try.f89) ⟨T,.e,0,[],[]⟩ (fnK (tbK mixed (g0:=0) true []) Try.f89 (rOf fun v' H'=>v' = v /\ H' = resH (evP 1)))) -> ∃ m wr,FnS Try.prog 0 89 [.int .i64 t] .e 0 (.ret v (resH (evP 1)) m wr):=by
  intro v h
  obtain ⟨r,h1,h2⟩:=zBo mixed (tbK mixed true []) [] Try.func89 (c:=bodyOf Try.f89) (by kernel_rfl) h
  cases r with
  | ret v' H' m wr=>obtain ⟨rfl,rfl⟩:=h2;exact ⟨m,wr,h1⟩
  | _=>exact h2.elim
 have one : ∀ (b len : Nat) (c : List Value),(∃ m wr,FnS Try.prog 0 89 [.int .i64 t] .e 0 (.ret (.tuple #[.slice (some ⟨b,0,none⟩) len len,.bool true]) (resH (evP 1)) m wr)) -> (resH (evP 1)).get b = some (.cells c 138) -> b < JJ -> plainL c = true -> CallOK Try.prog 0 89 [.int .i64 t] H n (partsOut len c H n):=by
  rintro b len c ⟨m,wr,hF⟩ hb hJ hp
  exact zDi (fun n=>.tuple #[.slice (some ⟨n,0,none⟩) len len,.bool true]) hF rfl hb hJ hp (fun n=>.tuple _ _ (.cons _ _ _ _ (.sl _ _ _ _ _ (zMj _ _)) (.cons _ _ _ _ (.bool _) .nil))) H n
 unfold partsTab
 simp only [partsGo]
 cases h1 : (t == 1) with
 | true=>exact one 2 1 _ (main _ (by rw [zCd,h1];exact ⟨(by kernel_rfl),rfl⟩)) (by kernel_rfl) (by decide) rfl
 | false =>
 cases h2 : (t == 28) with
 | true=>exact one 3 1 _ (main _ (by rw [zCd,h1,h2];exact ⟨(by kernel_rfl),rfl⟩)) (by kernel_rfl) (by decide) rfl
 | false =>
 cases h3 : (t == 2) with
 | true=>exact one 4 1 _ (main _ (by rw [zCd,h1,h2,h3];exact ⟨(by kernel_rfl),rfl⟩)) (by kernel_rfl) (by decide) rfl
 | false =>
 cases h4 : (t == 5) with
 | true=>exact one 5 1 _ (main _ (by rw [zCd,h1,h2,h3,h4];exact ⟨(by kernel_rfl),rfl⟩)) (by kernel_rfl) (by decide) rfl
 | false =>
 cases h5 : (t == 12) with
 | true=>exact one 6 1 _ (main _ (by rw [zCd,h1,h2,h3,h4,h5];exact ⟨(by kernel_rfl),rfl⟩)) (by kernel_rfl) (by decide) rfl
 | false =>
 cases h6 : (t == 15) with
 | true=>exact one 7 2 _ (main _ (by rw [zCd,h1,h2,h3,h4,h5,h6];exact ⟨(by kernel_rfl),rfl⟩)) (by kernel_rfl) (by decide) rfl
 | false =>
 cases h7 : (t == 6) with
 | true=>exact one 8 3 _ (main _ (by rw [zCd,h1,h2,h3,h4,h5,h6,h7];exact ⟨(by kernel_rfl),rfl⟩)) (by kernel_rfl) (by decide) rfl
 | false =>
 cases h8 : (t == 16) with
 | true=>exact one 9 1 _ (main _ (by rw [zCd,h1,h2,h3,h4,h5,h6,h7,h8];exact ⟨(by kernel_rfl),rfl⟩)) (by kernel_rfl) (by decide) rfl
 | false =>
  obtain ⟨m,wr,hF⟩:=main (.tuple #[.slice none 0 0,.bool false]) (by rw [zCd,h1,h2,h3,h4,h5,h6,h7,h8];exact ⟨rfl,rfl⟩)
  exact zBl hF rfl rfl H n
end
section
open Go Go.RowKit
def zposF : Nat -> Bs -> Option Nat
 | 0,_=>none
 | _ + 1,[]=>none
 | n + 1,c :: r=>if c.toNat = 0 then some 0 else (zposF n (r.drop c.toNat)).map (· + (c.toNat + 1))
theorem zXd : ∀ (n m : Nat) (l : Bs),l.length < n -> l.length < m -> zposF n l = zposF m l
 | n + 1,m + 1,[],_,_=>rfl
 | n + 1,m + 1,c :: r,h1,h2=>by
  simp only [zposF]
  rw [zXd n m (r.drop c.toNat) (by simp at h1 ⊢;omega) (by simp at h2 ⊢;omega)]
def zpos (l : Bs) : Option Nat:=zposF (l.length + 1) l
theorem zpos_nil : zpos [] = none:=rfl
theorem zSe (c : UInt8) (r : Bs) : zpos (c :: r) = if c.toNat = 0 then some 0 else (zpos (r.drop c.toNat)).map (· + (c.toNat + 1)):=by
 unfold zpos
 simp only [zposF,aC]
 rw [zXd (r.length + 1) ((r.drop c.toNat).length + 1) _ (by simp;omega) (by omega)]
theorem zpos_at (l : Bs) (i : Nat) (h : i < l.length) : zpos (l.drop i) = if l[i].toNat = 0 then some 0 else (zpos (l.drop (i + 1 + l[i].toNat))).map (· + (l[i].toNat + 1)):=by
 rw [bD h,zSe,List.drop_drop]
theorem zUy : ∀ (n : Nat) (l : Bs) (k : Nat),l.length<=n -> zpos l = some k -> k < l.length
 | 0,l,k,hn,h=>by
  have : l = []:=List.length_eq_zero_iff.1 (by omega)
  subst this;cases h
 | n + 1,[],k,_,h=>by cases h
 | n + 1,c :: r,k,hn,h=>by
  rw [zSe] at h
  split at h
  ·cases h;simp
  obtain ⟨j,hj,rfl⟩:=Option.map_eq_some_iff.1 h
  have := zUy n (r.drop c.toNat) j (by simp at hn ⊢;omega) hj
  simp at this ⊢;omega
theorem zNl {l : Bs} (h : (labels l).2 = 0) : l.length<=255:=by
 unfold labels at h
 split at h
 ·cases h
 split at h
 ·cases h
 omega
def front (l : Bs) : Option Nat:=match zpos l with | some k=>if (labels (l.take (k + 1))).2 = 0 then some (k + 1) else none | none=>none
def unfitV : Value:=.iface 143 (.agg #[])
noncomputable def tbD3 : Tb Try.prog 0:=tbOf mixed [zHs]
theorem first_fn (s : ByteArray) (hs : (bs s).length<=1000000000) : ∃ r,FnS Try.prog 0 93 [.string s] .e 0 r /\ ∃ H m wr,(∃ k,front (bs s) = some k /\ r = .ret (.string (subS s 0 k)) H m wr) \/ (front (bs s) = none /\ r = .pan [(unfitV,false)] H m wr):=by
 refine zBo mixed tbD3 [] Try.func93 (c:=bodyOf Try.f93) (by kernel_rfl) ?_
 refine zPh (fun i f=>⟨slots 6 [(0,.string s),(3,.int .i64 (i : Nat))] f,heap 0 [],0,[],[]⟩) (fun i=>(bs s).length + 300 - i) (fun i=>i<=(bs s).length + 256 /\ zpos (bs s) = (zpos ((bs s).drop i)).map (· + i)) 0 ⟨aH _,by simp⟩
  (zAn [] rfl rfl rfl (fun l e=>by cases e) List.nodup_nil (fun x hx=>by cases hx) rfl rfl (fun k hk _=>hk) ⟨⟨_,rfl,.string _⟩,(sI rfl),tv⟩ trivial .nil) ?_
 rintro i f ⟨hi,heq⟩
 refine zAq tbD3 [] 0 _ none mixed _ _ _ ?_
 refine ifK (fun h1=>?_) (fun h1=>?_)
 ·have h1 : i < (bs s).length:=by have := oT h1;rw [zAo] at this;omega
  have hb:=byte_lt (bs s)[i]
  have hat:=atS_get s i h1
  have hstep:=zpos_at (bs s) i h1
  refine ifK (fun h2=>?_) (fun h2=>?_)
  ·have h2:=oT h2
   refine aI (by simp only [inI,zAo];simp;omega) ?_
   refine ifK (fun h3=>?_) (fun h3=>?_)
   ·have h3 : (bs s)[i].toNat = 0:=by rw [hat] at h3;simpa using h3
    rw [if_pos h3] at hstep
    rw [hstep] at heq
    have hz : zpos (bs s) = some i:=by rw [heq];simp
    have e1 : IntKind.i64.wrap ((i : Int) + 1) = ((i + 1 : Nat) : Int):=by rw [wrapN (by omega) (by omega)];omega
    have e2 : (IntKind.i64.wrap ((i : Int) + 1)).toNat = i + 1:=by rw [e1];rfl
    refine aI (by rw [e1];simp only [inLH,zAo];simp;omega) ?_
    have hsub : bs (subS s (Int.toNat 0) (IntKind.i64.wrap ((i : Int) + 1)).toNat) = (bs s).take (i + 1):=by rw [zVi,e2];simp
    refine aI (by unfold shortB;rw [zAo,hsub];simp;omega) ?_
    refine ifK (fun h4=>?_) (fun h4=>?_)
    ·have h4 : (labels ((bs s).take (i + 1))).2 = 0:=by rw [hsub] at h4;simpa using h4
     have hf : front (bs s) = some (i + 1):=by unfold front;rw [hz];simp [h4]
     exact ⟨_,_,_,.inl ⟨i + 1,hf,by rw [<- e2];rfl⟩⟩
    have h4 : ¬ (labels ((bs s).take (i + 1))).2 = 0:=by rw [hsub] at h4;simpa using h4
    have hf : front (bs s) = none:=by unfold front;rw [hz];simp [h4]
    exact ⟨_,_,_,.inr ⟨hf,rfl⟩⟩
   have h3 : (bs s)[i].toNat ≠ 0:=by rw [hat] at h3;simpa using h3
   rw [if_neg h3] at hstep
   have e1 : IntKind.i64.wrap ((i : Int) + IntKind.i64.wrap (1 + IntKind.i64.wrap ((atS s (i : Int)).toNat : Int))) = ((i + 1 + (bs s)[i].toNat : Nat) : Int):=by
    rw [hat,wrapN (x:=(((bs s)[i]).toNat : Int)) (by omega) (by omega),wrapN (x:=1 + (((bs s)[i]).toNat : Int)) (by omega) (by omega),wrapN (by omega) (by omega)];omega
   refine aI (by simp only [inI,zAo];simp;omega) ?_
   refine ⟨i + 1 + (bs s)[i].toNat,⟨by omega,?_⟩,by omega,zAn [] rfl rfl rfl (fun l e=>by cases e) List.nodup_nil (fun x hx=>by cases hx) rfl rfl (fun k hk _=>hk) ⟨⟨_,rfl,.string _⟩,zAa rfl e1,tv⟩ trivial .nil⟩
   rw [heq,hstep,Option.map_map]
   congr 1
   funext j;simp;omega
  have h2 : ¬ i < 255:=by have := oF h2;omega
  have hf : front (bs s) = none:=by
   unfold front
   rw [heq]
   cases hz : zpos ((bs s).drop i) with
   | none=>rfl
   | some j =>
    simp only [Option.map_some]
    rw [if_neg]
    intro hl
    have h5:=zNl hl
    have h6:=zUy _ _ _ (aJ _) hz
    simp at h5 h6;omega
  exact ⟨_,_,_,.inr ⟨hf,rfl⟩⟩
 have h1 : ¬ i < (bs s).length:=by have := oF h1;rw [zAo] at this;omega
 have hf : front (bs s) = none:=by
  unfold front
  rw [heq,bE (by omega),zpos_nil];rfl
 exact ⟨_,_,_,.inr ⟨hf,rfl⟩⟩
end
section
open Go Go.RowKit
def Ct.strF (f : FuncId) (out : ByteArray -> Value) (hp : ∀ s,plainV 8 (out s) = true) (ok : ∀ s,(bs s).length<=1000000000 -> ∃ H m wr,FnS Try.prog 0 f [.string s] .e 0 (.ret (out s) H m wr)) : Ct Try.prog 0 where
 f:=f
 res l H n := match l with | [.string s] => bif shortB s then .ret (out s) H n [] else .bad "long" [] | _ => .bad "arguments" []
 ok l H n:=by
  split
  ·rename_i s
   cases hs : shortB s with
   | false=>trivial
   | true=>obtain ⟨_,_,_,h⟩:=ok s (zFx hs);exact zBl h rfl (hp s) H n
  trivial
 ck l H n K:=match l with | [.string s]=>shortB s = true /\ K (.ret (out s) H n []) | _=>False
 imp l H n K h:=by
  split at h
  ·obtain ⟨h1,h2⟩:=h
   simp only [h1,cT];exact h2
  exact h.elim
def zOo : Ct Try.prog 0:=Ct.strF 92 (fun s=>.bool (texts (bs s))) (fun _=>rfl) (fun s hs=>by
 obtain ⟨r,h,H,m,wr,rfl⟩:=texts_fn s hs
 exact ⟨H,m,wr,h⟩)
def frontN (l : Bs) : Nat:=(front l).getD 0
def zOl : Ct Try.prog 0 where
 f:=93
 res l H n := match l with | [.string s] => bif shortB s then (bif (front (bs s)).isSome then .ret (.string (subS s 0 (frontN (bs s)))) H n [] else .pan [(unfitV, false)] H n []) else .bad "long" [] | _ => .bad "arguments" []
 ok l H n:=by
  split
  ·rename_i s
   cases hs : shortB s with
   | false=>trivial
   | true =>
    obtain ⟨r,h,H',m,wr,⟨k,hf,rfl⟩ | ⟨hf,rfl⟩⟩:=first_fn s (zFx hs)
    ·simp only [hf,Option.isSome_some,cT]
     have : frontN (bs s) = k:=by simp [frontN,hf]
     rw [this]
     exact zBl h rfl rfl H n
    simp only [hf,Option.isSome_none,cT,cF]
    exact zMr h rfl rfl H n
  trivial
 ck l H n K:=match l with | [.string s]=>shortB s = true /\ brK (front (bs s)).isSome (K (.ret (.string (subS s 0 (frontN (bs s)))) H n [])) (K (.pan [(unfitV,false)] H n [])) | _=>False
 imp l H n K h:=by
  split at h
  ·rename_i s
   obtain ⟨h1,h2⟩:=h
   simp only [h1,cT]
   cases hf : (front (bs s)).isSome with
   | true=>rw [hf] at h2;exact h2
   | false=>rw [hf] at h2;exact h2
  exact h.elim
end
section
open Go Go.RowKit
inductive Pt where
 | nm
 | rest
 | sz (k : Nat)
def Pt.cell : Pt -> List Value
 | .nm=>part 0 true false
 | .rest=>part 0 false true
 | .sz k=>part k false false
def Pt.isName : Pt -> Bool
 | .nm=>true
 | _=>false
theorem Pt.cell_len (p : Pt) : p.cell.length = 3:=by cases p <;> rfl
theorem Pt.cell_plain (p : Pt) : plainL p.cell = true:=by cases p <;> rfl
def pc (p : Bs × Bool) : List Value:=[str p.1,.bool p.2]
theorem zJq (p : Bs × Bool) : (pc p).length = 2:=rfl
theorem zCx (p : Bs × Bool) : plainL (pc p) = true:=rfl
def Pt.cut (p : Pt) (l : Bs) : Option Nat :=
 match p with
 | .nm=>front l
 | .rest=>if texts l then some l.length else none
 | .sz k=>if k<=l.length then some k else none
def cuts : List Pt -> Bs -> Option (List (Bs × Bool) × Bs)
 | [],l=>some ([],l)
 | p :: ps,l=>match p.cut l with
  | none=>none
  | some n=>(cuts ps (l.drop n)).map fun x=>((l.take n,p.isName) :: x.1,x.2)
theorem zKd {l : Bs} {k : Nat} (h : front l = some k) : k<=l.length:=by
 unfold front at h
 split at h
 ·rename_i j hj
  have := zUy _ _ _ (aJ _) hj
  split at h
  ·cases h;omega
  cases h
 cases h
def spS (ps : List Pt) (x : Nat × List (Bs × Bool) × ByteArray) (f : Nat -> Option Value) : Fs :=
 match x with
 | (i,acc,s) =>
  match acc with
  | []=>⟨slots 7 [(1,.string s),(4,.pointer (some ⟨0,0,none⟩)),(5,.pointer (some ⟨1,0,none⟩)),(22,.slice (some ⟨2,0,none⟩) ps.length ps.length),(23,.int .i64 ps.length),(24,.int .i64 i)] f,
    heap 3 [(0,.cells [.slice none 0 0] 124),(1,.cells [.bool false] 4),(2,.cells (ps.flatMap Pt.cell) 138)],3,[],[.call 91 [.pointer (some ⟨0,0,none⟩),.pointer (some ⟨1,0,none⟩)] []]⟩
  | a :: l=>⟨slots 7 [(1,.string s),(4,.pointer (some ⟨0,0,none⟩)),(5,.pointer (some ⟨1,0,none⟩)),(22,.slice (some ⟨2,0,none⟩) ps.length ps.length),(23,.int .i64 ps.length),(24,.int .i64 i)] f,
    heap 3 [(0,.cells [.slice (some ⟨3,0,none⟩) (l.length + 1) U] 124),(1,.cells [.bool false] 4),(2,.cells (ps.flatMap Pt.cell) 138),(3,.cells ((a :: l).flatMap pc) 128)],4,[],[.call 91 [.pointer (some ⟨0,0,none⟩),.pointer (some ⟨1,0,none⟩)] []]⟩
end
section
open Go Go.RowKit
noncomputable def endS (tb : Tb Try.prog 0) (x : Ex) (s : Fs) : Res :=
 match modeOf x with
 | some u=>(match evOut Try.prog tb.go s.df u s.H s.n s.wr with
  | .ok none H n wr => (match zBc Try.prog { s with H } Try.f84.results.toList with | some vs => .ret (tupleOf vs) H n wr | none => .bad "" [])
  | _ => .bad "" [])
 | none => .bad "" []
def hOf (r : Res) : Tr AObj:=match r with | .ret _ H _ _=>H | _=>.e
def nOf (r : Res) : Nat:=match r with | .ret _ _ n _=>n | _=>0
def wOf (r : Res) : List Nat:=match r with | .ret _ _ _ wr=>wr | _=>[]
noncomputable def sEnd0 (f2 : Nat -> Option Value) : Fs:=⟨slots 7 [(4,.pointer (some ⟨0,0,none⟩)),(5,.pointer (some ⟨1,0,none⟩))] f2,heap 2 [(0,.cells [.slice none 0 0] 124),(1,.cells [.bool false] 4)],2,[],[.call 91 [.pointer (some ⟨0,0,none⟩),.pointer (some ⟨1,0,none⟩)] []]⟩
theorem zOr (tb : Tb Try.prog 0) (R : Res -> Prop) (f2 : Nat -> Option Value) : fnK tb Try.f84 R (.pan [(unfitV,false)]) (sEnd0 f2) = R (.ret (.tuple #[.slice none 0 0,.bool false]) (hOf (endS tb (.pan [(unfitV,false)]) (sEnd0 f2))) (nOf (endS tb (.pan [(unfitV,false)]) (sEnd0 f2))) (wOf (endS tb (.pan [(unfitV,false)]) (sEnd0 f2)))):=by kernel_rfl
noncomputable def sEnd1 (k : Nat) (f2 : Nat -> Option Value) : Fs:=⟨slots 7 [(4,.pointer (some ⟨0,0,none⟩)),(5,.pointer (some ⟨1,0,none⟩))] f2,heap 2 [(0,.cells [.slice (some ⟨2,0,none⟩) (k + 1) U] 124),(1,.cells [.bool false] 4)],3,[],[.call 91 [.pointer (some ⟨0,0,none⟩),.pointer (some ⟨1,0,none⟩)] []]⟩
theorem zOs (tb : Tb Try.prog 0) (R : Res -> Prop) (k : Nat) (f2 : Nat -> Option Value) : fnK tb Try.f84 R (.pan [(unfitV,false)]) (sEnd1 k f2) = R (.ret (.tuple #[.slice none 0 0,.bool false]) (hOf (endS tb (.pan [(unfitV,false)]) (sEnd1 k f2))) (nOf (endS tb (.pan [(unfitV,false)]) (sEnd1 k f2))) (wOf (endS tb (.pan [(unfitV,false)]) (sEnd1 k f2)))):=by kernel_rfl
noncomputable def sEnd2 (k : Nat) (b : Bool) (c : List Value) (f2 : Nat -> Option Value) : Fs:=⟨slots 7 [(4,.pointer (some ⟨0,0,none⟩)),(5,.pointer (some ⟨1,0,none⟩))] f2,heap 2 [(0,.cells [.slice (some ⟨2,0,none⟩) (k + 1) U] 124),(1,.cells [.bool b] 4),(2,.cells c 128)],3,[],[.call 91 [.pointer (some ⟨0,0,none⟩),.pointer (some ⟨1,0,none⟩)] []]⟩
theorem end_ret (tb : Tb Try.prog 0) (R : Res -> Prop) (k : Nat) (b : Bool) (c : List Value) (f2 : Nat -> Option Value) : fnK tb Try.f84 R .ret (sEnd2 k b c f2) = R (.ret (.tuple #[.slice (some ⟨2,0,none⟩) (k + 1) U,.bool b]) (hOf (endS tb .ret (sEnd2 k b c f2))) (nOf (endS tb .ret (sEnd2 k b c f2))) (wOf (endS tb .ret (sEnd2 k b c f2)))):=by kernel_rfl
theorem zTi (tb : Tb Try.prog 0) (k : Nat) (b : Bool) (c : List Value) (f2 : Nat -> Option Value) : (hOf (endS tb .ret (sEnd2 k b c f2))).get 2 = some (.cells c 128):=by kernel_rfl
end
section
open Go Go.RowKit
def zGe (t : Int) (ps : List Pt) (h : ∀ H n,partsGo t H n partsTab = partsOut ps.length (ps.flatMap Pt.cell) H n) : Ct Try.prog 0 where
 f:=89
 res l H n := match l with | [.int .i64 t'] => bif t' == t then partsOut ps.length (ps.flatMap Pt.cell) H n else .bad "type" [] | _ => .bad "arguments" []
 ok l H n:=by
  split
  ·rename_i t'
   cases hb : (t' == t) with
   | false=>trivial
   | true =>
    have hb : t' = t:=by simpa using hb
    subst hb
    have := zWk t' H n
    rw [h] at this
    exact this
  trivial
 ck l H n K:=match l with | [.int .i64 t']=>(t' == t) = true /\ K (partsOut ps.length (ps.flatMap Pt.cell) H n) | _=>False
 imp l H n K h:=by
  split at h
  ·obtain ⟨h1,h2⟩:=h
   simp only [h1,cT];exact h2
  exact h.elim
theorem zGn (s : ByteArray) (x : Int) (k : Nat) (h : x = k) : Value.string (subS s (Int.toNat 0) x.toNat) = str ((bs s).take k):=by
 subst h
 show _ = Value.string ⟨((bs s).take k).toArray⟩
 congr 1
theorem zCj (s : ByteArray) (x : Int) (k : Nat) (h : x = k) : bs (subS s x.toNat ((s.data.size : Int)).toNat) = (bs s).drop k:=by
 subst h
 rw [zVi,aO,aO,zAo,List.take_length]
theorem zQs (ps : List Pt) (i : Nat) (h : i < ps.length) (l : Bs) : cuts (ps.drop i) l = match ps[i].cut l with
  | none=>none
  | some n=>(cuts (ps.drop (i + 1)) (l.drop n)).map fun x=>((l.take n,ps[i].isName) :: x.1,x.2):=by
 rw [bD h];rfl
theorem zWw (t : Int) (ps : List Pt) (hps : 0 < ps.length) (hps2 : ps.length < 1000) (ht : ∀ H n,partsGo t H n partsTab = partsOut ps.length (ps.flatMap Pt.cell) H n) (s0 : ByteArray) (hs0 : (bs s0).length<=1000000000) :
  ∃ r,FnS Try.prog 0 84 [.int .i64 t,.string s0] .e 0 r /\ ∃ H m wr,
   (∃ out rest b,cuts ps (bs s0) = some (out,rest) /\ r = .ret (.tuple #[.slice (some ⟨b,0,none⟩) out.length U,.bool rest.isEmpty]) H m wr /\ H.get b = some (.cells (out.flatMap pc) 128) /\ b < JJ) \/
   (cuts ps (bs s0) = none /\ r = .ret (.tuple #[.slice none 0 0,.bool false]) H m wr):=by
 refine zVs mixed (tbOf mixed [zGe t ps ht,zOo,zOl]) [2,3] Try.func84 (c:=bodyOf Try.f84) (by kernel_rfl) ?_
 refine aI (by simp) ?_
 refine zPh (spS ps) (fun x=>ps.length - x.1) (fun x=>x.1<=ps.length /\ (bs x.2.2).length<=1000000000 /\ x.2.1.length = x.1 /\ cuts ps (bs s0) = (cuts (ps.drop x.1) (bs x.2.2)).map fun y=>(x.2.1++y.1,y.2)) (0,[],s0) ⟨aH _,hs0,rfl,by simp⟩
  (zAn [0,1,2] rfl rfl rfl (fun l e=>by cases e) (by decide) (by decide) rfl rfl (fun k hk h=>by omega) ⟨⟨_,rfl,.string _⟩,(sP rfl rfl),(sP rfl rfl),(sL rfl rfl),(sI rfl),(sI rfl),tv⟩
   ⟨bpo rfl,bpo rfl,bpo (zAb _ Pt.cell_plain ps),tv⟩ (.fn _ _ _ _ _ _ _ (.cons _ _ _ _ (.ptr _ _ _ rfl) (.cons _ _ _ _ (.ptr _ _ _ rfl) .nil)) .nil .nil)) ?_
 rintro ⟨i,acc,s⟩ f ⟨hi,hs,hacc,heq⟩
 have hi : i<=ps.length:=hi
 have hs : (bs s).length<=1000000000:=hs
 have hacc : acc.length = i:=hacc
 have heq : cuts ps (bs s0) = (cuts (ps.drop i) (bs s)).map fun y=>(acc++y.1,y.2):=heq
 have hsB : shortB s = true:=by unfold shortB;rw [zAo];exact bL hs
 have side : ∀ (h1 : i < ps.length),(0 + ((i : Nat) : Int).toNat * 3 + 3<=(ps.flatMap Pt.cell).length /\ List.take 3 (List.drop (0 + ((i : Nat) : Int).toNat * 3) (ps.flatMap Pt.cell)) = ps[i].cell):=fun h1=>by
  have := zHd Pt.cell 3 Pt.cell_len ps i h1
  rw [aO,aS];exact this
 cases acc with
 | nil =>
  refine zAq (tbOf mixed [zGe t ps ht,zOo,zOl]) [2] 0 _ none mixed _ _ _ ?_
  refine ifK (fun h1=>?_) (fun h1=>?_)
  ·have h1 : i < ps.length:=by have := oT h1;omega
   have hst:=zQs ps i h1 (bs s)
   have hsd:=side h1
   refine ifK (fun _=>?_) (fun h2=>ab h2 (by simp [inI];omega))
   cases hp : ps[i] with
   | nm =>
    rw [hp] at hst hsd
    refine eI 0 (eI true (eI false (aI hsd ?_)))
    refine aI hsB ?_
    refine ifK (fun h3=>?_) (fun h3=>?_)
    ·obtain ⟨k,hk⟩:=Option.isSome_iff_exists.1 h3
     have hcut : Pt.nm.cut (bs s) = some k:=hk
     have hkn : frontN (bs s) = k:=by simp [frontN,hk]
     have hkl:=zKd hk
     have hx : ((subS s 0 (frontN (bs s))).data.size : Int) = (k : Nat):=by rw [zAo,zVi,hkn];simp;omega
     refine aI (by kernel_rfl) ?_
     refine aI (by rw [hx];simp only [inLH,zAo,bA,dT] <;> omega) ?_
     refine aI (by rw [hx];simp only [inLH,zAo,bA,dT] <;> omega) ?_
     refine ⟨(i + 1,[]++[((bs s).take (k),true)],subS s (((subS s 0 (frontN (bs s))).data.size : Int)).toNat ((s.data.size : Int)).toNat),⟨h1,?_,?_,?_⟩,?_,?_⟩
     ·show (bs (subS s _ _)).length<=_;rw [zCj s _ _ hx];simp <;> omega
     ·simp only [aB,hacc];rfl
     ·show cuts ps (bs s0) = (cuts (ps.drop (i + 1)) (bs (subS s _ _))).map _;rw [zCj s _ _ hx,heq,hst,hcut];simp only [Option.map_map];exact congrArg (fun g=>Option.map g _) (funext fun y=>by simp [Pt.isName])
     ·show ps.length - (i + 1) < ps.length - i;omega
     refine zAn [0,1,2,5] rfl rfl rfl (fun l e=>by cases e) (by decide) (by decide) rfl rfl (fun k hk h=>by omega) ⟨⟨_,rfl,.string _⟩,(sP rfl rfl),(sP rfl rfl),(sL rfl rfl),(sI rfl),zAa rfl (by rw [wrapN (by omega) (by omega)];omega),tv⟩ ⟨⟨by decide,_,rfl,?_⟩,bpo rfl,bpo (zAb _ Pt.cell_plain ps),⟨by decide,_,rfl,?_⟩,tv⟩ (.fn _ _ _ _ _ _ _ (.cons _ _ _ _ (.ptr _ _ _ rfl) (.cons _ _ _ _ (.ptr _ _ _ rfl) .nil)) .nil .nil)
     ·exact zAw rfl
     refine zAs ?_ (zAb pc zCx _)
     show [Value.string (subS s (Int.toNat 0) (((subS s 0 (frontN (bs s))).data.size : Int)).toNat),.bool true] = _
     rw [zGn s _ _ hx];rfl
    have hcut : Pt.nm.cut (bs s) = none:=by have : (front (bs s)).isSome = false:=h3;simpa [Pt.cut] using this
    have hn : cuts ps (bs s0) = none:=by rw [heq,hst,hcut];rfl
    refine aI rfl (zAh (zAn [0,1] (d:=7) (d2:=2) (lv:=[(4,.pointer (some ⟨0,0,none⟩)),(5,.pointer (some ⟨1,0,none⟩))]) (bs:=[(0,.cells [.slice none 0 0] 124),(1,.cells [.bool false] 4)]) (W:=[]) (m:=2) (df:=[.call 91 [.pointer (some ⟨0,0,none⟩),.pointer (some ⟨1,0,none⟩)] []]) rfl rfl rfl (fun l e=>by cases e) (by decide) (by decide) rfl rfl (fun k hk h=>by omega) ⟨(sP rfl rfl),(sP rfl rfl),tv⟩ ⟨bpo rfl,bpo rfl,tv⟩ (.fn _ _ _ _ _ _ _ (.cons _ _ _ _ (.ptr _ _ _ rfl) (.cons _ _ _ _ (.ptr _ _ _ rfl) .nil)) .nil .nil)) (fun f2=>?_))
    refine Eq.mpr (zOr _ _ f2) ?_
    exact eI _ (eI _ (eI _ (Or.inr (aI hn rfl))))
   | rest =>
    rw [hp] at hst hsd
    refine eI 0 (eI false (eI true (aI hsd ?_)))
    refine aI hsB ?_
    refine ifK (fun h3=>?_) (fun h3=>?_)
    ·have hcut : Pt.rest.cut (bs s) = some (bs s).length:=by have h3 : texts (bs s) = true:=h3;simp [Pt.cut,h3]
     have hx : (s.data.size : Int) = ((bs s).length : Nat):=by rw [zAo]
     refine aI (by kernel_rfl) ?_
     refine aI (by rw [hx];simp only [inLH,zAo,bA,dT] <;> omega) ?_
     refine aI (by rw [hx];simp only [inLH,zAo,bA,dT] <;> omega) ?_
     refine ⟨(i + 1,[]++[((bs s).take ((bs s).length),false)],subS s ((s.data.size : Int)).toNat ((s.data.size : Int)).toNat),⟨h1,?_,?_,?_⟩,?_,?_⟩
     ·show (bs (subS s _ _)).length<=_;rw [zCj s _ _ hx];simp <;> omega
     ·simp only [aB,hacc];rfl
     ·show cuts ps (bs s0) = (cuts (ps.drop (i + 1)) (bs (subS s _ _))).map _;rw [zCj s _ _ hx,heq,hst,hcut];simp only [Option.map_map];exact congrArg (fun g=>Option.map g _) (funext fun y=>by simp [Pt.isName])
     ·show ps.length - (i + 1) < ps.length - i;omega
     refine zAn [0,1,2,5] rfl rfl rfl (fun l e=>by cases e) (by decide) (by decide) rfl rfl (fun k hk h=>by omega) ⟨⟨_,rfl,.string _⟩,(sP rfl rfl),(sP rfl rfl),(sL rfl rfl),(sI rfl),zAa rfl (by rw [wrapN (by omega) (by omega)];omega),tv⟩ ⟨⟨by decide,_,rfl,?_⟩,bpo rfl,bpo (zAb _ Pt.cell_plain ps),⟨by decide,_,rfl,?_⟩,tv⟩ (.fn _ _ _ _ _ _ _ (.cons _ _ _ _ (.ptr _ _ _ rfl) (.cons _ _ _ _ (.ptr _ _ _ rfl) .nil)) .nil .nil)
     ·exact zAw rfl
     refine zAs ?_ (zAb pc zCx _)
     show [Value.string (subS s (Int.toNat 0) ((s.data.size : Int)).toNat),.bool false] = _
     rw [zGn s _ _ hx];rfl
    have hcut : Pt.rest.cut (bs s) = none:=by have h3 : texts (bs s) = false:=h3;simp [Pt.cut,h3]
    have hn : cuts ps (bs s0) = none:=by rw [heq,hst,hcut];rfl
    refine aI rfl (zAh (zAn [0,1] (d:=7) (d2:=2) (lv:=[(4,.pointer (some ⟨0,0,none⟩)),(5,.pointer (some ⟨1,0,none⟩))]) (bs:=[(0,.cells [.slice none 0 0] 124),(1,.cells [.bool false] 4)]) (W:=[]) (m:=2) (df:=[.call 91 [.pointer (some ⟨0,0,none⟩),.pointer (some ⟨1,0,none⟩)] []]) rfl rfl rfl (fun l e=>by cases e) (by decide) (by decide) rfl rfl (fun k hk h=>by omega) ⟨(sP rfl rfl),(sP rfl rfl),tv⟩ ⟨bpo rfl,bpo rfl,tv⟩ (.fn _ _ _ _ _ _ _ (.cons _ _ _ _ (.ptr _ _ _ rfl) (.cons _ _ _ _ (.ptr _ _ _ rfl) .nil)) .nil .nil)) (fun f2=>?_))
    refine Eq.mpr (zOr _ _ f2) ?_
    exact eI _ (eI _ (eI _ (Or.inr (aI hn rfl))))
   | sz k =>
    rw [hp] at hst hsd
    refine eI (k : Int) (eI false (eI false (aI hsd ?_)))
    refine ifK (fun h3=>?_) (fun h3=>?_)
    ·have h3 : ¬ k<=(bs s).length:=by have := oT h3;rw [zAo] at this;omega
     have hcut : (Pt.sz k).cut (bs s) = none:=by simp [Pt.cut,h3]
     have hn : cuts ps (bs s0) = none:=by rw [heq,hst,hcut];rfl
     refine aI rfl (zAh (zAn [0,1] (d:=7) (d2:=2) (lv:=[(4,.pointer (some ⟨0,0,none⟩)),(5,.pointer (some ⟨1,0,none⟩))]) (bs:=[(0,.cells [.slice none 0 0] 124),(1,.cells [.bool false] 4)]) (W:=[]) (m:=2) (df:=[.call 91 [.pointer (some ⟨0,0,none⟩),.pointer (some ⟨1,0,none⟩)] []]) rfl rfl rfl (fun l e=>by cases e) (by decide) (by decide) rfl rfl (fun k hk h=>by omega) ⟨(sP rfl rfl),(sP rfl rfl),tv⟩ ⟨bpo rfl,bpo rfl,tv⟩ (.fn _ _ _ _ _ _ _ (.cons _ _ _ _ (.ptr _ _ _ rfl) (.cons _ _ _ _ (.ptr _ _ _ rfl) .nil)) .nil .nil)) (fun f2=>?_))
     refine Eq.mpr (zOr _ _ f2) ?_
     exact eI _ (eI _ (eI _ (Or.inr (aI hn rfl))))
    have h3 : k<=(bs s).length:=by have := oF h3;rw [zAo] at this;omega
    have hcut : (Pt.sz k).cut (bs s) = some k:=by simp [Pt.cut,h3]
    have hx : (k : Int) = (k : Nat):=rfl
    refine aI (by kernel_rfl) ?_
    refine aI (by rw [hx];simp only [inLH,zAo,bA,dT] <;> omega) ?_
    refine aI (by rw [hx];simp only [inLH,zAo,bA,dT] <;> omega) ?_
    refine ⟨(i + 1,[]++[((bs s).take (k),false)],subS s ((k : Int)).toNat ((s.data.size : Int)).toNat),⟨h1,?_,?_,?_⟩,?_,?_⟩
    ·show (bs (subS s _ _)).length<=_;rw [zCj s _ _ hx];simp <;> omega
    ·simp only [aB,hacc];rfl
    ·show cuts ps (bs s0) = (cuts (ps.drop (i + 1)) (bs (subS s _ _))).map _;rw [zCj s _ _ hx,heq,hst,hcut];simp only [Option.map_map];exact congrArg (fun g=>Option.map g _) (funext fun y=>by simp [Pt.isName])
    ·show ps.length - (i + 1) < ps.length - i;omega
    refine zAn [0,1,2,5] rfl rfl rfl (fun l e=>by cases e) (by decide) (by decide) rfl rfl (fun k hk h=>by omega) ⟨⟨_,rfl,.string _⟩,(sP rfl rfl),(sP rfl rfl),(sL rfl rfl),(sI rfl),zAa rfl (by rw [wrapN (by omega) (by omega)];omega),tv⟩ ⟨⟨by decide,_,rfl,?_⟩,bpo rfl,bpo (zAb _ Pt.cell_plain ps),⟨by decide,_,rfl,?_⟩,tv⟩ (.fn _ _ _ _ _ _ _ (.cons _ _ _ _ (.ptr _ _ _ rfl) (.cons _ _ _ _ (.ptr _ _ _ rfl) .nil)) .nil .nil)
    ·exact zAw rfl
    refine zAs ?_ (zAb pc zCx _)
    show [Value.string (subS s (Int.toNat 0) ((k : Int)).toNat),.bool false] = _
    rw [zGn s _ _ hx];rfl
  have h1 : ¬ i < ps.length:=by have := oF h1;omega
  exact ab hacc (by simp;omega)
 | cons a l =>
  refine zAq (tbOf mixed [zGe t ps ht,zOo,zOl]) [2,3] 0 _ none mixed _ _ _ ?_
  refine ifK (fun h1=>?_) (fun h1=>?_)
  ·have h1 : i < ps.length:=by have := oT h1;omega
   have hst:=zQs ps i h1 (bs s)
   have hsd:=side h1
   refine ifK (fun _=>?_) (fun h2=>ab h2 (by simp [inI];omega))
   cases hp : ps[i] with
   | nm =>
    rw [hp] at hst hsd
    refine eI 0 (eI true (eI false (aI hsd ?_)))
    refine aI hsB ?_
    refine ifK (fun h3=>?_) (fun h3=>?_)
    ·obtain ⟨k,hk⟩:=Option.isSome_iff_exists.1 h3
     have hcut : Pt.nm.cut (bs s) = some k:=hk
     have hkn : frontN (bs s) = k:=by simp [frontN,hk]
     have hkl:=zKd hk
     have hx : ((subS s 0 (frontN (bs s))).data.size : Int) = (k : Nat):=by rw [zAo,zVi,hkn];simp;omega
     refine aI (by kernel_rfl) ?_
     refine aI (by rw [hx];simp only [inLH,zAo,bA,dT] <;> omega) ?_
     refine aI (by rw [zAf pc 2 zJq];have hT : (Try.prog.types[128]).size = 2:=(by kernel_rfl);have hB : (Try.prog.types[128]).bytes = 24:=(by kernel_rfl);have hl : l.length + 1 = i:=hacc;simp [oneL,Value.oneCell',hT,hB];omega) ?_
     refine aI (by rw [hx];simp only [inLH,zAo,bA,dT] <;> omega) ?_
     refine ⟨(i + 1,(a :: l)++[((bs s).take (k),true)],subS s (((subS s 0 (frontN (bs s))).data.size : Int)).toNat ((s.data.size : Int)).toNat),⟨h1,?_,?_,?_⟩,?_,?_⟩
     ·show (bs (subS s _ _)).length<=_;rw [zCj s _ _ hx];simp <;> omega
     ·simp only [aB,hacc];rfl
     ·show cuts ps (bs s0) = (cuts (ps.drop (i + 1)) (bs (subS s _ _))).map _;rw [zCj s _ _ hx,heq,hst,hcut];simp only [Option.map_map];exact congrArg (fun g=>Option.map g _) (funext fun y=>by simp [Pt.isName])
     ·show ps.length - (i + 1) < ps.length - i;omega
     refine zAn [0,1,2,6] rfl rfl rfl (fun l e=>by cases e) (by decide) (by decide) rfl rfl (fun k hk h=>by omega) ⟨⟨_,rfl,.string _⟩,(sP rfl rfl),(sP rfl rfl),(sL rfl rfl),(sI rfl),zAa rfl (by rw [wrapN (by omega) (by omega)];omega),tv⟩ ⟨⟨by decide,_,rfl,?_⟩,bpo rfl,bpo (zAb _ Pt.cell_plain ps),⟨by decide,_,rfl,?_⟩,tv⟩ (.fn _ _ _ _ _ _ _ (.cons _ _ _ _ (.ptr _ _ _ rfl) (.cons _ _ _ _ (.ptr _ _ _ rfl) .nil)) .nil .nil)
     ·have : (l++[((bs s).take (k),true)]).length = l.length + 1:=by simp
      show RO _ _ _ (.cells [.slice _ ((l++[_]).length + 1) U] _)
      rw [this]
      exact zAw rfl
     refine zAs ?_ (zAb pc zCx _)
     show List.take ((l.length + 1) * 2) ((a :: l).flatMap pc)++[Value.string (subS s (Int.toNat 0) (((subS s 0 (frontN (bs s))).data.size : Int)).toNat),.bool true] = _
     rw [zGn s _ _ hx,aD (by rw [zAf pc 2 zJq];simp)]
     show _ = ((a :: l)++[_]).flatMap pc
     rw [zLh];rfl
    have hcut : Pt.nm.cut (bs s) = none:=by have : (front (bs s)).isSome = false:=h3;simpa [Pt.cut] using this
    have hn : cuts ps (bs s0) = none:=by rw [heq,hst,hcut];rfl
    refine aI rfl (zAh (zAn [0,1,3] (d:=7) (d2:=2) (lv:=[(4,.pointer (some ⟨0,0,none⟩)),(5,.pointer (some ⟨1,0,none⟩))]) (bs:=[(0,.cells [.slice (some ⟨2,0,none⟩) (l.length + 1) U] 124),(1,.cells [.bool false] 4)]) (W:=[]) (m:=3) (df:=[.call 91 [.pointer (some ⟨0,0,none⟩),.pointer (some ⟨1,0,none⟩)] []]) rfl rfl rfl (fun l e=>by cases e) (by decide) (by decide) rfl rfl (fun k hk h=>by omega) ⟨(sP rfl rfl),(sP rfl rfl),tv⟩ ⟨⟨by decide,_,rfl,zAw rfl⟩,bpo rfl,tv⟩ (.fn _ _ _ _ _ _ _ (.cons _ _ _ _ (.ptr _ _ _ rfl) (.cons _ _ _ _ (.ptr _ _ _ rfl) .nil)) .nil .nil)) (fun f2=>?_))
    refine Eq.mpr (zOs _ _ l.length f2) ?_
    exact eI _ (eI _ (eI _ (Or.inr (aI hn rfl))))
   | rest =>
    rw [hp] at hst hsd
    refine eI 0 (eI false (eI true (aI hsd ?_)))
    refine aI hsB ?_
    refine ifK (fun h3=>?_) (fun h3=>?_)
    ·have hcut : Pt.rest.cut (bs s) = some (bs s).length:=by have h3 : texts (bs s) = true:=h3;simp [Pt.cut,h3]
     have hx : (s.data.size : Int) = ((bs s).length : Nat):=by rw [zAo]
     refine aI (by kernel_rfl) ?_
     refine aI (by rw [hx];simp only [inLH,zAo,bA,dT] <;> omega) ?_
     refine aI (by rw [zAf pc 2 zJq];have hT : (Try.prog.types[128]).size = 2:=(by kernel_rfl);have hB : (Try.prog.types[128]).bytes = 24:=(by kernel_rfl);have hl : l.length + 1 = i:=hacc;simp [oneL,Value.oneCell',hT,hB];omega) ?_
     refine aI (by rw [hx];simp only [inLH,zAo,bA,dT] <;> omega) ?_
     refine ⟨(i + 1,(a :: l)++[((bs s).take ((bs s).length),false)],subS s ((s.data.size : Int)).toNat ((s.data.size : Int)).toNat),⟨h1,?_,?_,?_⟩,?_,?_⟩
     ·show (bs (subS s _ _)).length<=_;rw [zCj s _ _ hx];simp <;> omega
     ·simp only [aB,hacc];rfl
     ·show cuts ps (bs s0) = (cuts (ps.drop (i + 1)) (bs (subS s _ _))).map _;rw [zCj s _ _ hx,heq,hst,hcut];simp only [Option.map_map];exact congrArg (fun g=>Option.map g _) (funext fun y=>by simp [Pt.isName])
     ·show ps.length - (i + 1) < ps.length - i;omega
     refine zAn [0,1,2,6] rfl rfl rfl (fun l e=>by cases e) (by decide) (by decide) rfl rfl (fun k hk h=>by omega) ⟨⟨_,rfl,.string _⟩,(sP rfl rfl),(sP rfl rfl),(sL rfl rfl),(sI rfl),zAa rfl (by rw [wrapN (by omega) (by omega)];omega),tv⟩ ⟨⟨by decide,_,rfl,?_⟩,bpo rfl,bpo (zAb _ Pt.cell_plain ps),⟨by decide,_,rfl,?_⟩,tv⟩ (.fn _ _ _ _ _ _ _ (.cons _ _ _ _ (.ptr _ _ _ rfl) (.cons _ _ _ _ (.ptr _ _ _ rfl) .nil)) .nil .nil)
     ·have : (l++[((bs s).take ((bs s).length),false)]).length = l.length + 1:=by simp
      show RO _ _ _ (.cells [.slice _ ((l++[_]).length + 1) U] _)
      rw [this]
      exact zAw rfl
     refine zAs ?_ (zAb pc zCx _)
     show List.take ((l.length + 1) * 2) ((a :: l).flatMap pc)++[Value.string (subS s (Int.toNat 0) ((s.data.size : Int)).toNat),.bool false] = _
     rw [zGn s _ _ hx,aD (by rw [zAf pc 2 zJq];simp)]
     show _ = ((a :: l)++[_]).flatMap pc
     rw [zLh];rfl
    have hcut : Pt.rest.cut (bs s) = none:=by have h3 : texts (bs s) = false:=h3;simp [Pt.cut,h3]
    have hn : cuts ps (bs s0) = none:=by rw [heq,hst,hcut];rfl
    refine aI rfl (zAh (zAn [0,1,3] (d:=7) (d2:=2) (lv:=[(4,.pointer (some ⟨0,0,none⟩)),(5,.pointer (some ⟨1,0,none⟩))]) (bs:=[(0,.cells [.slice (some ⟨2,0,none⟩) (l.length + 1) U] 124),(1,.cells [.bool false] 4)]) (W:=[]) (m:=3) (df:=[.call 91 [.pointer (some ⟨0,0,none⟩),.pointer (some ⟨1,0,none⟩)] []]) rfl rfl rfl (fun l e=>by cases e) (by decide) (by decide) rfl rfl (fun k hk h=>by omega) ⟨(sP rfl rfl),(sP rfl rfl),tv⟩ ⟨⟨by decide,_,rfl,zAw rfl⟩,bpo rfl,tv⟩ (.fn _ _ _ _ _ _ _ (.cons _ _ _ _ (.ptr _ _ _ rfl) (.cons _ _ _ _ (.ptr _ _ _ rfl) .nil)) .nil .nil)) (fun f2=>?_))
    refine Eq.mpr (zOs _ _ l.length f2) ?_
    exact eI _ (eI _ (eI _ (Or.inr (aI hn rfl))))
   | sz k =>
    rw [hp] at hst hsd
    refine eI (k : Int) (eI false (eI false (aI hsd ?_)))
    refine ifK (fun h3=>?_) (fun h3=>?_)
    ·have h3 : ¬ k<=(bs s).length:=by have := oT h3;rw [zAo] at this;omega
     have hcut : (Pt.sz k).cut (bs s) = none:=by simp [Pt.cut,h3]
     have hn : cuts ps (bs s0) = none:=by rw [heq,hst,hcut];rfl
     refine aI rfl (zAh (zAn [0,1,3] (d:=7) (d2:=2) (lv:=[(4,.pointer (some ⟨0,0,none⟩)),(5,.pointer (some ⟨1,0,none⟩))]) (bs:=[(0,.cells [.slice (some ⟨2,0,none⟩) (l.length + 1) U] 124),(1,.cells [.bool false] 4)]) (W:=[]) (m:=3) (df:=[.call 91 [.pointer (some ⟨0,0,none⟩),.pointer (some ⟨1,0,none⟩)] []]) rfl rfl rfl (fun l e=>by cases e) (by decide) (by decide) rfl rfl (fun k hk h=>by omega) ⟨(sP rfl rfl),(sP rfl rfl),tv⟩ ⟨⟨by decide,_,rfl,zAw rfl⟩,bpo rfl,tv⟩ (.fn _ _ _ _ _ _ _ (.cons _ _ _ _ (.ptr _ _ _ rfl) (.cons _ _ _ _ (.ptr _ _ _ rfl) .nil)) .nil .nil)) (fun f2=>?_))
     refine Eq.mpr (zOs _ _ l.length f2) ?_
     exact eI _ (eI _ (eI _ (Or.inr (aI hn rfl))))
    have h3 : k<=(bs s).length:=by have := oF h3;rw [zAo] at this;omega
    have hcut : (Pt.sz k).cut (bs s) = some k:=by simp [Pt.cut,h3]
    have hx : (k : Int) = (k : Nat):=rfl
    refine aI (by kernel_rfl) ?_
    refine aI (by rw [hx];simp only [inLH,zAo,bA,dT] <;> omega) ?_
    refine aI (by rw [zAf pc 2 zJq];have hT : (Try.prog.types[128]).size = 2:=(by kernel_rfl);have hB : (Try.prog.types[128]).bytes = 24:=(by kernel_rfl);have hl : l.length + 1 = i:=hacc;simp [oneL,Value.oneCell',hT,hB];omega) ?_
    refine aI (by rw [hx];simp only [inLH,zAo,bA,dT] <;> omega) ?_
    refine ⟨(i + 1,(a :: l)++[((bs s).take (k),false)],subS s ((k : Int)).toNat ((s.data.size : Int)).toNat),⟨h1,?_,?_,?_⟩,?_,?_⟩
    ·show (bs (subS s _ _)).length<=_;rw [zCj s _ _ hx];simp <;> omega
    ·simp only [aB,hacc];rfl
    ·show cuts ps (bs s0) = (cuts (ps.drop (i + 1)) (bs (subS s _ _))).map _;rw [zCj s _ _ hx,heq,hst,hcut];simp only [Option.map_map];exact congrArg (fun g=>Option.map g _) (funext fun y=>by simp [Pt.isName])
    ·show ps.length - (i + 1) < ps.length - i;omega
    refine zAn [0,1,2,6] rfl rfl rfl (fun l e=>by cases e) (by decide) (by decide) rfl rfl (fun k hk h=>by omega) ⟨⟨_,rfl,.string _⟩,(sP rfl rfl),(sP rfl rfl),(sL rfl rfl),(sI rfl),zAa rfl (by rw [wrapN (by omega) (by omega)];omega),tv⟩ ⟨⟨by decide,_,rfl,?_⟩,bpo rfl,bpo (zAb _ Pt.cell_plain ps),⟨by decide,_,rfl,?_⟩,tv⟩ (.fn _ _ _ _ _ _ _ (.cons _ _ _ _ (.ptr _ _ _ rfl) (.cons _ _ _ _ (.ptr _ _ _ rfl) .nil)) .nil .nil)
    ·have : (l++[((bs s).take (k),false)]).length = l.length + 1:=by simp
     show RO _ _ _ (.cells [.slice _ ((l++[_]).length + 1) U] _)
     rw [this]
     exact zAw rfl
    refine zAs ?_ (zAb pc zCx _)
    show List.take ((l.length + 1) * 2) ((a :: l).flatMap pc)++[Value.string (subS s (Int.toNat 0) ((k : Int)).toNat),.bool false] = _
    rw [zGn s _ _ hx,aD (by rw [zAf pc 2 zJq];simp)]
    show _ = ((a :: l)++[_]).flatMap pc
    rw [zLh];rfl
  have h1 : ¬ i < ps.length:=by have := oF h1;omega
  have hc : cuts ps (bs s0) = some (a :: l,bs s):=by rw [heq,bE (by omega)];simp [cuts]
  refine aI rfl ?_
  refine (zAh (zAn [0,1,3] (d:=7) (d2:=2) (lv:=[(4,.pointer (some ⟨0,0,none⟩)),(5,.pointer (some ⟨1,0,none⟩))]) (bs:=[(0,.cells [.slice (some ⟨2,0,none⟩) (l.length + 1) U] 124),(1,.cells [.bool (s.data.toList == [])] 4),(2,.cells ((a :: l).flatMap pc) 128)]) (W:=[]) (m:=3) (df:=[.call 91 [.pointer (some ⟨0,0,none⟩),.pointer (some ⟨1,0,none⟩)] []]) rfl rfl rfl (fun l e=>by cases e) (by decide) (by decide) rfl rfl (fun k hk h=>by omega) ⟨(sP rfl rfl),(sP rfl rfl),tv⟩ ⟨⟨by decide,_,rfl,zAw rfl⟩,bpo rfl,bpo (zAb pc zCx _),tv⟩ (.fn _ _ _ _ _ _ _ (.cons _ _ _ _ (.ptr _ _ _ rfl) (.cons _ _ _ _ (.ptr _ _ _ rfl) .nil)) .nil .nil)) (fun f2=>?_))
  refine Eq.mpr (end_ret _ _ l.length (s.data.toList == []) ((a :: l).flatMap pc) f2) ?_
  have hem : (bs s).isEmpty = (s.data.toList == []):=by show _ = (bs s == []);cases bs s <;> rfl
  refine ⟨?zH,?zm,?zw,Or.inl ⟨a :: l,bs s,2,hc,?zg,?zh,by decide⟩⟩
  case zg=>rw [hem];exact rfl
  case zh=>exact zTi _ _ _ _ _
end
section
open Go Go.RowKit
end
section
open Go Go.RowKit
def ptsT (t : Int) : Option (List Pt) :=
 bif t == 1 then some [.sz 4] else bif t == 28 then some [.sz 16] else bif t == 2 then some [.nm] else bif t == 5 then some [.nm] else bif t == 12 then some [.nm] else bif t == 15 then some [.sz 2,.nm]
 else bif t == 6 then some [.nm,.nm,.sz 20] else bif t == 16 then some [.rest] else none
theorem zLw {t : Int} {ps : List Pt} (h : ptsT t = some ps) : 0 < ps.length /\ ps.length < 1000 /\ ∀ H n,partsGo t H n partsTab = partsOut ps.length (ps.flatMap Pt.cell) H n:=by
 unfold ptsT at h
 unfold partsTab
 simp only [partsGo]
 cases h1 : (t == 1) with
 | true=>rw [h1] at h;cases h;exact ⟨by decide,by decide,fun _ _=>rfl⟩
 | false =>
 cases h2 : (t == 28) with
 | true=>rw [h1,h2] at h;cases h;exact ⟨by decide,by decide,fun _ _=>rfl⟩
 | false =>
 cases h3 : (t == 2) with
 | true=>rw [h1,h2,h3] at h;cases h;exact ⟨by decide,by decide,fun _ _=>rfl⟩
 | false =>
 cases h4 : (t == 5) with
 | true=>rw [h1,h2,h3,h4] at h;cases h;exact ⟨by decide,by decide,fun _ _=>rfl⟩
 | false =>
 cases h5 : (t == 12) with
 | true=>rw [h1,h2,h3,h4,h5] at h;cases h;exact ⟨by decide,by decide,fun _ _=>rfl⟩
 | false =>
 cases h6 : (t == 15) with
 | true=>rw [h1,h2,h3,h4,h5,h6] at h;cases h;exact ⟨by decide,by decide,fun _ _=>rfl⟩
 | false =>
 cases h7 : (t == 6) with
 | true=>rw [h1,h2,h3,h4,h5,h6,h7] at h;cases h;exact ⟨by decide,by decide,fun _ _=>rfl⟩
 | false =>
 cases h8 : (t == 16) with
 | true=>rw [h1,h2,h3,h4,h5,h6,h7,h8] at h;cases h;exact ⟨by decide,by decide,fun _ _=>rfl⟩
 | false=>rw [h1,h2,h3,h4,h5,h6,h7,h8] at h;cases h
theorem zRp {t : Int} (h : ptsT t = none) : ∀ H n,partsGo t H n partsTab = .ret (.tuple #[.slice none 0 0,.bool false]) H n []:=by
 unfold ptsT at h
 unfold partsTab
 simp only [partsGo]
 cases h1 : (t == 1) with
 | true=>rw [h1] at h;cases h
 | false =>
 cases h2 : (t == 28) with
 | true=>rw [h1,h2] at h;cases h
 | false =>
 cases h3 : (t == 2) with
 | true=>rw [h1,h2,h3] at h;cases h
 | false =>
 cases h4 : (t == 5) with
 | true=>rw [h1,h2,h3,h4] at h;cases h
 | false =>
 cases h5 : (t == 12) with
 | true=>rw [h1,h2,h3,h4,h5] at h;cases h
 | false =>
 cases h6 : (t == 15) with
 | true=>rw [h1,h2,h3,h4,h5,h6] at h;cases h
 | false =>
 cases h7 : (t == 6) with
 | true=>rw [h1,h2,h3,h4,h5,h6,h7] at h;cases h
 | false =>
 cases h8 : (t == 16) with
 | true=>rw [h1,h2,h3,h4,h5,h6,h7,h8] at h;cases h
 | false=>exact fun _ _=>rfl
def zNc (t : Int) (h : ∀ H n,partsGo t H n partsTab = .ret (.tuple #[.slice none 0 0,.bool false]) H n []) : Ct Try.prog 0 where
 f:=89
 res l H n := match l with | [.int .i64 t'] => bif t' == t then .ret (.tuple #[.slice none 0 0, .bool false]) H n [] else .bad "type" [] | _ => .bad "arguments" []
 ok l H n:=by
  split
  ·rename_i t'
   cases hb : (t' == t) with
   | false=>trivial
   | true =>
    have hb : t' = t:=by simpa using hb
    subst hb
    have := zWk t' H n
    rw [h] at this
    exact this
  trivial
 ck l H n K:=match l with | [.int .i64 t']=>(t' == t) = true /\ K (.ret (.tuple #[.slice none 0 0,.bool false]) H n []) | _=>False
 imp l H n K h:=by
  split at h
  ·obtain ⟨h1,h2⟩:=h
   simp only [h1,cT];exact h2
  exact h.elim
theorem zYl (t : Int) (ht : ∀ H n,partsGo t H n partsTab = .ret (.tuple #[.slice none 0 0,.bool false]) H n []) (s : ByteArray) :
  ∃ r,FnS Try.prog 0 84 [.int .i64 t,.string s] .e 0 r /\ ∃ H m wr b,r = .ret (.tuple #[.slice (some ⟨b,0,none⟩) 1 1,.bool true]) H m wr /\ H.get b = some (.cells [.string s,.bool false] 128) /\ b < JJ:=by
 refine zBo mixed (tbOf mixed [zNc t ht]) [] Try.func84 (c:=bodyOf Try.f84) (by kernel_rfl) ?_
 refine aI (by simp) ?_
 exact ⟨_,_,_,_,rfl,rfl,by decide⟩
end
section
open Go Go.RowKit
def outT (t : Int) (l : Bs) : Option (List (Bs × Bool) × Bs):=match ptsT t with | some ps=>cuts ps l | none=>none
def outP (t : Int) (l : Bs) : List (Bs × Bool):=match outT t l with | some x=>x.1 | none=>[]
def outR (t : Int) (l : Bs) : Bs:=match outT t l with | some x=>x.2 | none=>[]
theorem zQn (t : Int) (s : ByteArray) (hs : (bs s).length<=1000000000) (H : Tr AObj) (n : Nat) :
  (ptsT t = none -> CallOK Try.prog 0 84 [.int .i64 t,.string s] H n (.ret (.tuple #[.slice (some ⟨n,0,none⟩) 1 1,.bool true]) (H.set n (some (.cells [.string s,.bool false] 128))) (n + 1) [])) /\
  ((ptsT t).isSome = true -> (outT t (bs s)).isSome = true -> CallOK Try.prog 0 84 [.int .i64 t,.string s] H n (.ret (.tuple #[.slice (some ⟨n,0,none⟩) (outP t (bs s)).length U,.bool (outR t (bs s)).isEmpty]) (H.set n (some (.cells ((outP t (bs s)).flatMap pc) 128))) (n + 1) [])) /\
  ((ptsT t).isSome = true -> (outT t (bs s)).isSome = false -> CallOK Try.prog 0 84 [.int .i64 t,.string s] H n (.ret (.tuple #[.slice none 0 0,.bool false]) H n [])):=by
 refine ⟨fun h=>?_,fun h1 h2=>?_,fun h1 h2=>?_⟩
 ·obtain ⟨r,hF,H',m,wr,b,rfl,hb,hJ⟩:=zYl t (zRp h) s
  exact zDi (fun n=>.tuple #[.slice (some ⟨n,0,none⟩) 1 1,.bool true]) hF rfl hb hJ rfl (fun n=>.tuple _ _ (.cons _ _ _ _ (.sl _ _ _ _ _ (zMj _ _)) (.cons _ _ _ _ (.bool _) .nil))) H n
 ·obtain ⟨ps,hp⟩:=Option.isSome_iff_exists.1 h1
  obtain ⟨p1,p2,p3⟩:=zLw hp
  obtain ⟨⟨out,rest⟩,ho⟩:=Option.isSome_iff_exists.1 h2
  have hc : cuts ps (bs s) = some (out,rest):=by unfold outT at ho;rw [hp] at ho;exact ho
  have e1 : outP t (bs s) = out:=by unfold outP;rw [ho]
  have e2 : outR t (bs s) = rest:=by unfold outR;rw [ho]
  obtain ⟨r,hF,H',m,wr,⟨out',rest',b,q1,rfl,q3,q4⟩ | ⟨q1,_⟩⟩:=zWw t ps p1 p2 p3 s hs
  ·rw [hc] at q1;cases q1
   rw [e1,e2]
   exact zDi (fun n=>.tuple #[.slice (some ⟨n,0,none⟩) out.length U,.bool rest.isEmpty]) hF rfl q3 q4 (zAb pc zCx _) (fun n=>.tuple _ _ (.cons _ _ _ _ (.sl _ _ _ _ _ (zMj _ _)) (.cons _ _ _ _ (.bool _) .nil))) H n
  rw [hc] at q1;cases q1
 obtain ⟨ps,hp⟩:=Option.isSome_iff_exists.1 h1
 obtain ⟨p1,p2,p3⟩:=zLw hp
 have hc : cuts ps (bs s) = none:=by unfold outT at h2;rw [hp] at h2;simpa using h2
 obtain ⟨r,hF,H',m,wr,⟨out',rest',b,q1,_⟩ | ⟨_,rfl⟩⟩:=zWw t ps p1 p2 p3 s hs
 ·rw [hc] at q1;cases q1
 exact zBl hF rfl rfl H n
def zVm : Ct Try.prog 0 where
 f:=84
 res l H n:=match l with
  | [.int .i64 t,.string s]=>bif shortB s then (bif (ptsT t).isSome then (bif (outT t (bs s)).isSome then .ret (.tuple #[.slice (some ⟨n,0,none⟩) (outP t (bs s)).length U,.bool (outR t (bs s)).isEmpty]) (H.set n (some (.cells ((outP t (bs s)).flatMap pc) 128))) (n + 1) [] else .ret (.tuple #[.slice none 0 0,.bool false]) H n [])
    else .ret (.tuple #[.slice (some ⟨n, 0, none⟩) 1 1, .bool true]) (H.set n (some (.cells [.string s, .bool false] 128))) (n + 1) []) else .bad "long" []
  | _ => .bad "arguments" []
 ok l H n:=by
  split
  ·rename_i t s
   cases hs : shortB s with
   | false=>trivial
   | true =>
    obtain ⟨c1,c2,c3⟩:=zQn t s (zFx hs) H n
    cases h1 : (ptsT t).isSome with
    | false=>exact c1 (by simpa using h1)
    | true =>
     cases h2 : (outT t (bs s)).isSome with
     | true=>exact c2 h1 h2
     | false=>exact c3 h1 h2
  trivial
 ck l H n K:=match l with
  | [.int .i64 t,.string s]=>shortB s = true /\ brK (ptsT t).isSome (brK (outT t (bs s)).isSome (K (.ret (.tuple #[.slice (some ⟨n,0,none⟩) (outP t (bs s)).length U,.bool (outR t (bs s)).isEmpty]) (H.set n (some (.cells ((outP t (bs s)).flatMap pc) 128))) (n + 1) [])) (K (.ret (.tuple #[.slice none 0 0,.bool false]) H n [])))
    (K (.ret (.tuple #[.slice (some ⟨n,0,none⟩) 1 1,.bool true]) (H.set n (some (.cells [.string s,.bool false] 128))) (n + 1) []))
  | _=>False
 imp l H n K h:=by
  split at h
  ·rename_i t s
   obtain ⟨h0,h⟩:=h
   simp only [h0,cT]
   cases h1 : (ptsT t).isSome with
   | false=>rw [h1] at h;exact h
   | true =>
    rw [h1] at h
    cases h2 : (outT t (bs s)).isSome with
    | true=>rw [h2] at h;exact h
    | false=>rw [h2] at h;exact h
  exact h.elim
def fitsD (t : Int) (l : Bs) : Bool:=bif (ptsT t).isSome then (outT t l).isSome&&(outR t l).isEmpty else true
def checkD (t : Int) (l : Bs) : Int:=if t < 0 \/ 65535 < t then 5 else if 65535 < l.length then 3 else if fitsD t l then 0 else 4
noncomputable def tbE2 : Tb Try.prog 0:=tbOf mixed [zVm]
theorem check_fn (t : Int) (s : ByteArray) (hs : (bs s).length<=1000000000) : ∃ r,FnS Try.prog 0 82 [.int .i64 t,.string s] .e 0 r /\ ∃ H m wr,r = .ret (.int .i64 (checkD t (bs s))) H m wr:=by
 have hsB : shortB s = true:=by unfold shortB;rw [zAo];exact bL hs
 refine zBo mixed tbE2 [] Try.func82 (c:=bodyOf Try.f82) (by kernel_rfl) ?_
 unfold checkD fitsD
 refine ifK (fun h1=>?_) (fun h1=>?_)
 ·rw [if_pos (.inl (oT h1))];exact ⟨_,_,_,rfl⟩
 have h1:=oF h1
 refine ifK (fun h2=>?_) (fun h2=>?_)
 ·rw [if_pos (.inr (oT h2))];exact ⟨_,_,_,rfl⟩
 have h2:=oF h2
 rw [if_neg (by omega)]
 refine ifK (fun h3=>?_) (fun h3=>?_)
 ·have h3:=oT h3
  rw [zAo] at h3
  rw [if_pos (by omega)];exact ⟨_,_,_,rfl⟩
 have h3:=oF h3
 rw [zAo] at h3
 rw [if_neg (by omega)]
 refine aI hsB ?_
 refine ifK (fun h4=>?_) (fun h4=>?_)
 ·rw [h4]
  refine ifK (fun h5=>?_) (fun h5=>?_)
  ·rw [h5]
   refine ifK (fun h6=>?_) (fun h6=>?_)
   ·rw [show (outR t (bs s)).isEmpty = false by simpa using h6];exact ⟨_,_,_,rfl⟩
   rw [show (outR t (bs s)).isEmpty = true by simpa using h6];exact ⟨_,_,_,rfl⟩
  rw [h5];exact ⟨_,_,_,rfl⟩
 rw [h4];exact ⟨_,_,_,rfl⟩
def Ct.intStr (f : FuncId) (out : Int -> ByteArray -> Value) (hp : ∀ t s,plainV 8 (out t s) = true) (ok : ∀ t s,(bs s).length<=1000000000 -> ∃ H m wr,FnS Try.prog 0 f [.int .i64 t,.string s] .e 0 (.ret (out t s) H m wr)) : Ct Try.prog 0 where
 f:=f
 res l H n := match l with | [.int .i64 t, .string s] => bif shortB s then .ret (out t s) H n [] else .bad "long" [] | _ => .bad "arguments" []
 ok l H n:=by
  split
  ·rename_i t s
   cases hs : shortB s with
   | false=>trivial
   | true=>obtain ⟨_,_,_,h⟩:=ok t s (zFx hs);exact zBl h rfl (hp t s) H n
  trivial
 ck l H n K:=match l with | [.int .i64 t,.string s]=>shortB s = true /\ K (.ret (out t s) H n []) | _=>False
 imp l H n K h:=by
  split at h
  ·obtain ⟨h1,h2⟩:=h
   simp only [h1,cT];exact h2
  exact h.elim
def zIr : Ct Try.prog 0:=Ct.intStr 82 (fun t s=>.int .i64 (checkD t (bs s))) (fun _ _=>rfl) (fun t s hs=>by
 obtain ⟨r,h,H,m,wr,rfl⟩:=check_fn t s hs
 exact ⟨H,m,wr,h⟩)
end
section
open Go Go.RowKit
theorem zGw (s t : ByteArray) : bs (catS s t) = bs s++bs t:=by simp [bs,catS]
theorem zXk (l : Bs) : bs ⟨l.toArray⟩ = l:=by simp [bs]
theorem zHq {s t : ByteArray} (h : (bs s).length + (bs t).length<=9000000000000000000) : catOk s t = true:=by
 unfold catOk
 rw [zAo,zAo];exact bL (by omega)
theorem zFw {s : ByteArray} (h : (bs s).length<=1000000000) : shortB s = true:=by unfold shortB;rw [zAo];exact bL h
def sumL (ps : List (Bs × Bool)) : Nat:=(ps.flatMap fun p=>p.1).length
theorem sumL_at (ps : List (Bs × Bool)) (i : Nat) (h : i < ps.length) : (ps[i].1).length<=sumL ps:=by
 unfold sumL
 have : ps[i] ∈ ps:=aV h
 revert this
 generalize ps[i] = p
 intro hm
 induction ps with
 | nil=>cases hm
 | cons q r ih =>
  rw [List.flatMap_cons,aB]
  rcases aK.1 hm with e | e
  ·rw [e];omega
  by_cases hr : r = []
  ·subst hr;cases e
  have : ∀ (l : List (Bs × Bool)),p ∈ l -> p.1.length<=(l.flatMap fun p=>p.1).length:=by
   intro l hl
   induction l with
   | nil=>cases hl
   | cons x y ihy =>
    rw [List.flatMap_cons,aB]
    rcases aK.1 hl with e2 | e2
    ·rw [e2];omega
    have := ihy e2;omega
  have := this r e;omega
theorem str_mk (s : ByteArray) : Value.string s = str (bs s):=by simp [str,bs]
theorem zOp : ∀ (ps : List Pt) (l : Bs) (o : List (Bs × Bool)) (r : Bs),cuts ps l = some (o,r) -> o.length = ps.length /\ (o.flatMap fun p=>p.1)++r = l
 | [],l,o,r,h=>by simp only [cuts,aP,Prod.mk.injEq] at h;obtain ⟨rfl,rfl⟩:=h;simp
 | p :: ps,l,o,r,h=>by
  simp only [cuts] at h
  cases hc : p.cut l with
  | none=>rw [hc] at h;cases h
  | some n =>
   rw [hc] at h
   simp only [] at h
   obtain ⟨⟨o',r'⟩,h1,h2⟩:=Option.map_eq_some_iff.1 h
   simp only [Prod.mk.injEq] at h2
   obtain ⟨rfl,rfl⟩:=h2
   obtain ⟨e1,e2⟩:=zOp ps _ _ _ h1
   refine ⟨by simp [e1],?_⟩
   rw [List.flatMap_cons,aN,e2];simp
end
section
open Go Go.RowKit
theorem zGd {t : Int} {l : Bs} (h : checkD t l = 0) : 0<=t /\ t<=65535 /\ l.length<=65535 /\ fitsD t l = true:=by
 unfold checkD at h
 split at h
 ·cases h
 split at h
 ·cases h
 split at h
 ·rename_i h1 h2 h3
  exact ⟨by omega,by omega,by omega,h3⟩
 cases h
theorem zOx {t : Int} {ps : List Pt} {l : Bs} (hp : ptsT t = some ps) (h : fitsD t l = true) : ∃ o,cuts ps l = some (o,[]) /\ outT t l = some (o,[]):=by
 unfold fitsD at h
 rw [hp] at h
 simp only [Option.isSome_some,cT,bA] at h
 obtain ⟨⟨o,r⟩,ho⟩:=Option.isSome_iff_exists.1 h.1
 have hr : r = []:=by
  have := h.2
  unfold outR at this
  rw [ho] at this
  simpa using this
 subst hr
 refine ⟨o,?_,ho⟩
 unfold outT at ho
 rw [hp] at ho;exact ho
end
section
open Go Go.RowKit
end
section
open Go Go.RowKit
end
section
open Go Go.RowKit
end
section
open Go Go.RowKit
theorem front_len {l : Bs} {k : Nat} (h : front l = some k) : k<=255:=by
 have hle:=zKd h
 unfold front at h
 split at h
 ·rename_i j hj
  split at h
  ·rename_i hl
   cases h
   have := zNl hl
   rw [aU] at this;omega
  cases h
 cases h
def Pt.small : Pt -> Bool
 | .nm=>true
 | .rest=>false
 | .sz k=>k.ble 255
end
section
open Go Go.RowKit
def zs (x : Int × Bs) : Value:=str x.2
theorem zLv {t : Int} {ps : List Pt} (h : ptsT t = some ps) : (0<=t /\ t<=65535) /\ ((ps.all Pt.small = true /\ ps.length<=3) \/ ps = [.rest]):=by
 unfold ptsT at h
 by_cases h1 : t = 1
 ·subst h1;cases h;exact ⟨by decide,.inl ⟨rfl,by decide⟩⟩
 by_cases h2 : t = 28
 ·subst h2;cases h;exact ⟨by decide,.inl ⟨rfl,by decide⟩⟩
 by_cases h3 : t = 2
 ·subst h3;cases h;exact ⟨by decide,.inl ⟨rfl,by decide⟩⟩
 by_cases h4 : t = 5
 ·subst h4;cases h;exact ⟨by decide,.inl ⟨rfl,by decide⟩⟩
 by_cases h5 : t = 12
 ·subst h5;cases h;exact ⟨by decide,.inl ⟨rfl,by decide⟩⟩
 by_cases h6 : t = 15
 ·subst h6;cases h;exact ⟨by decide,.inl ⟨rfl,by decide⟩⟩
 by_cases h7 : t = 6
 ·subst h7;cases h;exact ⟨by decide,.inl ⟨rfl,by decide⟩⟩
 by_cases h8 : t = 16
 ·subst h8;cases h;exact ⟨by decide,.inr rfl⟩
 exfalso
 rw [show (t == 1) = false by simpa using h1,show (t == 28) = false by simpa using h2,show (t == 2) = false by simpa using h3,show (t == 5) = false by simpa using h4,show (t == 12) = false by simpa using h5,show (t == 15) = false by simpa using h6,show (t == 6) = false by simpa using h7,show (t == 16) = false by simpa using h8] at h
 cases h
end
section
open Go Go.RowKit
end
section
open Go Go.RowKit
noncomputable def tbR1 : Tb Try.prog 0:=tbOf mixed []
def numB (n m : Int) : Bool:=decide (0<=n /\ n<=m)
theorem number_fn (n m : Int) : ∃ r,FnS Try.prog 0 69 [.int .i64 n,.int .i64 m] .e 0 r /\ ∃ H k wr,r = .ret (.bool (numB n m)) H k wr:=by
 refine zBo mixed tbR1 [] Try.func69 (c:=bodyOf Try.f69) (by kernel_rfl) ?_
 unfold numB
 refine ifK (fun h1=>?_) (fun h1=>?_)
 ·have h1:=oT h1
  rw [show decide (0<=n /\ n<=m) = decide (n<=m) by rw [decide_eq_decide];exact ⟨fun h=>h.2,fun h=>⟨h1,h⟩⟩]
  exact ⟨_,_,_,rfl⟩
 have h1:=oF h1
 rw [show decide (0<=n /\ n<=m) = false by rw [decide_eq_false_iff_not];exact fun h=>h1 h.1]
 exact ⟨_,_,_,rfl⟩
def Ct.sh {X : Type} (f : FuncId) (mt : List Value -> Option X) (args : X -> List Value) (hm : ∀ l x,mt l = some x -> l = args x) (pre : X -> Bool) (out : X -> Value) (ha : ∀ x,plainL (args x) = true) (hp : ∀ x,plainV 8 (out x) = true) (ok : ∀ x,pre x = true -> ∃ H m wr,FnS Try.prog 0 f (args x) .e 0 (.ret (out x) H m wr)) : Ct Try.prog 0 where
 f:=f
 res l H n := match mt l with | some x => bif pre x then .ret (out x) H n [] else .bad "not such" [] | none => .bad "arguments" []
 ok l H n:=by
  cases h : mt l with
  | none=>trivial
  | some x =>
   cases hx : pre x with
   | false=>simp only [hx];trivial
   | true =>
    simp only [hx,cT]
    rw [hm l x h]
    obtain ⟨_,_,_,hF⟩:=ok x hx
    exact zBl hF (ha x) (hp x) H n
 ck l H n K:=match mt l with | some x=>pre x = true /\ K (.ret (out x) H n []) | none=>False
 imp l H n K h:=by
  cases hm : mt l with
  | none=>rw [hm] at h;exact h.elim
  | some x =>
   rw [hm] at h
   obtain ⟨h1,h2⟩:=h
   simp only [h1,cT];exact h2
def mtI2 : List Value -> Option (Int × Int) | [.int .i64 a,.int .i64 b]=>some (a,b) | _=>none
def Ct.i2 (f : FuncId) (out : Int -> Int -> Value) (hp : ∀ x y,plainV 8 (out x y) = true) (ok : ∀ x y,∃ H m wr,FnS Try.prog 0 f [.int .i64 x,.int .i64 y] .e 0 (.ret (out x y) H m wr)) : Ct Try.prog 0 where
 f:=f
 res l H n := match l with | [.int .i64 x, .int .i64 y] => .ret (out x y) H n [] | _ => .bad "arguments" []
 ok l H n:=by
  split
  ·rename_i x y
   obtain ⟨_,_,_,h⟩:=ok x y
   exact zBl h rfl (hp x y) H n
  trivial
 ck l H n K:=match l with | [.int .i64 x,.int .i64 y]=>K (.ret (out x y) H n []) | _=>False
 imp l H n K h:=by
  split at h
  ·exact h
  exact h.elim
def zQq : Ct Try.prog 0:=Ct.i2 69 (fun x y=>.bool (numB x y)) (fun _ _=>rfl) (fun x y=>by obtain ⟨r,h,H,m,wr,rfl⟩:=number_fn x y;exact ⟨H,m,wr,h⟩)
structure RcX where
 n : ByteArray
 t : Int
 c : Int
 ttl : Int
 d : ByteArray
def RcX.v (x : RcX) : Value:=.agg #[.string x.n,.int .i64 x.t,.int .i64 x.c,.int .i64 x.ttl,.string x.d]
def RcX.ok (x : RcX) : Bool:=x.n.data.size.ble 100000000&&x.d.data.size.ble 100000000
noncomputable def tbR2 : Tb Try.prog 0:=tbOf mixed [zQq,zHs,zIr]
end
section
open Go Go.RowKit
def mtR : List Value -> Option RcX
 | [.agg ⟨[.string n,.int .i64 t,.int .i64 c,.int .i64 ttl,.string d]⟩]=>some ⟨n,t,c,ttl,d⟩
 | _=>none
theorem mtR_ok (l : List Value) (x : RcX) (h : mtR l = some x) : l = [x.v]:=by
 unfold mtR at h;split at h <;> cases h;rfl
theorem RcX.ok1 {x : RcX} (h : x.ok = true) : (bs x.n).length<=100000000 /\ (bs x.d).length<=100000000:=by
 unfold RcX.ok at h
 simp only [bA] at h
 rw [<- zAo,<- zAo]
 exact ⟨aE h.1,aE h.2⟩
def recC (x : RcX) : Int:=if (labels (bs x.n)).2 ≠ 0 then (labels (bs x.n)).2 else if numB x.t 65535&&numB x.c 65535&&numB x.ttl 2147483647 then checkD x.t (bs x.d) else 5
theorem zYg (x : RcX) (hx : x.ok = true) : ∃ r,FnS Try.prog 0 67 [x.v] .e 0 r /\ ∃ H k wr,r = .ret (.int .i64 (recC x)) H k wr:=by
 obtain ⟨hn,hd⟩:=RcX.ok1 hx
 refine zBo mixed tbR2 [] Try.func67 (c:=bodyOf Try.f67) (by kernel_rfl) ?_
 unfold recC
 refine aI (zFw (by omega)) ?_
 refine ifK (fun h1=>?_) (fun h1=>?_)
 ·rw [if_pos (by simpa using h1)];exact ⟨_,_,_,rfl⟩
 rw [if_neg (by simpa using h1)]
 refine ifK (fun h2=>?_) (fun h2=>?_)
 ·rw [show numB x.t 65535 = false by simpa using h2];exact ⟨_,_,_,rfl⟩
 rw [show numB x.t 65535 = true by simpa using h2]
 refine ifK (fun h3=>?_) (fun h3=>?_)
 ·rw [show numB x.c 65535 = false by simpa using h3];exact ⟨_,_,_,rfl⟩
 rw [show numB x.c 65535 = true by simpa using h3]
 refine ifK (fun h4=>?_) (fun h4=>?_)
 ·rw [show numB x.ttl 2147483647 = false by simpa using h4];exact ⟨_,_,_,rfl⟩
 rw [show numB x.ttl 2147483647 = true by simpa using h4]
 refine aI (zFw (by omega)) ?_
 exact ⟨_,_,_,rfl⟩
def zKy : Ct Try.prog 0:=Ct.sh 67 mtR (fun x=>[x.v]) mtR_ok RcX.ok (fun x=>.int .i64 (recC x)) (fun _=>rfl) (fun _=>rfl) (fun x hx=>by obtain ⟨r,h,H,m,wr,rfl⟩:=zYg x hx;exact ⟨H,m,wr,h⟩)
end
section
open Go Go.RowKit
theorem zFt {x : RcX} (h : recC x = 0) : (labels (bs x.n)).2 = 0 /\ numB x.t 65535 = true /\ numB x.c 65535 = true /\ numB x.ttl 2147483647 = true /\ checkD x.t (bs x.d) = 0:=by
 unfold recC at h
 split at h
 ·rename_i h1;exact ab h h1
 rename_i h1
 split at h
 ·rename_i h2
  simp only [bA] at h2
  exact ⟨by simpa using h1,h2.1.1,h2.1.2,h2.2,h⟩
 cases h
def RcX.g (x : RcX) : List Value:=[.string x.n,.int .i64 x.t,.int .i64 x.c,.int .i64 x.ttl,.string x.d]
def layR : Lay RcX where
 g:=RcX.g
 k:=5
 t:=48
 len _:=rfl
 pos:=by decide
 plain _:=rfl
 inj x y h:=by
  obtain ⟨n,t,c,l,d⟩:=x
  obtain ⟨n',t',c',l',d'⟩:=y
  simp only [RcX.g,aQ,Value.string.injEq,Value.int.injEq,true_and,and_true] at h
  obtain ⟨rfl,rfl,rfl,rfl,rfl⟩:=h;rfl
def bigR (n : Int) (x : RcX) : Bool:=decide ((x.n.data.size : Int) > n) || decide ((x.d.data.size : Int) > n)
end
section
open Go Go.RowKit
end
section
open Go Go.RowKit
deriving instance DecidableEq for RcX
structure QuX where
 n : ByteArray
 t : Int
 c : Int
 deriving DecidableEq
def QuX.g (x : QuX) : List Value:=[.string x.n,.int .i64 x.t,.int .i64 x.c]
def layQ : Lay QuX where
 g:=QuX.g
 k:=3
 t:=57
 len _:=rfl
 pos:=by decide
 plain _:=rfl
 inj x y h:=by
  obtain ⟨n,t,c⟩:=x
  obtain ⟨n',t',c'⟩:=y
  simp only [QuX.g,aQ,Value.string.injEq,Value.int.injEq,true_and,and_true] at h
  obtain ⟨rfl,rfl,rfl⟩:=h;rfl
theorem struct_q : structOk Try.prog 57 = true:=by kernel_rfl
theorem struct_r : structOk Try.prog 48 = true:=by kernel_rfl
def bigQ (y : Int) (x : QuX) : Bool:=decide ((x.n.data.size : Int) > y)
end
section
open Go Go.RowKit Go.Shelf
attribute [local go_sem] Oper.semAt_some
theorem eall_in (n : Nat) (lv bn : Nat) (l : List RcX) (J : Nat -> World -> Prop) (Jx : World -> Prop) (p : Option Addr) (c : Nat) (hll : l.length<=4611686018427387903)
  (hRp : l ≠ [] -> ∃ b o,p = some ⟨b,o,none⟩ /\ ∀ i W,J i W -> ∀ k (_ : k < l.length) j u,l[k].g[j]? = some u -> W.cell? ⟨b,o + k * 5 + j,none⟩ = some u)
  (hJ : ∀ i W W',J i W -> W.grownBy W' none -> J i W')
  (hS : ∀ i (h : i < l.length) W,J i W -> l[i].t ≠ 41 -> J (i + 1) W)
  (hY : ∀ i (h : i < l.length) W,J i W -> l[i].t = 41 -> YieldAt Fence.wide (n - 1) Try.prog lv #[.int .i64 (i : Int),.agg #[.string l[i].n,.int .i64 l[i].t,.int .i64 l[i].c,.int .i64 l[i].ttl,.string l[i].d]] W fun e W' =>
   (e = .returned (.bool true) /\ J (i + 1) W') \/ (e = .returned (.bool false) /\ Jx W'))
  (W : World) (hv : W.cell? ⟨bn,0,none⟩ = some (.slice p l.length c)) (h0 : J 0 W) : CallsIn Fence.wide n Try.prog 61 (#[.func (.yield lv) #[] #[]]++#[.pointer (some ⟨bn,0,none⟩)]) W fun e W'=>(∃ v,e = .returned v) /\ (J l.length W' \/ Jx W'):=by
 refine callsIn_of_wp Try.func61 rfl trivial ?_ rfl
 simp only [Try.ntmps61,List.size_toArray,aC,List.length_nil,Nat.reduceAdd,Nat.reduceSub,Array.replicate_succ,Array.replicate_zero,List.push_toArray,List.append_toArray,List.nil_append,bC]
 gi_wp2
 gi_loopw [7] (fun i wr=>∃ k : Nat,k<=l.length /\ i = .int .i64 k /\ J k wr) (fun i _=>l.length - (intOf i).toNat)
 case atStart=>exact ⟨0,aH _,rfl,h0⟩
 case round =>
  obtain ⟨k,hk,rfl,hJk⟩:=hrel
  by_cases hlt : k < l.length
  ·obtain ⟨b,o,rfl,hR⟩:=hRp (fun e=>by rw [e] at hlt;exact ab hlt (by simp))
   have hc:=fun j u h=>hR k wr hJk k hlt j u h
   have hSk:=hS k hlt
   have hYk:=hY k hlt
   generalize l[k] = x at hc hSk hYk
   obtain ⟨xn,xt,xc,xw,xd⟩:=x
   have c0:=hc 0 _ rfl
   have c1:=hc 1 _ rfl
   have c2:=hc 2 _ rfl
   have c3:=hc 3 _ rfl
   have c4:=hc 4 _ rfl
   simp only [Nat.add_zero] at c0
   clear hc hR hRp hS hY
   by_cases hx : xt = 41
   ·have hq : (xt == 41) = true:=by simp [hx]
    have HX:=Lib.hid hx
    clear hx
    have hJa:=fun o=>hJ k wr (wr.alloc o) hJk (World.grownBy_alloc wr o none)
    gi_wp2
    obtain ⟨fn,tmps,assign,body,hy,hRd⟩:=hYk _ (hJa (.cells #[.string xn,.int .i64 xt,.int .i64 xc,.int .i64 xw,.string xd] 48)) HX.out
    rw [hy]
    gi_wp2
    refine ⟨(fun h=>by cases h),hRd.mono ?_⟩
    rintro e W3 (⟨rfl,hr⟩ | ⟨rfl,hr⟩)
    ·gi_wp2
     go_roundw
     case rel=>exact ⟨k + 1,by omega,by go_num,hr⟩
     case measure=>simp [intOf];omega
    gi_wp2
    refine bodyPost_ret (results_none rfl _ _ _) rfl ?_
    exact ⟨⟨_,rfl⟩,.inr hr⟩
   have hq : (xt == 41) = false:=by simp [hx]
   have HX:=Lib.hid hx
   clear hx
   gi_wp2
   refine ⟨nofun,?_⟩
   gi_wp2
   go_roundw
   case rel=>exact ⟨k + 1,by omega,by go_num,hSk _ (hJ k wr _ hJk (World.grownBy_alloc wr _ none)) HX.out⟩
   case measure=>simp [intOf];omega
  gi_wp2
  refine bodyPost_end (results_none rfl _ _ _) rfl ⟨⟨_,rfl⟩,.inl ?_⟩
  rw [show l.length = k by omega];exact hJk
end
section
open Go Go.RowKit
theorem KpV.mono {k k' : Nat} {v : Value} (h : KpV k v) (hk : k<=k') : KpV k' v:=fun E E' x ha=>h E E' x ⟨fun i hi=>ha.nm i (by omega),ha.fz⟩
theorem zWb {k : Nat} : KpV k undef:=KpV.plain (n:=2) rfl
theorem zIh {k d : Nat} {lv : List (Nat × Value)} {g : Nat -> Option Value} (h1 : ∀ p ∈ lv,KpV k p.2) (h2 : ∀ t,KpV k ((g t).getD undef)) (t : Nat) : KpV k (((slots d lv g).get t).getD undef):=by
 unfold slots
 rw [zDo]
 split
 ·rcases zEr (0 + 1 * t) (g (0 + 1 * t)) lv with ⟨v,hv,e⟩ | e
  ·rw [e];exact h1 _ hv
  rw [e];exact h2 _
 exact zWb
theorem rc_blur {P : Program} {g0 k0 nt d : Nat} {rd : Option Nat} {lv : List (Nat × Value)} {f : Nat -> Option Value} {H : Tr AObj} {n : Nat} {W : List Nat} {df : List ADf} (hk : k0<=n) :
  ∃ g,(∀ t,KpV 0 ((g t).getD undef)) /\ RcM P g0 k0 nt rd ⟨slots d lv f,H,n,W,df⟩ ⟨slots d lv g,H,n,W,df⟩:=by
 refine ⟨fun t=>(f t).map fun v=>Classical.choose (zIp v),fun t=>?_,hk,.refl _ _,fun E a w hf=>⟨E,⟨⟨hf.tr.1,fun t=>?_⟩,hf.hr,hf.lw,hf.df,hf.gl,hf.rd,hf.top⟩,.refl _ _ _ _⟩⟩
 ·show KpV 0 (((f t).map fun v=>Classical.choose (zIp v)).getD undef)
  cases f t with
  | none=>exact zWb
  | some v=>exact (Classical.choose_spec (zIp v)).1
 have h : VR E (((slots d lv f).get t).getD undef) (a.tmps.getD t undef):=hf.tr.2 t
 show VR E (((slots d lv _).get t).getD undef) (a.tmps.getD t undef)
 generalize a.tmps.getD t undef = z at h ⊢
 unfold slots at h ⊢
 rw [zDo] at h ⊢
 split at h
 ·rename_i ht
  rw [if_pos ht]
  generalize 0 + 1 * t = j at h ⊢
  clear ht hf
  induction lv with
  | nil =>
   simp only [lkp] at h ⊢
   cases hv : f j with
   | none=>rw [hv] at h;exact h
   | some v=>rw [hv] at h;exact (Classical.choose_spec (zIp v)).2 E z h
  | cons p l ih =>
   obtain ⟨i,v⟩:=p
   simp only [lkp] at h ⊢
   cases hb : i.beq j with
   | true=>rw [hb] at h;exact h
   | false=>rw [hb] at h;exact ih h
 rename_i ht
 rw [if_neg ht];exact h
def recV (x : RcX) : Value:=.agg #[.string x.n,.int .i64 x.t,.int .i64 x.c,.int .i64 x.ttl,.string x.d]
def RoundS (P : Program) (k1 nt lp : Nat) (asg body : Code) (T0 : Tr Value) (ps : Array Tmp) (V : List Nat) (i : Nat) (x : RcX) (H : Tr AObj) (n : Nat) (ex : Ex) (H' : Tr AObj) (n' : Nat) : Prop :=
 ∃ T,zipSet nt (ps.toList.zip [.int .i64 (i : Int),recV x]) T0 = some T /\
  CW P 0 k1 nt (some lp) asg ⟨T,H,n,V,[]⟩ (fun x1 s1=>x1 = .normal /\ zFo s1.H /\
   CW P 0 k1 nt (some lp) body s1 (fun x2 s2=>x2 = ex /\ ∃ T',RcM P 0 k1 nt (some lp) s2 ⟨T',H',n',V,[]⟩))
def jumpC : Ex -> Option Code
 | .ret=>some .ret
 | .exit id=>some (.exit id)
 | _=>none
structure RgJ (k1 lp L : Nat) (V : List Nat) (E0 : Env) (w0 : World) (R : Loop) (H : Tr AObj) (n : Nat) (E : Env) (w : World) : Prop where
 fh : FH Try.prog 0 E H n w
 kp : Kept k1 (lp :: V) E0 E w0 w
 tn : ∀ i,Tch k1 V E i -> E.ρ i ≠ L
 rc : w.heap[L]? = some (.loop R)
 fl : E.fz L = none
theorem zWr {k1 nt lp L i : Nat} {asg body : Code} {T0 : Tr Value} {ps : Array Tmp} {V : List Nat} {x : RcX} {H H' : Tr AObj} {n n' : Nat} {ex : Ex} {R : Loop} {E0 E : Env} {w0 W : World}
  (hr : RoundS Try.prog k1 nt lp asg body T0 ps V i x H n ex H' n') (hps : ps.size = 2) (hlp : lp < k1) (hlV : lp ∉ V) (hJJ : k1<=JJ) (hn : k1<=n) (hx : ex = .normal \/ ∃ c,jumpC ex = some c) (hnl' : zFo H')
  (hR : R.state = .ready /\ R.params = ps /\ R.assign = asg /\ R.body = body) (hT0 : ∀ t,KpV k1 ((T0.get t).getD undef)) (hTR : TR E0 T0 nt R.tmps) (hd0 : E0.dom lp /\ E0.ρ lp = L /\ ¬ E0.ro lp)
  (hJ : RgJ k1 lp L V E0 w0 R H n E W) :
  YieldAt Fence.wide 0 Try.prog L #[.int .i64 (i : Int),recV x] W fun e W'=>e = .returned (.bool (jumpC ex).isNone) /\ ∃ E',RgJ k1 lp L V E0 w0 { R with state:=if (jumpC ex).isNone then .ready else .done,pending:=jumpC ex } H' n' E' W':=by
 obtain ⟨fh,kp,tn,rc,fl⟩:=hJ
 obtain ⟨T,hz,hcw⟩:=hr
 obtain ⟨hR1,rfl,rfl,rfl⟩:=hR
 have hL : L < W.heap.size:=(gA.1 rc).1
 have hdl : E.dom lp:=(kp.dom lp hlp).2 hd0.1
 have hρ : E.ρ lp = L:=(kp.ρ lp hlp hd0.1).trans hd0.2.1
 have hrl : ∀ l,some lp = some l -> l < k1:=fun l e=>by cases e;exact hlp
 refine ⟨_,_,_,_,run_yield rc (by rw [hps];rfl),roundIn_of_wpIn trivial ?_⟩
 obtain ⟨x1,s1,hs1,rfl,hnl1,hcw2⟩:=hcw hrl hn
 obtain ⟨x2,s2,hs2,rfl,T',hrc⟩:=hcw2 hrl hs1.1
 have hfr : FRn Try.prog 0 E nt (some lp) ⟨T,H,n,V,[]⟩ { tmps:=(R.params.zip #[.int .i64 (i : Int),recV x]).foldl (fun tmps (x : Tmp × Value)=>tmps.setIfInBounds x.1 x.2) R.tmps,defers:=[] } W:=by
  refine ⟨?_,fh.hr,fh.lw,.nil,fh.gl,fun l e=>by cases e;exact hdl,fh.top⟩
  have := zMn R.params.toList [.int .i64 (i : Int),recV x] [.int .i64 (i : Int),recV x] (.cons _ _ _ _ (zAt 8 rfl) (.cons _ _ _ _ (zAt 8 rfl) .nil)) _ _ _ (TR.keep kp.agr hT0 hTR) hz
  show TR E T nt _
  rw [<- Array.foldl_toList,Array.toList_zip]
  exact this
 have hF : rdF E (some lp) = Fence.wide.inRound L:=by rw [<- hρ];rfl
 have h1:=hs1.2.2 E _ W hfr
 rw [hF] at h1
 refine wpIn_mono h1 ?_
 rintro e a1 w1 ⟨E1,fr1,ex1,kp1⟩
 cases zDk ex1
 have sw1 : subW k1 s1.wr V:=hs2.2.1.trans hrc.2.1
 have rc1 : w1.heap[L]? = some (.loop R):=(kp1.atL sw1 hL tn).trans rc
 have hL1 : L < w1.heap.size:=(gA.1 rc1).1
 have hdl1 : E1.dom lp:=(kp1.dom lp hlp).2 hdl
 have hρ1 : E1.ρ lp = L:=(kp1.ρ lp hlp hdl).trans hρ
 have tn1:=zQc kp1 sw1 hL tn
 have fl1:=zPa kp1 sw1 hL tn fl
 have nro : ∀ {E' : Env} {w' : World},Kept k1 (lp :: V) E0 E' w0 w' -> Tch k1 (lp :: V) E' lp:=fun {E' w'} h=>⟨(h.dom lp hlp).2 hd0.1,by omega,fun _=>⟨by simp,fun x=>hd0.2.2 ((h.ro lp hlp hd0.1).1 x)⟩⟩
 have sv : subW k1 V (lp :: V):=fun k hk _=>by simp [hk]
 have kpA : Kept k1 (lp :: V) E0 E1 w0 w1:=kp.trans (kp1.sub (sw1.trans sv)) (.refl _ _)
 show ∃ w₂,_ /\ _
 refine ⟨_,run_beginRound rc1 hR1,?_⟩
 have h2:=hs2.2.2 E1 a1 _ (fr1.putL rc1 hnl1 fl1 (.loop { R with state:=.busy }))
 rw [show rdF E1 (some lp) = Fence.wide.inRound L by rw [<- hρ1];rfl] at h2
 refine wpIn_mono h2 ?_
 rintro e a2 w3 ⟨E3,fr3,ex3,kp3⟩
 obtain ⟨E4,fr4,kp4⟩:=hrc.2.2 E3 a2 w3 fr3
 have rcb : (w1.putObj L (.loop { R with state:=.busy })).heap[L]? = some (.loop { R with state:=.busy }):=World.putObj_heap_same hL1
 have hL2 : L < (w1.putObj L (.loop { R with state:=.busy })).heap.size:=by simpa using hL1
 have sw2 : subW k1 s2.wr V:=hrc.2.1
 have rc3 : w3.heap[L]? = some (.loop { R with state:=.busy }):=(kp3.atL sw2 hL2 tn1).trans rcb
 have hL3 : L < w3.heap.size:=(gA.1 rc3).1
 have tn3:=zQc kp3 sw2 hL2 tn1
 have tn4:=zQc kp4 (.refl _ _) hL3 tn3
 have fl4:=zPa kp4 (.refl _ _) hL3 tn3 (zPa kp3 sw2 hL2 tn1 fl1)
 have kpB : Kept k1 (lp :: V) E0 E1 w0 (w1.putObj L (.loop { R with state:=.busy })) :=
  kpA.trans (Kept.putL (.refl k1 (lp :: V) E1 w1) hρ1 (nro kpA) _) (.refl _ _)
 have kpC : Kept k1 (lp :: V) E0 E3 w0 w3:=kpB.trans (kp3.sub (sw2.trans sv)) (.refl _ _)
 have kpD : Kept k1 (lp :: V) E0 E4 w0 w3:=kpC.trans (kp4.sub sv) (.refl _ _)
 have hρ4 : E4.ρ lp = L:=(kpD.ρ lp hlp hd0.1).trans hd0.2.1
 have fin : ∀ o,Kept k1 (lp :: V) E0 E4 w0 (w3.putObj L o):=fun o=>kpD.trans (Kept.putL (.refl k1 (lp :: V) E4 w3) hρ4 (nro kpD) _) (.refl _ _)
 have out : ∃ v w',(Instr.endRound L (jumpC x2)).run Try.prog w3 = .ok v w' /\ (Ending.returned v = .returned (.bool (jumpC x2).isNone) /\ ∃ E',RgJ k1 lp L V E0 w0 { R with state:=if (jumpC x2).isNone then .ready else .done,pending:=jumpC x2 } H' n' E' w') :=
  ⟨_,_,run_endRound (jumpC x2) rc3,rfl,E4,⟨fr4.hr.putL rc3 hnl' fl4 _,fr4.lw,fr4.gl,fr4.top⟩,fin _,tn4,World.putObj_heap_same hL3,fl4⟩
 rcases hx with rfl | ⟨c,hc⟩
 ·cases zDk ex3;exact out
 cases x2 with
 | ret=>cases e <;> first | exact False.elim ex3 | exact out
 | exit id=>cases e <;> first | exact False.elim ex3 | (cases ex3;exact out)
 | _=>cases hc
end
section
open Go Go.RowKit
def stX (st : Option (Ex × Tr AObj × Nat)) : Ex:=match st with | none=>.normal | some x=>x.1
def stH (H : Tr AObj) (st : Option (Ex × Tr AObj × Nat)) : Tr AObj:=match st with | none=>H | some x=>x.2.1
def stN (n : Nat) (st : Option (Ex × Tr AObj × Nat)) : Nat:=match st with | none=>n | some x=>x.2.2
def StopS (k1 nt lp : Nat) (asg body : Code) (T0 : Tr Value) (ps : Array Tmp) (V : List Nat) (l : List RcX) (m : Nat) (H : Tr AObj) (n : Nat) : Option (Ex × Tr AObj × Nat) -> Prop
 | none=>m = l.length
 | some (x,H',n')=>(∃ c,jumpC x = some c) /\ zFo H' /\ k1<=n' /\ ∃ h : m < l.length,l[m].t = 41 /\ RoundS Try.prog k1 nt lp asg body T0 ps V m l[m] H n x H' n'
theorem cw_eall {k0 nt : Nat} {g : Operand} {ps : Array Tmp} {asg body : Code} {s : Fs} {K : Ex -> Fs -> Prop} (l : List RcX) (kc : Nat) (vl : Value) (tb : TypeId) (V : List Nat) (Zh : Nat -> Tr AObj) (Zn : Nat -> Nat) (m : Nat) (st : Option (Ex × Tr AObj × Nat))
  (hg : aev s.T g = .func (.func 61) #[] #[.pointer (some ⟨kc,0,none⟩)]) (hok : okX 0 g = true) (hps : ps.size = 2) (hJJ : s.n + 2<=JJ) (hll : l.length<=4611686018427387903) (hlV : s.n + 1 ∉ V) (hdf : s.df = [])
  (hT : ∀ t,KpV s.n ((s.T.get t).getD undef)) (hkc : s.H.get kc = some (.cells [vl] tb))
  (hvl : (vl = .slice none 0 0 /\ l = []) \/ (∃ b o c,vl = .slice (some ⟨b,o,none⟩) l.length c /\ b < s.n /\ ∀ i,i<=m -> ∃ ob C,(Zh i).get b = some ob /\ ob.look = some C /\ ∀ k (_ : k < l.length) j u,l[k].g[j]? = some u -> C[o + k * 5 + j]? = some u) \/ vl = treeV 5 l.length (l.flatMap layR.g))
  (hstart : ∃ T',RcM Try.prog 0 (s.n + 2) nt none ⟨s.T,s.H.set s.n (some .defs),s.n + 2,s.wr,[]⟩ ⟨T',Zh 0,Zn 0,V,[]⟩)
  (hnl : ∀ i,i<=m -> zFo (Zh i)) (hZn : ∀ i,i<=m -> s.n + 2<=Zn i)
  (hround : ∀ i (h : i < l.length),i < m -> l[i].t = 41 -> RoundS Try.prog (s.n + 2) nt (s.n + 1) asg body s.T ps V i l[i] (Zh i) (Zn i) .normal (Zh (i + 1)) (Zn (i + 1)))
  (hskip : ∀ i (h : i < l.length),i < m -> l[i].t ≠ 41 -> Zh (i + 1) = Zh i /\ Zn (i + 1) = Zn i)
  (hst : StopS (s.n + 2) nt (s.n + 1) asg body s.T ps V l m (Zh m) (Zn m) st)
  (hK : K (stX st) ⟨s.T,stH (Zh m) st,stN (Zn m) st,(s.n + 1) :: V,.mark s.n :: s.df⟩) : CW Try.prog 0 k0 nt none (.rangeFunc g ps asg body) s K:=by
 intro _ hk0
 obtain ⟨T1,hst1⟩:=hstart
 have hm : m<=l.length:=by
  cases st with
  | none=>exact Nat.le_of_eq hst
  | some x=>obtain ⟨_,_,_,h,_⟩:=hst;omega
 have hsub : subW k0 s.wr ((s.n + 1) :: V):=fun k hk hk2=>by
  have := hst1.2.1 k hk (by show k < s.n + 2;omega)
  exact List.mem_cons_of_mem _ this
 have hle : s.n + 2<=stN (Zn m) st:=by
  cases st with
  | none=>exact hZn m (aJ _)
  | some x=>exact hst.2.2.1
 refine ⟨stX st,_,⟨by show k0<=stN (Zn m) st;omega,hsub,fun E a w hf=>?_⟩,hK⟩
 refine wpIn_rangeFunc fun fn _=>?_
 have hd1 : ¬ E.dom s.n:=fun h=>by rcases hf.top _ h with h | h <;> omega
 obtain ⟨k1,k2⟩:=hf.hr.new hd1 (.deferred (some [])) .defs 0 0 (by show _ = _;rw [Env.push_ρ];exact heap_alloc_new w _)
 obtain ⟨E1,hE1⟩ : ∃ E1,E.push s.n w.heap.size 0 0 = E1:=⟨_,rfl⟩
 rw [hE1] at k1 k2
 obtain ⟨w1,hw1⟩ : ∃ w1,w.alloc (.deferred (some [])) = w1:=⟨_,rfl⟩
 rw [hw1] at k1 k2
 have hsz1 : w1.heap.size = w.heap.size + 1:=by rw [<- hw1];simp
 have hdE1 : ∀ k,E1.dom k -> E.dom k \/ k = s.n:=fun k h=>by rw [<- hE1] at h;rcases h with h | h;exact .inr h;exact .inl h
 have hd2 : ¬ E1.dom (s.n + 1):=fun h=>by
  rcases hdE1 _ h with h | h
  ·rcases hf.top _ h with h | h <;> omega
  omega
 obtain ⟨R,hR⟩ : ∃ R : LoopState -> Option Code -> Loop,R = fun q pe=>{ state:=q,pending:=pe,fn,tmps:=a.tmps,params:=ps,assign:=asg,body,defers:=w.heap.size }:=⟨_,rfl⟩
 obtain ⟨q1,q2⟩:=k1.new hd2 (.loop (R .ready none)) (.win [] 0) 0 0 ⟨Env.push_sz _ _ _ _ _,[],rfl,.nil,fun j v h=>by simp at h⟩
 obtain ⟨E0,hE0⟩ : ∃ E0,E1.push (s.n + 1) w1.heap.size 0 0 = E0:=⟨_,rfl⟩
 rw [hE0] at q1 q2
 obtain ⟨w2,hw2⟩ : ∃ w2,w1.alloc (.loop (R .ready none)) = w2:=⟨_,rfl⟩
 rw [hw2] at q1 q2
 have hLrec : w2.heap[w1.heap.size]? = some (.loop (R .ready none)):=by rw [<- hw2];exact heap_alloc_new w1 _
 have hH1 : (s.H.set s.n (some .defs)).get (s.n + 1) = none:=(hf.lw.new _) _ (aJ _)
 have hr0 : HR Try.prog E0 (s.H.set s.n (some .defs)).get w2:=q1.sub (fun k o ho=>by
  rw [zCv] at ho
  show (if k = s.n + 1 then _ else _) = _
  rw [if_neg (fun e=>by rw [e,<- zCv,hH1] at ho;cases ho)];exact ho)
 have hx : Ext E E0:=k2.ext.trans q2.ext
 have hdE0 : ∀ k,E0.dom k -> E.dom k \/ k = s.n \/ k = s.n + 1:=fun k h=>by
  rw [<- hE0] at h
  rcases h with h | h
  ·exact .inr (.inr h)
  rcases hdE1 k h with h | h
  ·exact .inl h
  exact .inr (.inl h)
 have hlp0 : E0.dom (s.n + 1) /\ E0.ρ (s.n + 1) = w1.heap.size /\ ¬ E0.ro (s.n + 1):=by rw [<- hE0];exact ⟨Env.push_dom _ _ _ _ _,Env.push_ρ _ _ _ _ _,Env.push_ro _ _ _ _ _⟩
 have hdd0 : E0.dom s.n /\ E0.ρ s.n = w.heap.size:=by
  have h1 : E1.dom s.n /\ E1.ρ s.n = w.heap.size:=by rw [<- hE1];exact ⟨Env.push_dom _ _ _ _ _,Env.push_ρ _ _ _ _ _⟩
  exact ⟨q2.ext.n _ h1.1,(q2.ext.ρ _ h1.1).trans h1.2⟩
 have stp : Stp E E0 [] w w2:=(k2.trans q2).sub (fun x h=>by cases h)
 have kp0 : Kept k0 ((s.n + 1) :: V) E E0 w w2:=by
  refine ⟨fun i hi=>⟨fun h=>?_,hx.n i⟩,fun i _ h=>hx.ρ i h,fun i _ h=>hx.tot i h,fun i _ h=>hx.sz i h,fun i _ h=>hx.sh i h,fun i _ h=>hx.ro i h,fun hn i hi hJ hd=>?_,stp.os,stp.tape,stp.output,stp.size,fun b hb _=>stp.block b hb (fun _ h=>by cases h),fun i hi hJ hd=>?_,hx.fz,fun b ob hb=>(stp.fz b ob hb).imp (fun x=>x) (fun y=>y.imp (fun x=>x) (fun ⟨_,h,_⟩=>nomatch h))⟩
  ·rcases hdE0 i h with h | h | h
   ·exact h
   ·omega
   omega
  ·by_cases h1 : E.dom i
   ·exact fun x=>hn i hi hJ h1 ((hx.ro i h1).1 x)
   exact (stp.fresh i h1 hd).1
  by_cases h1 : E.dom i
  ·exact .inr ⟨i,⟨h1,hJ,fun h=>by omega⟩,(hx.ρ i h1).symm⟩
  rcases (stp.fresh i h1 hd).2 with h2 | ⟨_,h,_⟩
  ·exact .inl h2
  cases h
 have hf0 : FRn Try.prog 0 E0 nt none ⟨s.T,s.H.set s.n (some .defs),s.n + 2,s.wr,[]⟩ { tmps:=a.tmps,defers:=[] } w2 :=
  ⟨hf.tr.ext hx,hr0,fun k hk=>hf.lw.new _ k (by show s.n + 1<=k;have : s.n + 2<=k:=hk;omega),.nil,fun g h=>ab h (Nat.not_lt_zero _),fun l h=>(nomatch h),fun k h=>by
   show k < s.n + 2 \/ JJ<=k
   rcases hdE0 k h with h | h | h
   ·rcases hf.top k h with h | h
    ·exact .inl (by omega)
    exact .inr h
   ·exact .inl (by omega)
   exact .inl (by omega)⟩
 obtain ⟨E2,fr2,kp2⟩:=hst1.2.2 E0 _ w2 hf0
 have hLs : w1.heap.size < w2.heap.size:=(gA.1 hLrec).1
 have tn0 : ∀ i,Tch (s.n + 2) V E0 i -> E0.ρ i ≠ w1.heap.size:=fun i hi=>by
  rcases hdE0 i hi.1 with h | h | h
  ·rw [hx.ρ i h];have := hf.hr.lt i h;omega
  ·subst h;rw [hdd0.2];omega
  subst h;exact ab (hi.2.2 (by omega)).1 hlV
 have fl0 : E0.fz w1.heap.size = none:=by
  cases hf0' : E0.fz w1.heap.size with
  | none=>rfl
  | some ob =>
   have : E.fz w1.heap.size = some ob:=by rw [<- hE0,<- hE1] at hf0';exact hf0'
   have := (gA.1 (hf.hr.fz _ ob this)).1;omega
 have hT2 : ∀ t,KpV (s.n + 2) ((s.T.get t).getD undef):=fun t=>(hT t).mono (by omega)
 have hTR : TR E0 s.T nt (R .ready none).tmps:=by rw [hR];exact hf.tr.ext hx
 have J0 : RgJ (s.n + 2) (s.n + 1) w1.heap.size V E0 w2 (R .ready none) (Zh 0) (Zn 0) E2 w2 :=
  ⟨fr2.fh,kp2.sub (fun k hk _=>by simp [hk]),zQc kp2 (.refl _ _) hLs tn0,hLrec,zPa kp2 (.refl _ _) hLs tn0 fl0⟩
 have hvg:=zBz hf.tr hf.gl hok
 rw [hg] at hvg
 obtain ⟨cap',he,hcap⟩ : ∃ cap' : Array Value,a.eval g = .func (.func 61) #[] cap' /\ VL E [.pointer (some ⟨kc,0,none⟩)] cap'.toList:=by
  cases hv' : a.eval g <;> rw [hv'] at hvg <;> cases hvg
  rename_i fi ca _ h1 h2
  have : fi.toList = []:=by generalize fi.toList = q at h1;cases h1;rfl
  exact ⟨ca,by rw [show fi = #[] from by rw [<- Array.toArray_toList (xs:=fi),this]],h2⟩
 have hkn : kc < s.n:=hf.lw.lt (by rw [hkc];simp)
 have hdk : E.dom kc:=hf.hr.live (by rw [hkc];simp)
 have hsh : E.sh kc = 0:=by obtain ⟨_,_,_,_,_,_,_,_,h7,_⟩:=hf.hr.obj kc _ hkc;exact h7
 obtain ⟨v',hv1,_,hv2⟩:=zBm (hr0.obj kc _ (by rw [Tr.get_set_ne _ _ (by omega)];exact hkc)) 0 vl rfl
 rw [hx.ρ kc hdk] at hv1
 have hcap' : cap' = #[.pointer (some ⟨E.ρ kc,0,none⟩)]:=by
  have : cap'.toList = [.pointer (some ⟨E.ρ kc,0,none⟩)]:=by
   generalize cap'.toList = q at hcap
   cases hcap with
   | cons _ x _ y h1 h2 =>
    cases h2
    cases h1 with
    | ptr _ _ _=>rw [hsh]
  rw [<- Array.toArray_toList (xs:=cap'),this]
 subst hcap'
 obtain ⟨p,c',hvp,hpl⟩ : ∃ p c',v' = .slice p l.length c' /\ (l ≠ [] -> (∃ b o c,vl = .slice (some ⟨b,o,none⟩) l.length c /\ E0.dom b /\ p = some ⟨E0.ρ b,E0.sh b + o,none⟩) \/ (∃ b o,p = some ⟨b,o,none⟩ /\ vl = treeV 5 l.length (l.flatMap layR.g) /\ ∀ (j : Nat) (u : Value),(l.flatMap layR.g)[j]? = some u -> fzc E0.fz b (o + j) = some u)):=by
  rcases hvl with ⟨rfl,rfl⟩ | ⟨b,o,c,rfl,hb,_⟩ | rfl
  ·cases hv2;exact ⟨none,0,rfl,fun h=>ab rfl h⟩
  ·generalize hn : l.length = n at hv2
   cases hv2 with
   | sl _ _ _ _ h hc=>exact ⟨_,_,rfl,fun _=>.inl ⟨b,o,c,rfl,h,rfl⟩⟩
   | su _ _ _ _ h q1 q2 q3=>exact ⟨_,_,rfl,fun _=>.inl ⟨b,o,_,rfl,h,rfl⟩⟩
   | se _ _ _ a' h q1 q2=>exact ⟨_,_,rfl,fun hne=>ab (List.eq_nil_of_length_eq_zero hn) hne⟩
  obtain ⟨b,o,k,a',x,rfl,hl1,_,_,ha,h1,h2⟩:=hv2.tree_inv
  simp only [] at h1 h2
  refine ⟨_,_,rfl,fun hne=>.inr ?_⟩
  rcases ha with rfl | ⟨h0,_⟩
  ·refine ⟨b,o,rfl,rfl,fun j u hj=>?_⟩
   have hu : plainV 8 u = true:=aG.1 (zAb layR.g layR.plain l) u (List.mem_of_getElem? hj)
   have h3:=h2 j u hj
   rw [h1 j (gS.1 hj).1,zBj 8 hu h3.vr (E:=E0)]
  exact ab (List.eq_nil_of_length_eq_zero h0) hne
 subst hvp
 obtain ⟨L,hLd⟩ : ∃ L,w1.heap.size = L:=⟨_,rfl⟩
 have hLn : w.heap.size + 1 = L:=hsz1.symm.trans hLd
 have hc:=eall_in 0 L (E.ρ kc) l (fun i W=>i<=m /\ ∃ E',RgJ (s.n + 2) (s.n + 1) L V E0 w2 (R .ready none) (Zh i) (Zn i) E' W)
  (fun W=>∃ x H' n',st = some (x,H',n') /\ ∃ E',RgJ (s.n + 2) (s.n + 1) L V E0 w2 (R .done (jumpC x)) H' n' E' W) p c' hll
  (fun hne=>by
   rcases hpl hne with ⟨b,o,c,e1,hdb,rfl⟩ | ⟨b,o,rfl,_,hcell⟩
   rotate_left
   ·refine ⟨b,o,rfl,fun i W hJ k hk j u hu=>?_⟩
    obtain ⟨him,E',hJ⟩:=hJ
    have hj5 : j < 5:=by have := (gS.1 hu).1;exact this
    have h4 : (l.flatMap layR.g)[k * 5 + j]? = some u:=by
     have := RdL.cell layR [] [] l k j hk hj5
     simp only [List.nil_append,aF,List.length_nil,aS] at this
     exact this.trans hu
    have h5:=zPb hJ.kp.fz (hcell _ _ h4)
    have h6:=hJ.fh.hr.fzc h5
    rw [Nat.add_assoc];exact h6
   rcases hvl with ⟨_,h⟩ | ⟨b',o',c2,e2,hb,hz⟩ | h
   ·exact ab h hne
   rotate_left
   ·rw [h] at e1;cases e1
   rw [e1] at e2
   simp only [Value.slice.injEq,aP,Addr.mk.injEq] at e2
   obtain ⟨⟨rfl,rfl,_⟩,_,rfl⟩:=e2
   refine ⟨_,_,rfl,fun i W hJ k hk j u hu=>?_⟩
   obtain ⟨him,E',hJ⟩:=hJ
   obtain ⟨ob,C,z1,z2,z3⟩:=hz i him
   obtain ⟨u',c1,c2⟩:=(hJ.fh.hr.obj b ob z1).look_at z2 _ u (z3 k hk j u hu)
   have hpu : plainV 8 u = true:=aG.1 (layR.plain l[k]) u (List.mem_of_getElem? hu)
   rw [zBj 8 hpu c2,hJ.kp.ρ b (by omega) hdb,hJ.kp.sh b (by omega) hdb] at c1
   rw [<- c1];congr 2;omega)
  (fun i W W' ⟨him,E',hJ⟩ hg=>⟨him,E',⟨hJ.fh.hr.grow hg,hJ.fh.lw,hJ.fh.gl,hJ.fh.top⟩,hJ.kp.grow hg,hJ.tn,(hg.block L (gA.1 hJ.rc).1 (by simp)).trans hJ.rc,hJ.fl⟩)
  (fun i h W ⟨him,E',hJ⟩ ht=>by
   by_cases h1 : i < m
   ·obtain ⟨e1,e2⟩:=hskip i h h1 ht
    exact ⟨h1,E',by rw [e1,e2];exact hJ⟩
   have : i = m:=by omega
   subst this
   cases st with
   | none=>have : i = l.length:=hst;omega
   | some x=>obtain ⟨_,_,_,_,h41,_⟩:=hst;exact ab h41 ht)
  (fun i h W ⟨him,E',hJ⟩ ht=>by
   have hRR : (R .ready none).state = .ready /\ (R .ready none).params = ps /\ (R .ready none).assign = asg /\ (R .ready none).body = body:=by rw [hR];exact ⟨rfl,rfl,rfl,rfl⟩
   by_cases h1 : i < m
   ·obtain ⟨fn',tm,as',bo,y1,y2⟩:=zWr (hround i h h1 ht) hps (by omega) hlV hJJ (hZn i him) (.inl rfl) (hnl (i + 1) h1) hRR hT2 hTR (by rw [<- hLd];exact hlp0) hJ
    refine ⟨fn',tm,as',bo,y1,y2.mono fun e W' ⟨he,E'',hj⟩=>.inl ⟨he,h1,E'',?_⟩⟩
    rw [hR] at hj ⊢;exact hj
   have : i = m:=by omega
   subst this
   cases st with
   | none=>have : i = l.length:=hst;omega
   | some x =>
    obtain ⟨x,H',n'⟩:=x
    obtain ⟨⟨c,hjc⟩,hn2,_,_,_,hrd⟩:=hst
    obtain ⟨fn',tm,as',bo,y1,y2⟩:=zWr hrd hps (by omega) hlV hJJ (hZn i him) (.inr ⟨c,hjc⟩) hn2 hRR hT2 hTR (by rw [<- hLd];exact hlp0) hJ
    refine ⟨fn',tm,as',bo,y1,y2.mono fun e W' ⟨he,E'',hj⟩=>.inr ⟨by rw [he,hjc];rfl,x,H',n',rfl,E'',?_⟩⟩
    rw [hR] at hj ⊢;rw [hjc] at hj ⊢;exact hj)
  w2 hv1 ⟨aH _,E2,by rw [<- hLd];exact J0⟩
 have hconst : ∀ v,a.eval (.const v) = v:=fun _=>rfl
 obtain ⟨_,_,_,_,hrun⟩:=zDj (show callable Try.prog 61 = true by kernel_rfl)
 have hdfa : a.defers = []:=by
  have := hf.df
  rw [hdf] at this
  generalize a.defers = q at this
  cases this;rfl
 have fin : ∀ (x : Ex) (e : Exit) (H' : Tr AObj) (n' : Nat) (E' : Env) (w3 : World) (q : LoopState) (pe : Option Code),RgJ (s.n + 2) (s.n + 1) L V E0 w2 (R q pe) H' n' E' w3 -> zFo H' -> exR E' x e -> ∀ o,
   SP Try.prog 0 k0 E w nt none x ⟨s.T,H',n',(s.n + 1) :: V,.mark s.n :: s.df⟩ e { a with defers:=[{ target:=.collected w.heap.size,args:=#[] }]++a.defers } (w3.putObj L o):=by
  intro x e H' n' E' w3 q pe hj hnH hex o
  have hdd : E'.dom s.n:=(hj.kp.dom s.n (by omega)).2 hdd0.1
  have hrr : E'.ρ s.n = w.heap.size:=(hj.kp.ρ s.n (by omega) hdd0.1).trans hdd0.2
  have htch : Tch (s.n + 2) ((s.n + 1) :: V) E' (s.n + 1):=⟨(hj.kp.dom _ (by omega)).2 hlp0.1,by omega,fun _=>⟨by simp,fun z=>hlp0.2.2 ((hj.kp.ro _ (by omega) hlp0.1).1 z)⟩⟩
  have hrl : E'.ρ (s.n + 1) = L:=(hj.kp.ρ _ (by omega) hlp0.1).trans (hlp0.2.1.trans hLd)
  refine ⟨E',⟨TR.keep hj.kp.agr hT2 (hf.tr.ext hx),hj.fh.hr.putL hj.rc hnH hj.fl o,hj.fh.lw,?_,hj.fh.gl,fun l h=>(nomatch h),hj.fh.top⟩,hex,?_⟩
  ·have := DR.mark (E:=E') s.n [] [] hdd .nil
   rw [hrr] at this
   show DR E' (.mark s.n :: s.df) ([_]++a.defers)
   rw [hdf,hdfa];exact this
  exact kp0.trans (((hj.kp.trans (Kept.putL (.refl _ _ E' w3) hrl htch o) (.refl _ _))).weak (by omega)) (.refl _ _)
 have hent:=run_enterLoop_outer (P:=Try.prog) (w:=w) fn a.tmps ps asg body
 rw [hw1,hLn] at hent
 have hRr : ({ state:=.ready,pending:=none,fn,tmps:=a.tmps,params:=ps,assign:=asg,body,defers:=w.heap.size } : Loop) = R .ready none:=by rw [hR]
 rw [hRr,hw2] at hent
 refine zPr (f:=61) (args:=#[.func (.yield L) #[] #[]]++#[.pointer (some ⟨E.ρ kc,0,none⟩)]) (d:={ target:=.fn (.func 61) #[.pointer (some ⟨E.ρ kc,0,none⟩)],args:=#[]++#[.func (.yield L) #[] #[]] }) hent (by simp [resolve,he,hconst,Deferred.ofValue]) (by simp [invoke,hrun]) (zIq ?_)
 refine hc.mono ?_
 rintro e w3 ⟨⟨v,rfl⟩,⟨him,E',hj⟩ | ⟨x,H',n',rfl,E',hj⟩⟩
 ·have hml : m = l.length:=by omega
  subst hml
  cases st with
  | some x=>obtain ⟨_,_,_,h,_⟩:=hst;exact ab h (Nat.lt_irrefl _)
  | none =>
   refine ⟨_,_,run_endLoop hj.rc (by rw [hR];simp),?_⟩
   rw [show (R .ready none).pending = none by rw [hR]]
   exact fin .normal .normal _ _ E' w3 _ _ hj (hnl _ (aJ _)) trivial _
 obtain ⟨⟨c,hjc⟩,hn2,_⟩:=hst
 refine ⟨_,_,run_endLoop hj.rc (by rw [hR];simp),?_⟩
 rw [show (R .done (jumpC x)).pending = jumpC x by rw [hR]]
 cases x with
 | ret=>exact wpIn_ret (fin .ret .ret _ _ E' w3 _ _ hj hn2 trivial _)
 | exit id=>exact wpIn_exit (fin (.exit id) (.exit id) _ _ E' w3 _ _ hj hn2 rfl _)
 | _=>cases hjc
theorem zFi {k0 nt : Nat} {g : Operand} {ps : Array Tmp} {asg body : Code} {T : Tr Value} {H : Tr AObj} {W : List Nat} {K : Ex -> Fs -> Prop} (n lp k1 : Nat) (hn1 : lp = n + 1) (hn2 : k1 = n + 2) (l : List RcX) (kc : Nat) (vl : Value) (tb : TypeId) (V : List Nat) (Zh : Nat -> Tr AObj) (Zn : Nat -> Nat) (m : Nat) (st : Option (Ex × Tr AObj × Nat))
  (hg : aev T g = .func (.func 61) #[] #[.pointer (some ⟨kc,0,none⟩)]) (hok : okX 0 g = true) (hps : ps.size = 2) (hJJ : k1<=JJ) (hll : l.length<=4611686018427387903) (hlV : lp ∉ V)
  (hT : ∀ t,KpV n ((T.get t).getD undef)) (hkc : H.get kc = some (.cells [vl] tb))
  (hvl : (vl = .slice none 0 0 /\ l = []) \/ (∃ b o c,vl = .slice (some ⟨b,o,none⟩) l.length c /\ b < n /\ ∀ i,i<=m -> ∃ ob C,(Zh i).get b = some ob /\ ob.look = some C /\ ∀ k (_ : k < l.length) j u,l[k].g[j]? = some u -> C[o + k * 5 + j]? = some u) \/ vl = treeV 5 l.length (l.flatMap layR.g))
  (hstart : ∃ T',RcM Try.prog 0 k1 nt none ⟨T,H.set n (some .defs),k1,W,[]⟩ ⟨T',Zh 0,Zn 0,V,[]⟩)
  (hnl : ∀ i,i<=m -> zFo (Zh i)) (hZn : ∀ i,i<=m -> k1<=Zn i)
  (hround : ∀ i (h : i < l.length),i < m -> l[i].t = 41 -> RoundS Try.prog k1 nt lp asg body T ps V i l[i] (Zh i) (Zn i) .normal (Zh (i + 1)) (Zn (i + 1)))
  (hskip : ∀ i (h : i < l.length),i < m -> l[i].t ≠ 41 -> Zh (i + 1) = Zh i /\ Zn (i + 1) = Zn i)
  (hst : StopS k1 nt lp asg body T ps V l m (Zh m) (Zn m) st)
  (hK : K (stX st) ⟨T,stH (Zh m) st,stN (Zn m) st,lp :: V,[.mark n]⟩) : CW Try.prog 0 k0 nt none (.rangeFunc g ps asg body) ⟨T,H,n,W,[]⟩ K:=by
 subst hn1;subst hn2
 exact cw_eall (s:=⟨T,H,n,W,[]⟩) l kc vl tb V Zh Zn m st hg hok hps hJJ hll hlV rfl hT hkc hvl hstart hnl hZn hround hskip hst hK
theorem zHe {d : Nat} {bs : List (Nat × AObj)} (h : ∀ p ∈ bs,∀ r,p.2 ≠ .loop r) : zFo (heap d bs):=fun k r e=>by
 unfold heap at e
 rw [zDo] at e
 split at e
 ·rcases zEr (0 + 1 * k) none bs with ⟨v,hv,e2⟩ | e2
  ·rw [e2] at e;exact h _ hv r (Option.some.inj e)
  rw [e2] at e;cases e
 cases e
end
section
open Go Go.RowKit
theorem zTc {P : Program} {g0 k0 nt d : Nat} {rd : Option Nat} {c : Code} {s : Fs} {lv : List (Nat × Value)} {H : Tr AObj} {n : Nat} {W : List Nat} {df : List ADf} {K : Ex -> Fs -> Prop} (h : ∃ f,RcM P g0 k0 nt rd s ⟨slots d lv f,H,n,W,df⟩) (k : ∀ g,(∀ t,KpV 0 ((g t).getD undef)) -> CW P g0 k0 nt rd c ⟨slots d lv g,H,n,W,df⟩ K) : CW P g0 k0 nt rd c s K:=by
 obtain ⟨f,hf⟩:=h
 obtain ⟨g,hg,hr⟩:=rc_blur (P:=P) (g0:=g0) (k0:=k0) (nt:=nt) (d:=d) (rd:=rd) (lv:=lv) (f:=f) (H:=H) (n:=n) (W:=W) (df:=df) hf.1
 exact (k g hg).pre hr |>.pre hf
theorem zCp {P : Program} {g0 k0 nt d : Nat} {rd : Option Nat} {s : Fs} {lv : List (Nat × Value)} {H : Tr AObj} {n : Nat} {W : List Nat} {df : List ADf} (h : ∃ f,RcM P g0 k0 nt rd s ⟨slots d lv f,H,n,W,df⟩) : ∃ T',RcM P g0 k0 nt rd s ⟨T',H,n,W,df⟩:=let ⟨_,h⟩:=h;⟨_,h⟩
noncomputable def zVy : Ct Try.prog 0:=Ct.inl (tbOf mixed []) mixed [] 43 Try.f43 Try.func43 (bodyOf Try.f43) (by kernel_rfl)
noncomputable def tbEd : Tb Try.prog 0:=tbOf mixed [zVy]
def cntO (l : List RcX) : Nat:=(l.filter fun x=>x.t = 41).length
theorem cntO_in (l : List RcX) (i : Nat) (h : i < l.length) : cntO (l.take (i + 1)) = if l[i].t = 41 then cntO (l.take i) + 1 else cntO (l.take i):=by
 unfold cntO
 rw [List.take_succ_eq_append_getElem h,List.filter_append,aB]
 by_cases h1 : l[i].t = 41 <;> simp [h1]
theorem cntO_le (l : List RcX) (i : Nat) : cntO (l.take i)<=l.length:=by
 unfold cntO
 exact aW (List.length_filter_le _ _) (by simp;omega)
end
section
open Go Go.RowKit
def nop (x : RcX) : Bool:=!decide (x.t = 41)
def fromO (l : List RcX) : Nat -> Nat
 | 0=>0
 | i + 1=>if h : i < l.length then (if l[i].t = 41 then i + 1 else fromO l i) else fromO l i
theorem zKc (l : List RcX) : ∀ i,fromO l i<=i
 | 0=>aJ _
 | i + 1=>by
  have := zKc l i
  unfold fromO
  split
  ·split
   ·omega
   omega
  omega
def outO (l : List RcX) (i : Nat) : List RcX:=(l.take (fromO l i)).filter nop
theorem zIt (l : List RcX) : ∀ i,i<=l.length -> (l.take i).filter nop = outO l i++(l.drop (fromO l i)).take (i - fromO l i)
 | 0,_=>by simp [outO,fromO]
 | i + 1,h=>by
  have hi : i < l.length:=by omega
  have ih:=zIt l i (by omega)
  have hle:=zKc l i
  rw [List.take_succ_eq_append_getElem hi,List.filter_append]
  by_cases h41 : l[i].t = 41
  ·have e : fromO l (i + 1) = i + 1:=by rw [fromO,dif_pos hi,if_pos h41]
   unfold outO
   rw [e,List.take_succ_eq_append_getElem hi,List.filter_append,Nat.sub_self,List.take_zero,aF]
  have e : fromO l (i + 1) = fromO l i:=by rw [fromO,dif_pos hi,if_neg h41]
  have e2 : outO l (i + 1) = outO l i:=by unfold outO;rw [e]
  have hn : [l[i]].filter nop = [l[i]]:=by simp [nop,h41]
  rw [e,e2,ih,hn,aN,show i + 1 - fromO l i = (i - fromO l i) + 1 by omega,List.take_succ_eq_append_getElem (by rw [aM];omega)]
  congr 2
  simp only [List.getElem_drop]
  congr 2;omega
theorem outO_step (l : List RcX) (i : Nat) (hi : i < l.length) (h41 : l[i].t = 41) : fromO l (i + 1) = i + 1 /\ outO l (i + 1) = outO l i++(l.drop (fromO l i)).take (i - fromO l i):=by
 have e : fromO l (i + 1) = i + 1:=by rw [fromO,dif_pos hi,if_pos h41]
 refine ⟨e,?_⟩
 rw [<- zIt l i (Nat.le_of_lt hi)]
 unfold outO
 rw [e,List.take_succ_eq_append_getElem hi,List.filter_append]
 simp [nop,h41]
theorem outO_skip (l : List RcX) (i : Nat) (hi : i < l.length) (h41 : l[i].t ≠ 41) : fromO l (i + 1) = fromO l i /\ outO l (i + 1) = outO l i:=by
 have e : fromO l (i + 1) = fromO l i:=by rw [fromO,dif_pos hi,if_neg h41]
 exact ⟨e,by unfold outO;rw [e]⟩
theorem outO_end (l : List RcX) : l.filter nop = outO l l.length++l.drop (fromO l l.length):=by
 have := zIt l l.length (aJ _)
 rw [List.take_length,aD (l:=l.drop _) (by rw [aM];omega)] at this
 exact this
end
section
open Go Go.RowKit
noncomputable def tbTk : Tb Try.prog 0:=tbOf mixed []
abbrev trR (l : List RcX) : Value:=treeV 5 l.length (l.flatMap layR.g)
abbrev trQ (l : List QuX) : Value:=treeV 3 l.length (l.flatMap layQ.g)
theorem sameQ_tr (l1 l2 : List QuX) (hl : l1.length<=9223372036854775807) : ∃ r,FnS Try.prog 0 38 [trQ l1,trQ l2] .e 0 r /\ ∃ H m wr,r = .ret (.bool (decide (l1 = l2))) H m wr:=by
 refine zBo mixed tbTk [] Try.func38 (c:=bodyOf Try.f38) (by kernel_rfl) ?_
 refine ifK (fun g=>?_) (fun g=>?_)
 ·have e : decide (l1 = l2) = false:=aY (fun e=>by subst e;simp at g)
  rw [e];exact ⟨_,_,_,rfl⟩
 have hlen : l1.length = l2.length:=by
  have hz : (l1.length : Int) = l2.length:=by simpa using g
  omega
 refine zAp (fun (i : Nat) f=>⟨slots 6 [(0,trQ l1),(1,trQ l2),(5,.int .i64 (i : Nat))] f,heap 0 [],0,[],[]⟩) (fun i=>l1.length - i) (fun i=>i<=l1.length /\ l1.take i = l2.take i) 0 ⟨aH _,rfl⟩ (rcq [] ⟨⟨_,rfl,zAe 8 rfl⟩,⟨_,rfl,zAe 8 rfl⟩,(sI rfl),tv⟩ trivial .nil) ?_
 rintro i f ⟨hi,heq⟩
 refine zAq tbTk [] 0 _ none mixed _ _ _ ?_
 refine ifK (fun h1=>?_) (fun h1=>?_)
 ·have h1 : i < l1.length:=by have := oT h1;omega
  have h2 : i < l2.length:=by omega
  refine aI (by kernel_rfl) ?_
  refine ifK (fun _=>?_) (fun h2=>ab h2 (by simp [inI];omega))
  refine eI l1[i].n (eI l1[i].t (eI l1[i].c (aI (zBa layQ h1) ?_)))
  refine ifK (fun _=>?_) (fun h2=>ab h2 (by simp [inI];omega))
  refine eI l2[i].n (eI l2[i].t (eI l2[i].c (aI (zBa layQ h2) ?_)))
  refine aI struct_q ?_
  refine ifK (fun h3=>?_) (fun h3=>?_)
  ·have e : decide (l1 = l2) = false:=aY (fun e=>by
    have he : l1[i] = l2[i]:=zRd h1 h2 e
    rw [he] at h3;simp at h3)
   refine aI rfl (zAh (rcq [] (d:=6) (d2:=0) (lv:=[(4,.bool false)]) (bs:=[]) (W:=[]) (m:=0) (df:=[]) ⟨⟨_,rfl,zAu 8 rfl⟩,tv⟩ trivial .nil) (fun f=>?_))
   rw [e];exact ⟨_,_,_,rfl⟩
  refine ⟨i + 1,⟨h1,zSc h1 h2 heq ?_⟩,by omega,rcq [] ⟨⟨_,rfl,zAe 8 rfl⟩,⟨_,rfl,zAe 8 rfl⟩,zAa rfl (by rw [wrapN (by omega) (by omega)];omega),tv⟩ trivial .nil⟩
  simp only [Bool.not_eq_false',bA,beq_iff_eq,Bool.and_true] at h3
  obtain ⟨q0,q1,q2⟩:=h3
  cases hx : l1[i] with | mk x0 x1 x2 =>
  cases hy : l2[i] with | mk y0 y1 y2 =>
  rw [hx,hy] at q0 q1 q2
  simp only at q0 q1 q2
  rw [zUt q0,q1,q2]
 have h1 : ¬ i < l1.length:=by have := oF h1;omega
 have e : decide (l1 = l2) = true:=aX (by
  have := heq
  rwa [aD (by omega),aD (by omega)] at this)
 refine aI rfl (zAh (rcq [] (d:=6) (d2:=0) (lv:=[]) (bs:=[]) (W:=[]) (m:=0) (df:=[]) trivial trivial .nil) (fun f=>?_))
 rw [e];exact ⟨_,_,_,rfl⟩
theorem sameRs_tr (l1 l2 : List RcX) (hl : l1.length<=9223372036854775807) : ∃ r,FnS Try.prog 0 39 [trR l1,trR l2] .e 0 r /\ ∃ H m wr,r = .ret (.bool (decide (l1 = l2))) H m wr:=by
 refine zBo mixed tbTk [] Try.func39 (c:=bodyOf Try.f39) (by kernel_rfl) ?_
 refine ifK (fun g=>?_) (fun g=>?_)
 ·have e : decide (l1 = l2) = false:=aY (fun e=>by subst e;simp at g)
  rw [e];exact ⟨_,_,_,rfl⟩
 have hlen : l1.length = l2.length:=by
  have hz : (l1.length : Int) = l2.length:=by simpa using g
  omega
 refine zAp (fun (i : Nat) f=>⟨slots 6 [(0,trR l1),(1,trR l2),(5,.int .i64 (i : Nat))] f,heap 0 [],0,[],[]⟩) (fun i=>l1.length - i) (fun i=>i<=l1.length /\ l1.take i = l2.take i) 0 ⟨aH _,rfl⟩ (rcq [] ⟨⟨_,rfl,zAe 8 rfl⟩,⟨_,rfl,zAe 8 rfl⟩,(sI rfl),tv⟩ trivial .nil) ?_
 rintro i f ⟨hi,heq⟩
 refine zAq tbTk [] 0 _ none mixed _ _ _ ?_
 refine ifK (fun h1=>?_) (fun h1=>?_)
 ·have h1 : i < l1.length:=by have := oT h1;omega
  have h2 : i < l2.length:=by omega
  refine aI (by kernel_rfl) ?_
  refine ifK (fun _=>?_) (fun h2=>ab h2 (by simp [inI];omega))
  refine eI l1[i].n (eI l1[i].t (eI l1[i].c (eI l1[i].ttl (eI l1[i].d (aI (zBa layR h1) ?_)))))
  refine ifK (fun _=>?_) (fun h2=>ab h2 (by simp [inI];omega))
  refine eI l2[i].n (eI l2[i].t (eI l2[i].c (eI l2[i].ttl (eI l2[i].d (aI (zBa layR h2) ?_)))))
  refine aI struct_r ?_
  refine ifK (fun h3=>?_) (fun h3=>?_)
  ·have e : decide (l1 = l2) = false:=aY (fun e=>by
    have he : l1[i] = l2[i]:=zRd h1 h2 e
    rw [he] at h3;simp at h3)
   refine aI rfl (zAh (rcq [] (d:=6) (d2:=0) (lv:=[(4,.bool false)]) (bs:=[]) (W:=[]) (m:=0) (df:=[]) ⟨⟨_,rfl,zAu 8 rfl⟩,tv⟩ trivial .nil) (fun f=>?_))
   rw [e];exact ⟨_,_,_,rfl⟩
  refine ⟨i + 1,⟨h1,zSc h1 h2 heq ?_⟩,by omega,rcq [] ⟨⟨_,rfl,zAe 8 rfl⟩,⟨_,rfl,zAe 8 rfl⟩,zAa rfl (by rw [wrapN (by omega) (by omega)];omega),tv⟩ trivial .nil⟩
  simp only [Bool.not_eq_false',bA,beq_iff_eq,Bool.and_true] at h3
  obtain ⟨q0,q1,q2,q3,q4⟩:=h3
  cases hx : l1[i] with | mk x0 x1 x2 x3 x4 =>
  cases hy : l2[i] with | mk y0 y1 y2 y3 y4 =>
  rw [hx,hy] at q0 q1 q2 q3 q4
  simp only at q0 q1 q2 q3 q4
  rw [zUt q0,q1,q2,q3,zUt q4]
 have h1 : ¬ i < l1.length:=by have := oF h1;omega
 have e : decide (l1 = l2) = true:=aX (by
  have := heq
  rwa [aD (by omega),aD (by omega)] at this)
 refine aI rfl (zAh (rcq [] (d:=6) (d2:=0) (lv:=[]) (bs:=[]) (W:=[]) (m:=0) (df:=[]) trivial trivial .nil) (fun f=>?_))
 rw [e];exact ⟨_,_,_,rfl⟩
noncomputable def ct_sameQT : Ct Try.prog 0:=CtR.tree 38 (List QuX × List QuX) (fun x=>[trQ x.1,trQ x.2]) (fun x=>x.1.length<=9223372036854775807) (fun x=>.bool (decide (x.1 = x.2))) (fun a b h=>by simp only [aQ,and_true] at h;exact Prod.ext (zBs layQ h.1) (zBs layQ h.2)) (fun _=>rfl)
 (fun x hl=>by obtain ⟨r,hF,H,m,wr,rfl⟩:=sameQ_tr x.1 x.2 hl;exact ⟨_,_,_,_,hF,.one _ _ (.plain _ rfl)⟩)
noncomputable def zXr : Ct Try.prog 0:=CtR.tree 39 (List RcX × List RcX) (fun x=>[trR x.1,trR x.2]) (fun x=>x.1.length<=9223372036854775807) (fun x=>.bool (decide (x.1 = x.2))) (fun a b h=>by simp only [aQ,and_true] at h;exact Prod.ext (zBs layR h.1) (zBs layR h.2)) (fun _=>rfl)
 (fun x hl=>by obtain ⟨r,hF,H,m,wr,rfl⟩:=sameRs_tr x.1 x.2 hl;exact ⟨_,_,_,_,hF,.one _ _ (.plain _ rfl)⟩)
theorem zXj (l : List RcX) (n : Int) (hl : l.length<=9223372036854775807) : ∃ r,FnS Try.prog 0 32 [trR l,.int .i64 n] .e 0 r /\ ∃ H m wr,r = .ret (.bool (l.any (bigR n))) H m wr:=by
 refine zBo mixed tbTk [] Try.func32 (c:=bodyOf Try.f32) (by kernel_rfl) ?_
 refine zAp (fun (i : Nat) f=>⟨slots 6 [(0,trR l),(1,.int .i64 n),(5,.int .i64 (i : Nat))] f,heap 0 [],0,[],[]⟩) (fun i=>l.length - i) (fun i=>i<=l.length /\ l.any (bigR n) = (l.drop i).any (bigR n)) 0 ⟨aH _,rfl⟩ (rcq [] ⟨⟨_,rfl,zAe 8 rfl⟩,(sI rfl),(sI rfl),tv⟩ trivial .nil) ?_
 rintro i f ⟨hi,heq⟩
 refine zAq tbTk [] 0 _ none mixed _ _ _ ?_
 refine ifK (fun h1=>?_) (fun h1=>?_)
 ·have h1 : i < l.length:=by have := oT h1;omega
  have hst : (l.drop i).any (bigR n) = (bigR n l[i] || (l.drop (i + 1)).any (bigR n)):=by rw [bD h1];rfl
  rw [hst] at heq
  refine ifK (fun _=>?_) (fun h2=>ab h2 (by simp [inI];omega))
  refine eI l[i].n (eI l[i].t (eI l[i].c (eI l[i].ttl (eI l[i].d (aI (zBa layR h1) ?_)))))
  refine ifK (fun h2=>?_) (fun h2=>?_)
  ·have e : l.any (bigR n) = true:=by rw [heq];unfold bigR;rw [h2];rfl
   refine aI rfl (zAh (rcq [] (d:=6) (d2:=0) (lv:=[(4,.bool true)]) (bs:=[]) (W:=[]) (m:=0) (df:=[]) ⟨⟨_,rfl,zAu 8 rfl⟩,tv⟩ trivial .nil) (fun f=>?_))
   rw [e];exact ⟨_,_,_,rfl⟩
  refine ifK (fun _=>?_) (fun h3=>ab h3 (by simp [inI];omega))
  refine eI l[i].n (eI l[i].t (eI l[i].c (eI l[i].ttl (eI l[i].d (aI (zBa layR h1) ?_)))))
  refine ifK (fun h3=>?_) (fun h3=>?_)
  ·have e : l.any (bigR n) = true:=by rw [heq];unfold bigR;rw [h3];simp
   refine aI rfl (zAh (rcq [] (d:=6) (d2:=0) (lv:=[(4,.bool true)]) (bs:=[]) (W:=[]) (m:=0) (df:=[]) ⟨⟨_,rfl,zAu 8 rfl⟩,tv⟩ trivial .nil) (fun f=>?_))
   rw [e];exact ⟨_,_,_,rfl⟩
  refine ⟨i + 1,⟨h1,?_⟩,by omega,rcq [] ⟨⟨_,rfl,zAe 8 rfl⟩,(sI rfl),zAa rfl (by rw [wrapN (by omega) (by omega)];omega),tv⟩ trivial .nil⟩
  rw [heq];unfold bigR;rw [h2,h3];rfl
 have h1 : ¬ i < l.length:=by have := oF h1;omega
 have e : l.any (bigR n) = false:=by rw [heq,bE (by omega)];rfl
 refine aI rfl (zAh (rcq [] (d:=6) (d2:=0) (lv:=[]) (bs:=[]) (W:=[]) (m:=0) (df:=[]) trivial trivial .nil) (fun f=>?_))
 rw [e];exact ⟨_,_,_,rfl⟩
noncomputable def zSx : Ct Try.prog 0:=CtR.tree 32 (List RcX × Int) (fun x=>[trR x.1,.int .i64 x.2]) (fun x=>x.1.length<=9223372036854775807) (fun x=>.bool (x.1.any (bigR x.2))) (fun a b h=>by simp only [aQ,Value.int.injEq,true_and,and_true] at h;exact Prod.ext (zBs layR h.1) h.2) (fun _=>rfl)
 (fun x hl=>by obtain ⟨r,hF,H,m,wr,rfl⟩:=zXj x.1 x.2 hl;exact ⟨_,_,_,_,hF,.one _ _ (.plain _ rfl)⟩)
structure MsT where
 id : Int
 fl : Int
 q : List QuX
 an : List RcX
 ns : List RcX
 ar : List RcX
def MsT.cs (m : MsT) : List Value:=[.int .i64 m.id,.int .i64 m.fl,trQ m.q,trR m.an,trR m.ns,trR m.ar]
def MsT.v (m : MsT) : Value:=.agg #[.int .i64 m.id,.int .i64 m.fl,trQ m.q,trR m.an,trR m.ns,trR m.ar]
theorem MsT.v_inj {m m' : MsT} (h : m.v = m'.v) : m = m':=by
 obtain ⟨id,fl,q,an,ns,ar⟩:=m
 obtain ⟨id',fl',q',an',ns',ar'⟩:=m'
 simp only [MsT.v,Value.agg.injEq,Array.mk.injEq,aQ,Value.int.injEq,true_and,and_true] at h
 obtain ⟨rfl,rfl,h1,h2,h3,h4⟩:=h
 rw [zBs layQ h1,zBs layR h2,zBs layR h3,zBs layR h4]
def MsT.fit (m : MsT) (k : Nat) : Prop:=m.q.length<=k /\ m.an.length<=k /\ m.ns.length<=k /\ m.ar.length<=k
def MsT.len (m : MsT) : Int:=IntKind.i64.wrap (IntKind.i64.wrap (IntKind.i64.wrap ((m.q.length : Int) + (m.an.length : Int)) + (m.ns.length : Int)) + (m.ar.length : Int))
def MsT.big (m : MsT) (n y : Int) : Bool:=decide (m.len > n) || (m.q.any (bigQ y) || (m.an.any (bigR y) || (m.ns.any (bigR y) || m.ar.any (bigR y))))
noncomputable def tbTk2 : Tb Try.prog 0:=tbOf mixed [zSx]
theorem bigMs_tr (m : MsT) (n y : Int) (hf : m.fit 9223372036854775807) : ∃ r,FnS Try.prog 0 8 [m.v,.int .i64 n,.int .i64 y] .e 0 r /\ ∃ H k wr,r = .ret (.bool (m.big n y)) H k wr:=by
 obtain ⟨id,fl,q,an,ns,ar⟩:=m
 obtain ⟨f1,f2,f3,f4⟩:=hf
 have f1 : q.length<=9223372036854775807:=f1
 refine zBo mixed tbTk2 [] Try.func8 (c:=bodyOf Try.f8) (by kernel_rfl) ?_
 unfold MsT.big
 refine ifK (fun g=>?_) (fun g=>?_)
 ·have e : decide (MsT.len ⟨id,fl,q,an,ns,ar⟩ > n) = true:=g
  rw [e];exact ⟨_,_,_,rfl⟩
 have e0 : decide (MsT.len ⟨id,fl,q,an,ns,ar⟩ > n) = false:=g
 rw [e0,Bool.false_or]
 refine zAp (fun (i : Nat) f=>⟨slots 6 [(2,.int .i64 y),(3,.pointer (some ⟨0,0,none⟩)),(7,.int .i64 (i : Nat))] f,heap 1 [(0,.cells (MsT.cs ⟨id,fl,q,an,ns,ar⟩) 25)],1,[],[]⟩) (fun i=>q.length - i) (fun i=>i<=q.length /\ q.any (bigQ y) = (q.drop i).any (bigQ y)) 0 ⟨aH _,rfl⟩
  (rcq [0] ⟨(sI rfl),(sP rfl rfl),(sI rfl),tv⟩ ⟨⟨by decide,_,rfl,RO.clos rfl⟩,tv⟩ .nil) ?_
 rintro i f ⟨hi,heq⟩
 refine zAq tbTk2 [] 0 _ none mixed _ _ _ ?_
 refine ifK (fun h1=>?_) (fun h1=>?_)
 ·have h1 : i < q.length:=by have h1 : ((i : Nat) : Int) < (q.length : Int):=oT h1;omega
  have hst : (q.drop i).any (bigQ y) = (bigQ y q[i] || (q.drop (i + 1)).any (bigQ y)):=by rw [bD h1];rfl
  rw [hst] at heq
  refine ifK (fun _=>?_) (fun h2=>ab h2 (by simp [inI];omega))
  refine eI q[i].n (eI q[i].t (eI q[i].c (aI (zBa layQ h1) ?_)))
  refine ifK (fun h2=>?_) (fun h2=>?_)
  ·have e : q.any (bigQ y) = true:=by rw [heq];unfold bigQ;rw [h2];rfl
   refine aI rfl (zAh (rcq [] (d:=6) (d2:=0) (lv:=[(6,.bool true)]) (bs:=[]) (W:=[]) (m:=0) (df:=[]) ⟨⟨_,rfl,zAu 8 rfl⟩,tv⟩ trivial .nil) (fun f=>?_))
   rw [e];exact ⟨_,_,_,rfl⟩
  refine ⟨i + 1,⟨h1,?_⟩,by show q.length - (i + 1) < q.length - i;omega,rcq [0] ⟨(sI rfl),(sP rfl rfl),zAa rfl (by rw [wrapN (by omega) (by omega)];omega),tv⟩ ⟨⟨by decide,_,rfl,RO.clos rfl⟩,tv⟩ .nil⟩
  rw [heq];unfold bigQ;rw [h2];rfl
 have h1 : ¬ i < q.length:=fun e=>ab (show ((i : Nat) : Int) < (q.length : Int) by omega) (oF h1)
 have e : q.any (bigQ y) = false:=by rw [heq,bE (by omega)];rfl
 rw [e,Bool.false_or]
 refine aI rfl (zAh (rcq [0] (d:=6) (d2:=1) (lv:=[(2,.int .i64 y),(3,.pointer (some ⟨0,0,none⟩))]) (bs:=[(0,.cells (MsT.cs ⟨id,fl,q,an,ns,ar⟩) 25)]) (W:=[]) (m:=1) (df:=[]) ⟨(sI rfl),(sP rfl rfl),tv⟩ ⟨⟨by decide,_,rfl,RO.clos rfl⟩,tv⟩ .nil) (fun f=>?_))
 refine eI (an,y) (aI ⟨rfl,f2⟩ ?_)
 refine ifK (fun g=>?_) (fun g=>?_)
 ·have e : an.any (bigR y) = true:=g
  rw [e];exact ⟨_,_,_,rfl⟩
 have e : an.any (bigR y) = false:=g
 rw [e,Bool.false_or]
 refine eI (ns,y) (aI ⟨rfl,f3⟩ ?_)
 refine ifK (fun g=>?_) (fun g=>?_)
 ·have e : ns.any (bigR y) = true:=g
  rw [e];exact ⟨_,_,_,rfl⟩
 have e : ns.any (bigR y) = false:=g
 rw [e,Bool.false_or]
 refine eI (ar,y) (aI ⟨rfl,f4⟩ ?_)
 exact ⟨_,_,_,rfl⟩
noncomputable def ct_bigMsT : Ct Try.prog 0:=CtR.tree 8 (MsT × Int × Int) (fun x=>[x.1.v,.int .i64 x.2.1,.int .i64 x.2.2]) (fun x=>x.1.fit 9223372036854775807) (fun x=>.bool (x.1.big x.2.1 x.2.2)) (fun a b h=>by simp only [aQ,Value.int.injEq,true_and,and_true] at h;exact Prod.ext (MsT.v_inj h.1) (Prod.ext h.2.1 h.2.2)) (fun _=>rfl)
 (fun x hf=>by obtain ⟨r,hF,H,k,wr,rfl⟩:=bigMs_tr x.1 x.2.1 x.2.2 hf;exact ⟨_,_,_,_,hF,.one _ _ (.plain _ rfl)⟩)
end
section
open Go Go.RowKit
theorem count_tr (l : List RcX) (hl : l.length<=4611686018427387903) : ∃ r,FnS Try.prog 0 34 [trR l] .e 0 r /\ ∃ H m wr,r = .ret (.int .i64 (cntO l : Int)) H m wr:=by
 refine zBo mixed tbEd [] Try.func34 (c:=bodyOf Try.f34) (by kernel_rfl) ?_
 refine zTc (rcq [0,1] (d:=4) (d2:=2) (lv:=[(3,.pointer (some ⟨0,0,none⟩)),(5,.func (.func 61) #[] #[.pointer (some ⟨1,0,none⟩)])]) (bs:=[(0,.cells [.int .i64 0] 3),(1,.cells [trR l] 23)]) (W:=[]) (m:=2) (df:=[]) ⟨(sP rfl rfl),⟨_,rfl,.func _ _ _ _ _ rfl .nil (.cons _ _ _ _ (.ptr _ _ _ rfl) .nil)⟩,tv⟩ ⟨bpo rfl,⟨by decide,_,rfl,RO.clos rfl⟩,tv⟩ .nil) (fun g hg=>?_)
 refine zFi 2 3 4 rfl rfl l 1 (trR l) 23 [0] (fun i=>heap 3 [(0,.cells [.int .i64 (cntO (l.take i) : Int)] 3),(1,.cells [trR l] 23),(2,.defs)]) (fun _=>4) l.length none rfl rfl rfl (by decide) hl (by decide) (zIh ?_ fun t=>(hg t).mono (aH _)) rfl (.inr (.inr rfl)) ?_ ?_ (fun _ _=>aJ 4) ?_ ?_ rfl ?_
 ·intro p hp
  simp only [aK,List.not_mem_nil,or_false] at hp
  rcases hp with rfl | rfl
  ·exact KpV.ptr (by decide)
  exact KpV.fn (by simp) (by simp only [aK,List.not_mem_nil,or_false];rintro v rfl;exact KpV.ptr (by decide))
 ·exact zCp (d:=4) (lv:=[]) (rcq [] trivial ⟨bpo rfl,⟨by decide,_,rfl,RO.clos rfl⟩,⟨by decide,_,rfl,.defs⟩,tv⟩ .nil)
 ·intro i hi
  refine zHe fun p hp r e=>?_
  simp only [aK,List.not_mem_nil,or_false] at hp
  rcases hp with rfl | rfl | rfl <;> cases e
 ·intro i h him h41
  refine ⟨_,rfl,?_⟩
  refine zAq tbEd [] 4 _ (some 3) mixed _ _ _ ?_
  refine ⟨rfl,?_,?_⟩
  ·refine zHe fun p hp r e=>?_
   simp only [aK,List.not_mem_nil,or_false] at hp
   rcases hp with rfl | rfl | rfl <;> cases e
  refine zAq tbEd [] 4 _ (some 3) mixed _ _ _ ?_
  refine ⟨rfl,?_⟩
  have e:=cntO_in l i h
  have hc:=cntO_le l i
  rw [if_pos h41] at e
  rw [e]
  exact zCp (d:=4) (lv:=[]) (zAn [] rfl rfl rfl (fun l e=>by cases e;decide) (by decide) (by decide) rfl rfl (zAy rfl) trivial ⟨⟨by decide,_,rfl,zAs (by rw [wrapN (by omega) (by omega)];rfl) rfl⟩,⟨by decide,_,rfl,RO.clos rfl⟩,⟨by decide,_,rfl,.defs⟩,tv⟩ .nil)
 ·intro i h him h41
  have e:=cntO_in l i h
  rw [if_neg h41] at e
  simp only [e,and_self]
 have e : cntO (l.take l.length) = cntO l:=by rw [List.take_length]
 rw [<- e]
 exact ⟨_,_,_,rfl⟩
noncomputable def zQp : Ct Try.prog 0:=CtR.tree 34 (List RcX) (fun l=>[trR l]) (fun l=>l.length<=4611686018427387903) (fun l=>.int .i64 (cntO l : Int)) (fun a b h=>by simp only [aQ,and_true] at h;exact zBs layR h) (fun _=>rfl)
 (fun l hl=>by obtain ⟨r,hF,H,m,wr,rfl⟩:=count_tr l hl;exact ⟨_,_,_,_,hF,.one _ _ (.plain _ rfl)⟩)
end
section
open Go Go.RowKit
structure LtM where
 m : MsT
 q : Value
 an : Value
 ns : Value
 ar : Value
def LtM.v (x : LtM) : Value:=.agg #[.int .i64 x.m.id,.int .i64 x.m.fl,x.q,x.an,x.ns,x.ar]
def LtM.at (x : LtM) (H : Tr AObj) : Prop:=LtL layQ H x.q x.m.q /\ LtL layR H x.an x.m.an /\ LtL layR H x.ns x.m.ns /\ LtL layR H x.ar x.m.ar
theorem LtM.uniq {x y : LtM} {H : Tr AObj} (e : x.v = y.v) (h : x.at H) (k : y.at H) : x = y:=by
 obtain ⟨⟨i,f,q,a,n,r⟩,vq,va,vn,vr⟩:=x
 obtain ⟨⟨i',f',q',a',n',r'⟩,vq',va',vn',vr'⟩:=y
 simp only [LtM.v,Value.agg.injEq,Array.mk.injEq,aQ,Value.int.injEq,true_and,and_true] at e
 obtain ⟨rfl,rfl,rfl,rfl,rfl,rfl⟩:=e
 obtain ⟨h1,h2,h3,h4⟩:=h
 obtain ⟨k1,k2,k3,k4⟩:=k
 have e1 : q = q':=h1.uniq k1
 have e2 : a = a':=h2.uniq k2
 have e3 : n = n':=h3.uniq k3
 have e4 : r = r':=h4.uniq k4
 subst e1;subst e2;subst e3;subst e4;rfl
theorem LtM.frz {x : LtM} {H : Tr AObj} (h : x.at H) : FrzP True Try.prog 0 H x.v x.m.v:=by
 obtain ⟨h1,h2,h3,h4⟩:=h
 exact .agg _ _ (.cons _ _ _ _ (.one _ _ (.plain _ rfl)) (.cons _ _ _ _ (.one _ _ (.plain _ rfl)) (.cons _ _ _ _ (h1.frz (by kernel_rfl)) (.cons _ _ _ _ (h2.frz (by kernel_rfl)) (.cons _ _ _ _ (h3.frz (by kernel_rfl)) (.cons _ _ _ _ (h4.frz (by kernel_rfl)) .nil))))))
def MsT.lt (m : MsT) : LtM:=⟨m,trQ m.q,trR m.an,trR m.ns,trR m.ar⟩
theorem MsT.lt_at (m : MsT) (H : Tr AObj) : m.lt.at H:=⟨.tree _ _ _,.tree _ _ _,.tree _ _ _,.tree _ _ _⟩
noncomputable def CtR.lendM (f : FuncId) (pre : MsT -> Prop) (out : MsT -> Value) (ok : ∀ m,pre m -> ∃ v H k wr,FnS Try.prog 0 f [m.v] .e 0 (.ret v H k wr) /\ FrzP False Try.prog 0 H v (out m))
  (tr : MsT -> (Value -> Prop) -> Prop:=fun x F=>F (out x)) (trOk : ∀ x F,tr x F -> F (out x):=by exact fun _ _ h=>h) : Ct Try.prog 0 :=
 CtR.lend f LtM (fun x=>[x.v]) LtM.at (fun x=>[x.m.v]) (fun x=>pre x.m) (fun x=>out x.m) (fun _ _ _ e h k=>LtM.uniq (by simpa using e) h k) (fun _ _ h=>.cons _ _ _ _ (LtM.frz h) .nil) (fun x h=>ok x.m h) (fun x=>tr x.m) (fun x=>trOk x.m)
end
section
open Go Go.RowKit
def woT (l : List RcX) (o : List RcX) (fr : Nat) : Tr AObj:=match o with
 | []=>heap 4 [(0,.cells [trR l] 23),(1,.cells [.slice none 0 0] 23),(2,.cells [.int .i64 (fr : Int)] 3),(3,.cells [trR l] 23),(4,.defs)]
 | x :: o=>heap 4 [(0,.cells [trR l] 23),(1,.cells [.slice (some ⟨6,0,none⟩) (o.length + 1) U] 23),(2,.cells [.int .i64 (fr : Int)] 3),(3,.cells [trR l] 23),(4,.defs),(6,.cells ((x :: o).flatMap layR.g) 48)]
def woM (o : List RcX) : Nat:=match o with
 | []=>6
 | _ :: _=>7
theorem zJj (l o : List RcX) (fr : Nat) : zFo (woT l o fr):=by
 cases o <;>
 ·refine zHe fun p hp r e=>?_
  simp only [aK,List.not_mem_nil,or_false] at hp
  rcases hp with rfl | rfl | rfl | rfl | rfl | rfl <;> cases e
theorem zYp (l : List RcX) (hl : l.length<=1000000000) : ∃ r,FnS Try.prog 0 46 [trR l] .e 0 r /\ ∃ v H m wr,r = .ret v H m wr /\ OwnR layR 23 H v (l.filter nop):=by
 refine zBo mixed tbEd [] Try.func46 (c:=bodyOf Try.f46) (by kernel_rfl) ?_
 refine zTc (rcq [0,1,2,3] (d:=5) (d2:=3) (lv:=[(1,.pointer (some ⟨0,0,none⟩)),(3,.pointer (some ⟨1,0,none⟩)),(4,.pointer (some ⟨2,0,none⟩)),(7,.func (.func 61) #[] #[.pointer (some ⟨3,0,none⟩)])]) (bs:=[(0,.cells [trR l] 23),(1,.cells [.slice none 0 0] 23),(2,.cells [.int .i64 0] 3),(3,.cells [trR l] 23)]) (W:=[]) (m:=4) (df:=[]) ⟨(sP rfl rfl),(sP rfl rfl),(sP rfl rfl),⟨_,rfl,.func _ _ _ _ _ rfl .nil (.cons _ _ _ _ (.ptr _ _ _ rfl) .nil)⟩,tv⟩ ⟨⟨by decide,_,rfl,RO.clos rfl⟩,bpo rfl,bpo rfl,⟨by decide,_,rfl,RO.clos rfl⟩,tv⟩ .nil) (fun g hg=>?_)
 refine zFi 4 5 6 rfl rfl l 3 (trR l) 23 [1,2] (fun i=>woT l (outO l i) (fromO l i)) (fun i=>woM (outO l i)) l.length none rfl rfl rfl (by decide) (by omega) (by decide) (zIh ?_ fun t=>(hg t).mono (aH _)) rfl (.inr (.inr rfl)) ?_ (fun i _=>zJj _ _ _) ?_ ?_ ?_ rfl ?_
 ·intro p hp
  simp only [aK,List.not_mem_nil,or_false] at hp
  rcases hp with rfl | rfl | rfl | rfl
  ·exact KpV.ptr (by decide)
  ·exact KpV.ptr (by decide)
  ·exact KpV.ptr (by decide)
  exact KpV.fn (by simp) (by simp only [aK,List.not_mem_nil,or_false];rintro v rfl;exact KpV.ptr (by decide))
 ·refine zCp (d:=5) (lv:=[]) (n:=6) (H:=heap 4 [(0,.cells [trR l] 23),(1,.cells [.slice none 0 0] 23),(2,.cells [.int .i64 0] 3),(3,.cells [trR l] 23),(4,.defs)]) ?_
  exact rcq [] trivial ⟨⟨by decide,_,rfl,RO.clos rfl⟩,bpo rfl,bpo rfl,⟨by decide,_,rfl,RO.clos rfl⟩,⟨by decide,_,rfl,.defs⟩,tv⟩ .nil
 ·intro i _
  show 6<=woM (outO l i)
  cases outO l i <;> simp [woM]
 ·intro i h him h41
  obtain ⟨e1,e2⟩:=outO_step l i h h41
  have hfr:=zKc l i
  show RoundS Try.prog 6 _ 5 _ _ _ _ _ i _ (woT l (outO l i) (fromO l i)) (woM (outO l i)) .normal (woT l (outO l (i + 1)) (fromO l (i + 1))) (woM (outO l (i + 1)))
  rw [e1,e2]
  refine ⟨_,rfl,?_⟩
  have ho : (outO l i).length<=1000000000:=by unfold outO;exact aW (List.length_filter_le _ _) (by rw [aU];omega)
  generalize fromO l i = fr at hfr ⊢
  generalize outO l i = o at ho ⊢
  have hz : (Try.prog.types[48]).size = 5:=by kernel_rfl
  have hby : (Try.prog.types[48]).bytes<=100:=by decide +kernel
  have hwr : [Value.int .i64 (IntKind.i64.wrap ((i : Int) + 1))] = [Value.int .i64 ((i + 1 : Nat) : Int)]:=by rw [wrapN (by omega) (by omega)];rfl
  have hpl2 : ((l.drop fr).take (i - fr)).length = i - fr:=by rw [aU,aM];omega
  cases o with
  | nil =>
   refine zAq tbEd [] 6 _ (some 5) mixed _ _ _ ?_
   refine ⟨rfl,zJj l [] fr,?_⟩
   refine zAq tbEd [] 6 _ (some 5) mixed _ _ _ ?_
   refine aI (by kernel_rfl) ?_
   refine aI (by simp only [inLH,bA,dT];and_intros <;> omega) ?_
   refine eI (i - fr) (eI (((l.drop fr).take (i - fr)).flatMap layR.g) (aI ⟨by omega,zMk layR l _ _⟩ ?_))
   refine ifK (fun h0=>?_) (fun h0=>?_)
   ·have hif : i - fr = 0:=aA h0
    have hp0 : []++(l.drop fr).take (i - fr) = ([] : List RcX):=by rw [hif];simp
    rw [hp0]
    refine ⟨rfl,zCp (d:=5) (lv:=[]) (n:=6) (H:=heap 4 [(0,.cells [trR l] 23),(1,.cells [.slice none 0 0] 23),(2,.cells [.int .i64 ((i + 1 : Nat) : Int)] 3),(3,.cells [trR l] 23),(4,.defs)]) ?_⟩
    exact zAn [] rfl rfl rfl (fun l e=>by cases e;decide) (by decide) (by decide) rfl rfl (zAy rfl) trivial ⟨⟨by decide,_,rfl,RO.clos rfl⟩,bpo rfl,⟨by decide,_,rfl,zAs hwr rfl⟩,⟨by decide,_,rfl,RO.clos rfl⟩,⟨by decide,_,rfl,.defs⟩,tv⟩ .nil
   have hif : i - fr ≠ 0:=fun e=>by rw [e] at h0;simp at h0
   refine aI (by simp only [bA,dT];have := Nat.mul_le_mul_right (Try.prog.types[48]).bytes (show i - fr<=1000000000 by omega);and_intros <;> omega) ?_
   rw [List.nil_append]
   cases hp : (l.drop fr).take (i - fr) with
   | nil=>rw [hp] at hpl2;simp at hpl2;omega
   | cons y ys =>
    rw [hp] at hpl2
    have hln : i - fr = ys.length + 1:=by simp at hpl2;omega
    refine ⟨rfl,zCp (d:=5) (lv:=[]) (n:=7) (H:=heap 4 [(0,.cells [trR l] 23),(1,.cells [.slice (some ⟨6,0,none⟩) (ys.length + 1) U] 23),(2,.cells [.int .i64 ((i + 1 : Nat) : Int)] 3),(3,.cells [trR l] 23),(4,.defs),(6,.cells ((y :: ys).flatMap layR.g) 48)]) ?_⟩
    exact zAn [6] rfl rfl rfl (fun l e=>by cases e;decide) (by decide) (by decide) rfl rfl (zAy rfl) trivial ⟨⟨by decide,_,rfl,RO.clos rfl⟩,⟨by decide,_,rfl,by rw [hln];exact zAw rfl⟩,⟨by decide,_,rfl,zAs hwr rfl⟩,⟨by decide,_,rfl,RO.clos rfl⟩,⟨by decide,_,rfl,.defs⟩,bpo (zAb layR.g layR.plain (y :: ys)),tv⟩ .nil
  | cons x o =>
   refine zAq tbEd [] 6 _ (some 5) mixed _ _ _ ?_
   refine ⟨rfl,zJj l (x :: o) fr,?_⟩
   refine zAq tbEd [] 6 _ (some 5) mixed _ _ _ ?_
   refine aI (by kernel_rfl) ?_
   refine aI (by simp only [inLH,bA,dT];and_intros <;> omega) ?_
   refine eI (i - fr) (eI (((l.drop fr).take (i - fr)).flatMap layR.g) (aI ⟨by omega,zMk layR l _ _⟩ ?_))
   refine ifK (fun h0=>?_) (fun h0=>?_)
   ·have hif : i - fr = 0:=aA h0
    have hp0 : (x :: o)++(l.drop fr).take (i - fr) = x :: o:=by rw [hif];simp
    rw [hp0]
    refine ⟨rfl,zCp (d:=5) (lv:=[]) (n:=7) (H:=heap 4 [(0,.cells [trR l] 23),(1,.cells [.slice (some ⟨6,0,none⟩) (o.length + 1) U] 23),(2,.cells [.int .i64 ((i + 1 : Nat) : Int)] 3),(3,.cells [trR l] 23),(4,.defs),(6,.cells ((x :: o).flatMap layR.g) 48)]) ?_⟩
    exact zAn [6] rfl rfl rfl (fun l e=>by cases e;decide) (by decide) (by decide) rfl rfl (zAy rfl) trivial ⟨⟨by decide,_,rfl,RO.clos rfl⟩,⟨by decide,_,rfl,zAw rfl⟩,⟨by decide,_,rfl,zAs hwr rfl⟩,⟨by decide,_,rfl,RO.clos rfl⟩,⟨by decide,_,rfl,.defs⟩,bpo (zAb layR.g layR.plain (x :: o)),tv⟩ .nil
   have hif : i - fr ≠ 0:=fun e=>by rw [e] at h0;simp at h0
   have hol : (x :: o).length<=1000000000:=ho
   have hlen : ((x :: o).flatMap layR.g).length = (o.length + 1) * 5:=zAf layR.g 5 layR.len (x :: o)
   have hlen2 : (((l.drop fr).take (i - fr)).flatMap layR.g).length = (i - fr) * 5:=by rw [zAf layR.g 5 layR.len,hpl2]
   refine aI ?_ ?_
   ·simp only [bA,dT]
    have hol : o.length + 1<=1000000000:=hol
    have := Nat.mul_le_mul (show o.length + 1 + (i - fr)<=2000000000 by omega) hby
    refine ⟨⟨⟨⟨⟨⟨rfl,rfl⟩,bL ?_⟩,zVq (fun _=>rfl) _⟩,?_⟩,?_⟩,bL ?_⟩
    ·rw [hz,hlen];exact aJ _
    ·omega
    ·omega
    rw [hz,hlen,hlen2];omega
   have hnew : (((x :: o).flatMap layR.g).take ((o.length + 1) * (Try.prog.types[48]).size)++((l.drop fr).take (i - fr)).flatMap layR.g) = (x :: (o++(l.drop fr).take (i - fr))).flatMap layR.g:=by
    rw [hz,aD (by rw [hlen];exact aJ _),<- List.flatMap_append];rfl
   have hn2 : o.length + 1 + (i - fr) = (o++(l.drop fr).take (i - fr)).length + 1:=by rw [aB,hpl2];omega
   refine ⟨rfl,zCp (d:=5) (lv:=[]) (n:=7) (H:=heap 4 [(0,.cells [trR l] 23),(1,.cells [.slice (some ⟨6,0,none⟩) ((o++(l.drop fr).take (i - fr)).length + 1) U] 23),(2,.cells [.int .i64 ((i + 1 : Nat) : Int)] 3),(3,.cells [trR l] 23),(4,.defs),(6,.cells ((x :: (o++(l.drop fr).take (i - fr))).flatMap layR.g) 48)]) ?_⟩
   exact zAn [7] rfl rfl rfl (fun l e=>by cases e;decide) (by decide) (by decide) rfl rfl (zAy rfl) trivial ⟨⟨by decide,_,rfl,RO.clos rfl⟩,⟨by decide,_,rfl,by rw [hn2];exact zAw rfl⟩,⟨by decide,_,rfl,zAs hwr rfl⟩,⟨by decide,_,rfl,RO.clos rfl⟩,⟨by decide,_,rfl,.defs⟩,⟨by decide,_,rfl,zAs hnew (zAb layR.g layR.plain _)⟩,tv⟩ .nil
 ·intro i h him h41
  obtain ⟨e1,e2⟩:=outO_skip l i h h41
  simp only [e1,e2,and_self]
 have hend:=outO_end l
 have hfr:=zKc l l.length
 have ho : (outO l l.length).length<=1000000000:=by unfold outO;exact aW (List.length_filter_le _ _) (by rw [aU];omega)
 have hz : (Try.prog.types[48]).size = 5:=by kernel_rfl
 have hz' : (Try.prog.info? 48).map (·.size) = some 5:=by kernel_rfl
 have hby : (Try.prog.types[48]).bytes<=100:=by decide +kernel
 have hn : l.length - fromO l l.length = (l.drop (fromO l l.length)).length:=by rw [aM]
 have hpt : ((l.flatMap layR.g).drop (fromO l l.length * 5)).take ((l.length - fromO l l.length) * 5) = (l.drop (fromO l l.length)).flatMap layR.g:=by
  rw [show (5 : Nat) = layR.k from rfl,zMk layR,aD (by rw [aM];omega)]
 generalize outO l l.length = o at hend ho ⊢
 generalize fromO l l.length = fr at hend hfr hn hpt ⊢
 cases o with
 | nil =>
  refine aI (by kernel_rfl) ?_
  refine aI (by simp only [inLH,bA,dT];and_intros <;> omega) ?_
  refine eI (l.length - fr) (eI ((l.drop fr).flatMap layR.g) (aI ⟨by omega,hpt⟩ ?_))
  refine ifK (fun h0=>?_) (fun h0=>?_)
  ·have hif : l.length - fr = 0:=aA h0
   refine ⟨_,_,_,_,rfl,?_⟩
   rw [hend,show l.drop fr = [] from bE (by omega)]
   exact .inl ⟨rfl,rfl,0,_,by decide,rfl⟩
  refine aI (by simp only [bA,dT];have := Nat.mul_le_mul_right (Try.prog.types[48]).bytes (show l.length - fr<=1000000000 by omega);and_intros <;> omega) ?_
  refine ⟨_,_,_,_,rfl,?_⟩
  rw [hend,List.nil_append]
  exact .inr ⟨_,congrArg (fun n=>Value.slice (some ⟨_,0,none⟩) n U) hn,by decide,fun e=>by rw [e] at hn;rw [hn] at h0;exact ab h0 (by decide),rfl⟩
 | cons x o =>
  have hol : (x :: o).length<=1000000000:=ho
  have hlen : ((x :: o).flatMap layR.g).length = (o.length + 1) * 5:=zAf layR.g 5 layR.len (x :: o)
  have hlen2 : ((l.drop fr).flatMap layR.g).length = (l.length - fr) * 5:=by rw [zAf layR.g 5 layR.len,hn]
  refine aI (by kernel_rfl) ?_
  refine aI (by simp only [inLH,bA,dT];and_intros <;> omega) ?_
  refine eI (l.length - fr) (eI ((l.drop fr).flatMap layR.g) (aI ⟨by omega,hpt⟩ ?_))
  refine ifK (fun h0=>?_) (fun h0=>?_)
  ·have hif : l.length - fr = 0:=aA h0
   refine ⟨_,_,_,_,rfl,?_⟩
   rw [hend,show l.drop fr = [] from bE (by omega),aF]
   exact .inr ⟨_,rfl,by decide,by simp,rfl⟩
  have hif : l.length - fr ≠ 0:=fun e=>by rw [e] at h0;simp at h0
  refine aI ?_ ?_
  ·simp only [bA,dT]
   have hol : o.length + 1<=1000000000:=hol
   have := Nat.mul_le_mul (show o.length + 1 + (l.length - fr)<=2000000000 by omega) hby
   refine ⟨⟨⟨⟨⟨⟨rfl,rfl⟩,bL ?_⟩,zVq (fun _=>rfl) _⟩,?_⟩,?_⟩,bL ?_⟩
   ·rw [hz,hlen];exact aJ _
   ·omega
   ·omega
   rw [hz,hlen,hlen2];omega
  have hnew : (((x :: o).flatMap layR.g).take ((o.length + 1) * (Try.prog.types[48]).size)++(l.drop fr).flatMap layR.g) = ((x :: o)++l.drop fr).flatMap layR.g:=by
   rw [hz,aD (by rw [hlen];exact aJ _),<- List.flatMap_append]
  have hn2 : o.length + 1 + (l.length - fr) = ((x :: o)++l.drop fr).length:=by rw [aB,<- hn];rfl
  refine ⟨_,_,_,_,rfl,?_⟩
  rw [hend]
  exact .inr ⟨_,congrArg (fun n=>Value.slice (some ⟨_,0,none⟩) n U) hn2,by decide,by simp,Eq.trans rfl (congrArg (fun c=>some (AObj.cells c 48)) hnew)⟩
noncomputable def zTb : Ct Try.prog 0 :=
 CtR.ct { f:=46,X:=List RcX × Value,pre:=fun x a H _=>a = [x.2] /\ LtL layR H x.2 x.1 /\ x.1.length<=1000000000,out:=fun x H n=>.ret (ownV n (x.1.filter nop)) (H.set n (some (ownB layR 23 (x.1.filter nop)))) (n + 1) [],
          ok:=fun x as0 H n ⟨h1,h2,h3⟩=>by
           subst h1
           obtain ⟨r,hF,v,H',m,wr,rfl,hz⟩:=zYp x.1 h3
           exact hz.call hF (.cons _ _ _ _ (h2.frz (by kernel_rfl)) .nil) (by rw [show Try.prog.underlying 23 = some (.slice 48) by kernel_rfl];simp),
          uniq:=fun x x' a H m ⟨h1,h2,_⟩ ⟨k1,k2,_⟩=>by
           obtain ⟨l,v⟩:=x
           obtain ⟨l',v'⟩:=x'
           rw [h1] at k1
           simp only [aQ,and_true] at k1
           subst k1
           have e : l = l':=h2.uniq k2
           subst e;rfl }
end
section
open Go Go.RowKit
structure OpX where
 c : Int
 d : ByteArray
def layO : Lay OpX where
 g x:=[.int .i64 x.c,.string x.d]
 k:=2
 t:=60
 len _:=rfl
 pos:=by decide
 plain _:=rfl
 inj x y h:=by
  obtain ⟨c,d⟩:=x
  obtain ⟨c',d'⟩:=y
  simp only [aQ,Value.int.injEq,Value.string.injEq,true_and,and_true] at h
  rw [h.1,h.2]
abbrev trO (l : List OpX) : Value:=treeV 2 l.length (l.flatMap layO.g)
def opSz (B : Bl) (i : Nat) : Nat:=beN ((B.drop (i + 2)).take 2)
def opAt (B : Bl) (i : Nat) : OpX:=⟨(beN ((B.drop i).take 2) : Nat),⟨((B.drop (i + 4)).take (opSz B i)).toArray⟩⟩
def optF (B : Bl) : Nat -> Nat -> List OpX -> Option (List OpX)
 | 0,_,_=>none
 | f + 1,i,out=>if B.length<=i then some out else if i + 4<=B.length /\ i + 4 + opSz B i<=B.length then optF B f (i + 4 + opSz B i) (out++[opAt B i]) else none
def optL (B : Bl) : Option (List OpX):=optF B (B.length + 1) 0 []
def opInv (B : Bl) (p : Nat × List OpX) : Prop:=(∃ f,B.length < f + p.1 /\ optL B = optF B f p.1 p.2) /\ p.2.length<=p.1 /\ p.1<=B.length
theorem opInv.start (B : Bl) : opInv B (0,[]):=⟨⟨B.length + 1,by show _ < _;omega,rfl⟩,aJ _,aH _⟩
theorem opInv.done {B : Bl} {i : Nat} {o : List OpX} (h : opInv B (i,o)) (hi : ¬ i < B.length) : optL B = some o:=by
 obtain ⟨⟨f,h1,h2⟩,_,h4⟩:=h
 have h1 : B.length < f + i:=h1
 have h4 : i<=B.length:=h4
 cases f with
 | zero=>omega
 | succ f=>rw [h2];unfold optF;rw [if_pos (by show B.length<=i;omega)]
theorem opInv.bad {B : Bl} {i : Nat} {o : List OpX} (h : opInv B (i,o)) (hi : i < B.length) (hb : ¬ (i + 4<=B.length /\ i + 4 + opSz B i<=B.length)) : optL B = none:=by
 obtain ⟨⟨f,h1,h2⟩,_,h4⟩:=h
 have h1 : B.length < f + i:=h1
 cases f with
 | zero=>omega
 | succ f=>rw [h2];unfold optF;rw [if_neg (by show ¬ B.length<=i;omega),if_neg hb]
theorem opInv.step {B : Bl} {i : Nat} {o : List OpX} (h : opInv B (i,o)) (hi : i < B.length) (h3 : i + 4<=B.length) (h5 : i + 4 + opSz B i<=B.length) : opInv B (i + 4 + opSz B i,o++[opAt B i]):=by
 obtain ⟨⟨f,h1,h2⟩,h4,_⟩:=h
 have h1 : B.length < f + i:=h1
 have h4 : o.length<=i:=h4
 cases f with
 | zero=>omega
 | succ f =>
  refine ⟨⟨f,by show _ < f + (i + 4 + opSz B i);omega,?_⟩,by show (o++[_]).length<=i + 4 + _;simp;omega,h5⟩
  rw [h2]
  show optF B (f + 1) i o = _
  unfold optF
  rw [if_neg (by show ¬ B.length<=i;omega),if_pos ⟨h3,h5⟩]
  cases f <;> rfl
theorem zVj {G : Gh} {b c : Nat} {l : Bl} (hG : (G b).bind AObj.look = some (l.map byV)) (h0 : l.length ≠ 0) : zAl G 1 (.slice (some ⟨b,0,none⟩) l.length c) = some (l.length,l.map fun b=>.int .u8 (b.toNat : Int)):=by
 unfold zAl
 have hb : l.length.beq 0 = false:=by cases hb : l.length.beq 0;rfl;exact ab (aA hb) h0
 simp only [hb,cF,hG]
 rw [show (0 + l.length * 1).ble (l.map byV).length = true from bL (by simp)]
 rw [aR,List.drop_zero,aD (by simp)]
 rfl
theorem beN2_le (l : Bl) : beN (l.take 2)<=65535:=by
 have h : ∀ (a : Bl),a.length<=2 -> beN a < 65536:=fun a ha=>by
  have := beN_lt a
  have h2 : 256 ^ a.length<=256 ^ 2:=Nat.pow_le_pow_right (by decide) ha
  have : (256 : Nat) ^ 2 = 65536:=by decide
  omega
 have := h (l.take 2) (by simp;omega)
 omega
theorem opSz_le (B : Bl) (i : Nat) : opSz B i<=65535:=beN2_le _
noncomputable def tbOp : Tb Try.prog 0:=tbOf mixed [zOm,zVl]
def opS (B : Bl) (p : Nat × List OpX) (f : Nat -> Option Value) : Fs:=match p.2 with
 | []=>⟨slots 7 [(4,.slice (some ⟨0,0,none⟩) B.length U),(5,.slice none 0 0),(6,.int .i64 (p.1 : Nat))] f,heap 3 [(0,.cells (B.map byV) 5)],1,[],[]⟩
 | x :: o=>⟨slots 7 [(4,.slice (some ⟨0,0,none⟩) B.length U),(5,.slice (some ⟨1,0,none⟩) (o.length + 1) U),(6,.int .i64 (p.1 : Nat))] f,heap 3 [(0,.cells (B.map byV) 5),(1,.cells ((x :: o).flatMap layO.g) 60)],2,[],[]⟩
def OptR (H : Tr AObj) (v : Value) (o : Option (List OpX)) : Prop:=(o = none /\ v = .tuple #[.slice none 0 0,.bool false]) \/ (o = some [] /\ v = .tuple #[.slice none 0 0,.bool true]) \/ ∃ b l,o = some l /\ l ≠ [] /\ v = .tuple #[.slice (some ⟨b,0,none⟩) l.length U,.bool true] /\ b < JJ /\ H.get b = some (.cells (l.flatMap layO.g) 60)
theorem opt_src (B : Bl) (i : Nat) (h : i + 4 + opSz B i<=B.length) : ((B.drop (i + 4)).take (opSz B i)).length = opSz B i:=by rw [aU,aM];omega
theorem opt_tr (s : ByteArray) (hs : s.data.toList.length<=1000000) : ∃ r,FnS Try.prog 0 44 [.string s] .e 0 r /\ ∃ v H m wr,r = .ret v H m wr /\ OptR H v (optL s.data.toList):=by
 refine zBo mixed tbOp [] Try.func44 (c:=bodyOf Try.f44) (by kernel_rfl) ?_
 refine ifK (fun _=>?_) (fun h=>ab (oF h) (by omega))
 generalize s.data.toList = B at hs ⊢
 have hB9 : B.length<=1000000000:=by omega
 have hz : (Try.prog.types[60]).size = 2:=by kernel_rfl
 have hz' : (Try.prog.info? 60).map (·.size) = some 2:=by kernel_rfl
 have hby : (Try.prog.types[60]).bytes<=100:=by decide +kernel
 refine zAp (opS B) (fun p=>B.length - p.1) (opInv B) (0,[]) (opInv.start B) (rcq [0] (d2:=3) (bs:=[(0,.cells (B.map byV) 5)]) (m:=1) ⟨(sL rfl rfl),⟨_,rfl,.snil _ _⟩,(sI rfl),tv⟩ ⟨bpo (zAc B),tv⟩ .nil) ?_
 rintro ⟨i,o⟩ f hinv
 have hio : o.length<=i:=hinv.2.1
 have hiB : i<=B.length:=hinv.2.2
 cases o with
 | nil =>
  refine zAq tbOp [2] 0 _ none mixed _ _ _ ?_
  refine ifK (fun h1=>?_) (fun h1=>?_)
  ·have h1 : i < B.length:=by have := oT h1;omega
   refine eI (⟨0,0,B.length,U,B⟩,((i : Nat) : Int)) (aI ⟨rfl,⟨zCt rfl,by show 0 + B.length<=B.length;omega⟩,hB9⟩ ?_)
   refine ifK (fun h=>ab h (by dsimp only;simp only [Bool.or_eq_true,dT];omega)) (fun _=>?_)
   refine ifK (fun h2=>?_) (fun h2=>?_)
   ·have h2 : i + 2<=B.length:=by have := aE h2;simpa using this
    refine eI (⟨0,0,B.length,U,B⟩,((i + 2 : Nat) : Int)) (aI ⟨rfl,⟨zCt rfl,by show 0 + B.length<=B.length;omega⟩,hB9⟩ ?_)
    refine ifK (fun h=>ab h (by dsimp only;simp only [Bool.or_eq_true,dT];omega)) (fun _=>?_)
    refine ifK (fun h2=>?_) (fun h2=>?_)
    ·have h4 : i + 4<=B.length:=by have h:=aE h2;have h : ((i + 2 : Nat) : Int).toNat + 2<=B.length:=h;rw [aO] at h;omega
     have hsz : beN ((B.drop (0 + (((i + 2 : Nat) : Int)).toNat)).take 2) = opSz B i:=by unfold opSz;rw [aO,aS]
     have hle:=opSz_le B i
     refine eI (⟨0,0,B.length,U,B⟩,((i + 4 : Nat) : Int),((opSz B i : Nat) : Int)) (aI ⟨by simp only [RdB.sl];rw [<- hsz];rfl,⟨zCt rfl,by show 0 + B.length<=B.length;omega⟩,hB9,.inl rfl⟩ ?_)
     refine ifK (fun h=>ab h (by dsimp only;simp only [Bool.or_eq_true,dT];omega)) (fun _=>?_)
     refine ifK (fun h3=>?_) (fun h3=>?_)
     ·rw [hinv.bad h1 (by have h3:=oT h3;have h3 : (B.length : Int) - ((i + 4 : Nat) : Int) < ((opSz B i : Nat) : Int):=h3;omega)]
      refine aI rfl (zAh (rcq [] (d:=7) (d2:=0) (lv:=[(2,.slice none 0 0),(3,.bool false)]) (bs:=[]) (W:=[]) (m:=0) (df:=[]) ⟨⟨_,rfl,.snil _ _⟩,⟨_,rfl,.bool _⟩,tv⟩ trivial .nil) (fun f=>?_))
      exact ⟨_,_,_,_,rfl,.inl ⟨rfl,rfl⟩⟩
     have h5 : i + 4 + opSz B i<=B.length:=by have h3:=oF h3;have h3 : ¬ ((B.length : Int) - ((i + 4 : Nat) : Int) < ((opSz B i : Nat) : Int)):=h3;omega
     have hnext:=hinv.step h1 h4 h5
     have hpl:=opt_src B i h5
     have hc1 : beN ((B.drop (0 + ((i : Nat) : Int).toNat)).take 2) = beN ((B.drop i).take 2):=by rw [aO,aS]
     refine ifK (fun h6=>?_) (fun h6=>?_)
     ·have h6 : opSz B i = 0:=aA h6
      have hbs : (B.drop (i + 4)).take (opSz B i) = []:=by rw [h6];rfl
      refine eI ([] : List UInt8) (aI rfl ?_)
      have hnew : [Value.int .i64 ((beN ((B.drop (0 + ((i : Nat) : Int).toNat)).take 2) : Nat) : Int),Value.string ⟨([] : Bl).toArray⟩] = [opAt B i].flatMap layO.g:=by
       rw [hc1]
       show _ = [Value.int .i64 _,Value.string ⟨((B.drop (i + 4)).take (opSz B i)).toArray⟩]
       first | rfl | (rw [hbs];rfl)
      refine ⟨(i + 4 + opSz B i,[opAt B i]),hnext,by show B.length - (i + 4 + opSz B i) < B.length - i;omega,rcq [0,4] ⟨(sL rfl rfl),(sL rfl rfl),zAa rfl (by show (((i + 4 : Nat) : Int) + ((opSz B i : Nat) : Int)) = ((i + 4 + opSz B i : Nat) : Int);omega),tv⟩ ⟨bpo (zAc B),⟨by decide,_,rfl,zAs hnew (zAb layO.g layO.plain _)⟩,tv⟩ .nil⟩
     have h6 : opSz B i ≠ 0:=fun e=>by have h6 : (opSz B i).beq 0 = false:=h6;rw [e] at h6;cases h6
     have hsr : ∀ G : Gh,(G 2).bind AObj.look = some (((B.drop (i + 4)).take (opSz B i)).map byV) -> zAl G 1 (.slice (some ⟨2,0,none⟩) (opSz B i) U) = some (opSz B i,((B.drop (i + 4)).take (opSz B i)).map fun b=>.int .u8 (b.toNat : Int)):=fun G hG=>by have := zVj (c:=U) hG (by rw [hpl];exact h6);rwa [hpl] at this
     refine eI ((B.drop (i + 4)).take (opSz B i)) (aI (hsr _ ?_) ?_)
     ·show some (((B.drop (0 + ((i + 4 : Nat) : Int).toNat)).take ((opSz B i : Nat) : Int).toNat).map byV) = _
      rw [aO,aO,aS]
     have hnew : [Value.int .i64 ((beN ((B.drop (0 + ((i : Nat) : Int).toNat)).take 2) : Nat) : Int),Value.string ⟨((B.drop (i + 4)).take (opSz B i) : Bl).toArray⟩] = [opAt B i].flatMap layO.g:=by
      rw [hc1]
      show _ = [Value.int .i64 _,Value.string ⟨((B.drop (i + 4)).take (opSz B i)).toArray⟩]
      first | rfl | (rw [hbs];rfl)
     refine ⟨(i + 4 + opSz B i,[opAt B i]),hnext,by show B.length - (i + 4 + opSz B i) < B.length - i;omega,rcq [0,4] ⟨(sL rfl rfl),(sL rfl rfl),zAa rfl (by show (((i + 4 : Nat) : Int) + ((opSz B i : Nat) : Int)) = ((i + 4 + opSz B i : Nat) : Int);omega),tv⟩ ⟨bpo (zAc B),⟨by decide,_,rfl,zAs hnew (zAb layO.g layO.plain _)⟩,tv⟩ .nil⟩
    have h4 : ¬ i + 4<=B.length:=fun h=>by rw [show ((((i + 2 : Nat) : Int)).toNat + 2).ble B.length = true from bL (by rw [aO];omega)] at h2;cases h2
    rw [hinv.bad h1 (by omega)]
    refine aI rfl (zAh (rcq [] (d:=7) (d2:=0) (lv:=[(2,.slice none 0 0),(3,.bool false)]) (bs:=[]) (W:=[]) (m:=0) (df:=[]) ⟨⟨_,rfl,.snil _ _⟩,⟨_,rfl,.bool _⟩,tv⟩ trivial .nil) (fun f=>?_))
    exact ⟨_,_,_,_,rfl,.inl ⟨rfl,rfl⟩⟩
   have h2 : ¬ i + 2<=B.length:=fun h=>by rw [show (((i : Nat) : Int).toNat + 2).ble B.length = true from bL (by rw [aO];omega)] at h2;cases h2
   rw [hinv.bad h1 (by omega)]
   refine aI rfl (zAh (rcq [] (d:=7) (d2:=0) (lv:=[(2,.slice none 0 0),(3,.bool false)]) (bs:=[]) (W:=[]) (m:=0) (df:=[]) ⟨⟨_,rfl,.snil _ _⟩,⟨_,rfl,.bool _⟩,tv⟩ trivial .nil) (fun f=>?_))
   exact ⟨_,_,_,_,rfl,.inl ⟨rfl,rfl⟩⟩
  have h1 : ¬ i < B.length:=by have := oF h1;omega
  rw [hinv.done h1]
  refine aI rfl (zAh (rcq [] (d:=7) (d2:=0) (lv:=[(5,.slice none 0 0)]) (bs:=[]) (W:=[]) (m:=0) (df:=[]) ⟨⟨_,rfl,.snil _ _⟩,tv⟩ trivial .nil) (fun f=>?_))
  exact ⟨_,_,_,_,rfl,.inr (.inl ⟨rfl,rfl⟩)⟩
 | cons x o =>
  refine zAq tbOp [3] 0 _ none mixed _ _ _ ?_
  refine ifK (fun h1=>?_) (fun h1=>?_)
  ·have h1 : i < B.length:=by have := oT h1;omega
   refine eI (⟨0,0,B.length,U,B⟩,((i : Nat) : Int)) (aI ⟨rfl,⟨zCt rfl,by show 0 + B.length<=B.length;omega⟩,hB9⟩ ?_)
   refine ifK (fun h=>ab h (by dsimp only;simp only [Bool.or_eq_true,dT];omega)) (fun _=>?_)
   refine ifK (fun h2=>?_) (fun h2=>?_)
   ·have h2 : i + 2<=B.length:=by have := aE h2;simpa using this
    refine eI (⟨0,0,B.length,U,B⟩,((i + 2 : Nat) : Int)) (aI ⟨rfl,⟨zCt rfl,by show 0 + B.length<=B.length;omega⟩,hB9⟩ ?_)
    refine ifK (fun h=>ab h (by dsimp only;simp only [Bool.or_eq_true,dT];omega)) (fun _=>?_)
    refine ifK (fun h2=>?_) (fun h2=>?_)
    ·have h4 : i + 4<=B.length:=by have h:=aE h2;have h : ((i + 2 : Nat) : Int).toNat + 2<=B.length:=h;rw [aO] at h;omega
     have hsz : beN ((B.drop (0 + (((i + 2 : Nat) : Int)).toNat)).take 2) = opSz B i:=by unfold opSz;rw [aO,aS]
     have hle:=opSz_le B i
     refine eI (⟨0,0,B.length,U,B⟩,((i + 4 : Nat) : Int),((opSz B i : Nat) : Int)) (aI ⟨by simp only [RdB.sl];rw [<- hsz];rfl,⟨zCt rfl,by show 0 + B.length<=B.length;omega⟩,hB9,.inl rfl⟩ ?_)
     refine ifK (fun h=>ab h (by dsimp only;simp only [Bool.or_eq_true,dT];omega)) (fun _=>?_)
     refine ifK (fun h3=>?_) (fun h3=>?_)
     ·rw [hinv.bad h1 (by have h3:=oT h3;have h3 : (B.length : Int) - ((i + 4 : Nat) : Int) < ((opSz B i : Nat) : Int):=h3;omega)]
      refine aI rfl (zAh (rcq [] (d:=7) (d2:=0) (lv:=[(2,.slice none 0 0),(3,.bool false)]) (bs:=[]) (W:=[]) (m:=0) (df:=[]) ⟨⟨_,rfl,.snil _ _⟩,⟨_,rfl,.bool _⟩,tv⟩ trivial .nil) (fun f=>?_))
      exact ⟨_,_,_,_,rfl,.inl ⟨rfl,rfl⟩⟩
     have h5 : i + 4 + opSz B i<=B.length:=by have h3:=oF h3;have h3 : ¬ ((B.length : Int) - ((i + 4 : Nat) : Int) < ((opSz B i : Nat) : Int)):=h3;omega
     have hnext:=hinv.step h1 h4 h5
     have hpl:=opt_src B i h5
     have hc1 : beN ((B.drop (0 + ((i : Nat) : Int).toNat)).take 2) = beN ((B.drop i).take 2):=by rw [aO,aS]
     refine ifK (fun h6=>?_) (fun h6=>?_)
     ·have h6 : opSz B i = 0:=aA h6
      have hbs : (B.drop (i + 4)).take (opSz B i) = []:=by rw [h6];rfl
      refine eI ([] : List UInt8) (aI rfl ?_)
      refine aI ?_ ?_
      ·have hlen : ((x :: o).flatMap layO.g).length = (o.length + 1) * 2:=zAf layO.g 2 layO.len (x :: o)
       have hio2 : o.length + 1<=i:=hio
       have := Nat.mul_le_mul (show o.length + 1 + 1<=2000000 by omega) hby
       simp only [bA,dT]
       refine ⟨⟨⟨⟨⟨⟨rfl,rfl⟩,bL ?_⟩,rfl⟩,?_⟩,?_⟩,bL ?_⟩
       ·rw [hz,hlen];exact aJ _
       ·omega
       ·omega
       rw [hz,hlen];show _<=0 + (o.length + 1) * 2 + 2;omega
      have hnew : (((x :: o).flatMap layO.g).take ((o.length + 1) * (Try.prog.types[60]).size)++[Value.int .i64 ((beN ((B.drop (0 + ((i : Nat) : Int).toNat)).take 2) : Nat) : Int),Value.string ⟨([] : Bl).toArray⟩]) = (x :: (o++[opAt B i])).flatMap layO.g:=by
       rw [hz,aD (by rw [zAf layO.g 2 layO.len (x :: o)];exact aJ _),hc1,<- bC,List.flatMap_append]
       show _ = _++[Value.int .i64 _,Value.string ⟨((B.drop (i + 4)).take (opSz B i)).toArray⟩]
       first | rfl | (rw [hbs];rfl)
      refine ⟨(i + 4 + opSz B i,(x :: o)++[opAt B i]),hnext,by show B.length - (i + 4 + opSz B i) < B.length - i;omega,rcq [0,5] ⟨(sL rfl rfl),⟨_,rfl,(by show RV _ (.slice _ (o.length + 1 + 1) U) (.slice _ ((o++[opAt B i]).length + 1) U);rw [aB];exact .sl _ _ _ _ _ rfl)⟩,zAa rfl (by show (((i + 4 : Nat) : Int) + ((opSz B i : Nat) : Int)) = ((i + 4 + opSz B i : Nat) : Int);omega),tv⟩ ⟨bpo (zAc B),⟨by decide,_,rfl,zAs hnew (zAb layO.g layO.plain _)⟩,tv⟩ .nil⟩
     have h6 : opSz B i ≠ 0:=fun e=>by have h6 : (opSz B i).beq 0 = false:=h6;rw [e] at h6;cases h6
     have hsr : ∀ G : Gh,(G 3).bind AObj.look = some (((B.drop (i + 4)).take (opSz B i)).map byV) -> zAl G 1 (.slice (some ⟨3,0,none⟩) (opSz B i) U) = some (opSz B i,((B.drop (i + 4)).take (opSz B i)).map fun b=>.int .u8 (b.toNat : Int)):=fun G hG=>by have := zVj (c:=U) hG (by rw [hpl];exact h6);rwa [hpl] at this
     refine eI ((B.drop (i + 4)).take (opSz B i)) (aI (hsr _ ?_) ?_)
     ·show some (((B.drop (0 + ((i + 4 : Nat) : Int).toNat)).take ((opSz B i : Nat) : Int).toNat).map byV) = _
      rw [aO,aO,aS]
     refine aI ?_ ?_
     ·have hlen : ((x :: o).flatMap layO.g).length = (o.length + 1) * 2:=zAf layO.g 2 layO.len (x :: o)
      have hio2 : o.length + 1<=i:=hio
      have := Nat.mul_le_mul (show o.length + 1 + 1<=2000000 by omega) hby
      simp only [bA,dT]
      refine ⟨⟨⟨⟨⟨⟨rfl,rfl⟩,bL ?_⟩,rfl⟩,?_⟩,?_⟩,bL ?_⟩
      ·rw [hz,hlen];exact aJ _
      ·omega
      ·omega
      rw [hz,hlen];show _<=0 + (o.length + 1) * 2 + 2;omega
     have hnew : (((x :: o).flatMap layO.g).take ((o.length + 1) * (Try.prog.types[60]).size)++[Value.int .i64 ((beN ((B.drop (0 + ((i : Nat) : Int).toNat)).take 2) : Nat) : Int),Value.string ⟨((B.drop (i + 4)).take (opSz B i) : Bl).toArray⟩]) = (x :: (o++[opAt B i])).flatMap layO.g:=by
      rw [hz,aD (by rw [zAf layO.g 2 layO.len (x :: o)];exact aJ _),hc1,<- bC,List.flatMap_append]
      show _ = _++[Value.int .i64 _,Value.string ⟨((B.drop (i + 4)).take (opSz B i)).toArray⟩]
      first | rfl | (rw [hbs];rfl)
     refine ⟨(i + 4 + opSz B i,(x :: o)++[opAt B i]),hnext,by show B.length - (i + 4 + opSz B i) < B.length - i;omega,rcq [0,5] ⟨(sL rfl rfl),⟨_,rfl,(by show RV _ (.slice _ (o.length + 1 + 1) U) (.slice _ ((o++[opAt B i]).length + 1) U);rw [aB];exact .sl _ _ _ _ _ rfl)⟩,zAa rfl (by show (((i + 4 : Nat) : Int) + ((opSz B i : Nat) : Int)) = ((i + 4 + opSz B i : Nat) : Int);omega),tv⟩ ⟨bpo (zAc B),⟨by decide,_,rfl,zAs hnew (zAb layO.g layO.plain _)⟩,tv⟩ .nil⟩
    have h4 : ¬ i + 4<=B.length:=fun h=>by rw [show ((((i + 2 : Nat) : Int)).toNat + 2).ble B.length = true from bL (by rw [aO];omega)] at h2;cases h2
    rw [hinv.bad h1 (by omega)]
    refine aI rfl (zAh (rcq [] (d:=7) (d2:=0) (lv:=[(2,.slice none 0 0),(3,.bool false)]) (bs:=[]) (W:=[]) (m:=0) (df:=[]) ⟨⟨_,rfl,.snil _ _⟩,⟨_,rfl,.bool _⟩,tv⟩ trivial .nil) (fun f=>?_))
    exact ⟨_,_,_,_,rfl,.inl ⟨rfl,rfl⟩⟩
   have h2 : ¬ i + 2<=B.length:=fun h=>by rw [show (((i : Nat) : Int).toNat + 2).ble B.length = true from bL (by rw [aO];omega)] at h2;cases h2
   rw [hinv.bad h1 (by omega)]
   refine aI rfl (zAh (rcq [] (d:=7) (d2:=0) (lv:=[(2,.slice none 0 0),(3,.bool false)]) (bs:=[]) (W:=[]) (m:=0) (df:=[]) ⟨⟨_,rfl,.snil _ _⟩,⟨_,rfl,.bool _⟩,tv⟩ trivial .nil) (fun f=>?_))
   exact ⟨_,_,_,_,rfl,.inl ⟨rfl,rfl⟩⟩
  have h1 : ¬ i < B.length:=by have := oF h1;omega
  rw [hinv.done h1]
  refine aI rfl (zAh (rcq [1] (d:=7) (d2:=1) (lv:=[(5,.slice (some ⟨0,0,none⟩) (o.length + 1) U)]) (bs:=[(0,.cells ((x :: o).flatMap layO.g) 60)]) (W:=[]) (m:=1) (df:=[]) ⟨(sL rfl rfl),tv⟩ ⟨bpo (zAb layO.g layO.plain (x :: o)),tv⟩ .nil) (fun f=>?_))
  exact ⟨_,_,_,_,rfl,.inr (.inr ⟨_,x :: o,rfl,by simp,rfl,by decide,rfl⟩)⟩
theorem zUp {s t : ByteArray} (h : [Value.string s] = [Value.string t]) : s = t:=by simpa using h
def optO (o : Option (List OpX)) (H : Tr AObj) (n : Nat) : Res:=match o with
 | none=>.ret (.tuple #[.slice none 0 0,.bool false]) H n []
 | some []=>.ret (.tuple #[.slice none 0 0,.bool true]) H n []
 | some (x :: l)=>.ret (.tuple #[.slice (some ⟨n,0,none⟩) (l.length + 1) U,.bool true]) (H.set n (some (.cells ((x :: l).flatMap layO.g) 60))) (n + 1) []
noncomputable def ct_optN : Ct Try.prog 0 :=
 CtR.ct { f := 44,X:=ByteArray,pre:=fun s a _ _=>a = [.string s] /\ s.data.toList.length<=1000000,out:=fun s H n=>optO (optL s.data.toList) H n,
          ok:=fun s as0 H n ⟨h1,h2⟩=>by
           subst h1
           obtain ⟨r,hF,v,H',m,wr,rfl,hz⟩:=opt_tr s h2
           show TOK Try.prog 0 _ _ (optO (optL s.data.toList) H n)
           rcases hz with ⟨e,rfl⟩ | ⟨e,rfl⟩ | ⟨b,l,e,hl,rfl,hb,h⟩
           ·rw [e];exact zBl hF rfl rfl H n
           ·rw [e];exact zBl hF rfl rfl H n
           cases l with
           | nil=>exact ab rfl hl
           | cons x l =>
            rw [e]
            exact zDi (fun n=>.tuple #[.slice (some ⟨n,0,none⟩) (l.length + 1) U,.bool true]) hF rfl h hb (zAb layO.g layO.plain _) (fun n=>.tuple _ _ (.cons _ _ _ _ (.sl _ _ _ _ _ (zMj b n)) (.cons _ _ _ _ (.bool _) .nil))) H n,
          uniq:=fun x x' a H m ⟨h1,_⟩ ⟨k1,_⟩=>by rw [zUp (h1.symm.trans k1)],
          tr:=fun s H n K=>(optL s.data.toList = none -> K (optO none H n)) /\ (optL s.data.toList = some [] -> K (optO (some []) H n)) /\ ∀ x l,optL s.data.toList = some (x :: l) -> K (optO (some (x :: l)) H n),
          trOk:=fun s H n K ⟨h1,h2,h3⟩=>by
           cases e : optL s.data.toList with
           | none=>exact h1 e
           | some l=>cases l with
            | nil=>exact h2 e
            | cons x l=>exact h3 x l e }
end
section
open Go Go.RowKit
def zPl : Tr AObj -> Bool
 | .e=>true
 | .n l v r=>zPl l&&(match v with | some (.loop _)=>false | _=>true)&&zPl r
theorem zDe : ∀ {H : Tr AObj},zPl H = true -> zFo H
 | .e,_=>fun k r h=>by cases h
 | .n l v r,h=>by
  simp only [zPl,bA] at h
  intro k q hk
  rw [Tr.get_n] at hk
  split at hk
  ·subst hk;exact ab h.1.2 (by simp)
  split at hk
  ·exact zDe h.1.1 _ _ hk
  exact zDe h.2 _ _ hk
structure EdX where
 size : Int
 ext : Int
 ver : Int
 dob : Bool
 o : List OpX
def EdX.cs (e : EdX) : List Value:=[.int .i64 e.size,.int .i64 e.ext,.int .i64 e.ver,.bool e.dob,trO e.o]
def EdX.v (e : EdX) : Value:=.agg #[.int .i64 e.size,.int .i64 e.ext,.int .i64 e.ver,.bool e.dob,trO e.o]
def ed0 : EdX:=⟨0,0,0,false,[]⟩
def edOk (x : RcX) : Bool:=(optL x.d.data.toList).isSome&&(x.n.data.toList == [0])&&decide (x.c >= 0)&&decide (x.c<=65535)&&decide (x.ttl >= 0)&&decide (x.ttl<=2147483647)
def edOf (x : RcX) : EdX:=⟨x.c,shrI .i64 x.ttl 24,bitsI .and .i64 (shrI .i64 x.ttl 16) 255,bitsI .and .i64 x.ttl 32768 != 0,(optL x.d.data.toList).getD []⟩
def isO (x : RcX) : Bool:=decide (x.t = 41)
def ofM (m : MsT) : EdX × Bool × Int :=
 if cntO m.ar + (cntO m.an + cntO m.ns) = 0 then (ed0,false,0) else if cntO m.ar ≠ 1 \/ 0 < cntO m.an + cntO m.ns then (ed0,false,4)
 else match m.ar.find? isO with
  | none=>(ed0,false,4)
  | some x=>if edOk x then (edOf x,true,0) else (ed0,false,4)
def ofV (r : EdX × Bool × Int) : Value:=.tuple #[r.1.v,.bool r.2.1,.int .i64 r.2.2]
theorem zRb : ∀ (l : List RcX),cntO l ≠ 0 -> ∃ k,∃ h : k < l.length,l[k].t = 41 /\ (∀ i (hi : i < l.length),i < k -> l[i].t ≠ 41) /\ l.find? isO = some l[k]
 | [],h=>ab rfl h
 | x :: l,h=>by
  by_cases hx : x.t = 41
  ·exact ⟨0,by simp,hx,fun i _ hi=>ab hi (Nat.not_lt_zero _),by simp [isO,hx]⟩
  have h2 : cntO l ≠ 0:=by
   unfold cntO at h ⊢
   rw [List.filter_cons_of_neg (by simp [hx])] at h
   exact h
  obtain ⟨k,hk,h3,h4,h5⟩:=zRb l h2
  refine ⟨k + 1,by simp;omega,h3,fun i hi hik=>?_,by rw [List.find?_cons_of_neg (by simp [isO,hx]),h5];rfl⟩
  cases i with
  | zero=>exact hx
  | succ i=>exact h4 i (by simp at hi;omega) (by omega)
def ofH (m : MsT) (e : List Value) (b : Bool) : Tr AObj:=heap 4 [(0,.cells m.cs 25),(1,.cells e 28),(2,.cells [.bool b] 4),(3,.cells [.int .i64 0] 33),(4,.cells [trR m.ar] 23),(5,.defs)]
theorem zGk (m : MsT) (e : List Value) (b : Bool) : zFo (ofH m e b):=zDe rfl
noncomputable def zNi : Ct Try.prog 0:=Ct.inl (tbOf mixed []) mixed [] 40 Try.f40 Try.func40 (bodyOf Try.f40) (by kernel_rfl)
noncomputable def tbOf1 : Tb Try.prog 0:=tbOf mixed [zQp,ct_optN,zVy,zNi]
def zE : List Value:=[.int .i64 0,.int .i64 0,.int .i64 0,.bool false,.slice none 0 0]
theorem zOz {dp : Prop} {H : Tr AObj} (b : Bool) (n : Int) : FrzP dp Try.prog 0 H (.tuple #[.agg ⟨zE⟩,.bool b,.int .i64 n]) (ofV (ed0,b,n)) :=
 .tuple _ _ (.cons _ _ _ _ (.agg _ _ (.cons _ _ _ _ (.one _ _ (.plain _ rfl)) (.cons _ _ _ _ (.one _ _ (.plain _ rfl)) (.cons _ _ _ _ (.one _ _ (.plain _ rfl)) (.cons _ _ _ _ (.one _ _ (.plain _ rfl)) (.cons _ _ _ _ (.one _ _ (.nil 2)) .nil)))))) (.cons _ _ _ _ (.one _ _ (.plain _ rfl)) (.cons _ _ _ _ (.one _ _ (.plain _ rfl)) .nil)))
theorem of_tr (m : MsT) (hf : m.fit 1000000) (hd : ∀ x ∈ m.ar,x.d.data.toList.length<=1000000) : ∃ r,FnS Try.prog 0 21 [m.v] .e 0 r /\ ∃ v H k wr,r = .ret v H k wr /\ ∀ dp,FrzP dp Try.prog 0 H v (ofV (ofM m)):=by
 obtain ⟨f1,f2,f3,f4⟩:=hf
 have c2 : cntO m.an<=1000000:=aW (List.length_filter_le _ _) f2
 have c3 : cntO m.ns<=1000000:=aW (List.length_filter_le _ _) f3
 have c4 : cntO m.ar<=1000000:=aW (List.length_filter_le _ _) f4
 have w1 : IntKind.i64.wrap ((cntO m.an : Int) + (cntO m.ns : Int)) = ((cntO m.an + cntO m.ns : Nat) : Int):=by rw [wrapN (by omega) (by omega)];omega
 have w2 : IntKind.i64.wrap ((cntO m.ar : Int) + ((cntO m.an + cntO m.ns : Nat) : Int)) = ((cntO m.ar + (cntO m.an + cntO m.ns) : Nat) : Int):=by rw [wrapN (by omega) (by omega)];omega
 refine zBo mixed tbOf1 [] Try.func21 (c:=bodyOf Try.f21) (by kernel_rfl) ?_
 refine aI (by kernel_rfl) ?_
 refine eI m.ar (aI ⟨rfl,by show m.ar.length<=_;omega⟩ ?_)
 refine eI m.an (aI ⟨rfl,by show m.an.length<=_;omega⟩ ?_)
 refine eI m.ns (aI ⟨rfl,by show m.ns.length<=_;omega⟩ ?_)
 refine ifK (fun h1=>?_) (fun h1=>?_)
 ·have h1 : (IntKind.i64.wrap ((cntO m.ar : Int) + IntKind.i64.wrap ((cntO m.an : Int) + (cntO m.ns : Int))) == 0) = true:=h1
  rw [w1,w2] at h1
  rw [show ofM m = (ed0,false,0) by unfold ofM;rw [if_pos (by simp at h1;omega)]]
  exact ⟨_,_,_,_,rfl,fun _=>zOz _ _⟩
 have h1 : (IntKind.i64.wrap ((cntO m.ar : Int) + IntKind.i64.wrap ((cntO m.an : Int) + (cntO m.ns : Int))) == 0) = false:=h1
 rw [w1,w2] at h1
 have n1 : ¬ (cntO m.ar + (cntO m.an + cntO m.ns) = 0):=by simp at h1;omega
 refine ifK (fun h2=>?_) (fun h2=>?_)
 ·have h2 : ((cntO m.ar : Int) != 1) = true:=h2
  rw [show ofM m = (ed0,false,4) by unfold ofM;rw [if_neg n1,if_pos (.inl (by simp at h2;omega))]]
  exact ⟨_,_,_,_,rfl,fun _=>zOz _ _⟩
 have h2 : ((cntO m.ar : Int) != 1) = false:=h2
 have h2 : cntO m.ar = 1:=by simp at h2;omega
 refine ifK (fun h3=>?_) (fun h3=>?_)
 ·have h3 : decide (IntKind.i64.wrap ((cntO m.an : Int) + (cntO m.ns : Int)) > 0) = true:=h3
  rw [w1] at h3
  rw [show ofM m = (ed0,false,4) by unfold ofM;rw [if_neg n1,if_pos (.inr (by simp at h3;omega))]]
  exact ⟨_,_,_,_,rfl,fun _=>zOz _ _⟩
 have h3 : decide (IntKind.i64.wrap ((cntO m.an : Int) + (cntO m.ns : Int)) > 0) = false:=h3
 rw [w1] at h3
 have n2 : ¬ (cntO m.ar ≠ 1 \/ 0 < cntO m.an + cntO m.ns):=by simp at h3;omega
 obtain ⟨k,hk,hk1,hk2,hk3⟩:=zRb m.ar (by omega)
 have hof : ofM m = if edOk m.ar[k] then (edOf m.ar[k],true,0) else (ed0,false,4):=by unfold ofM;rw [if_neg n1,if_neg n2,hk3]
 have hdk:=hd m.ar[k] (aV hk)
 refine zTc (rcq [0,1,2,3,4] (d:=7) (d2:=3) (lv:=[(1,.pointer (some ⟨0,0,none⟩)),(2,.pointer (some ⟨1,0,none⟩)),(3,.pointer (some ⟨2,0,none⟩)),(4,.pointer (some ⟨3,0,none⟩)),(37,.func (.func 61) #[] #[.pointer (some ⟨4,0,none⟩)])]) (bs:=[(0,.cells m.cs 25),(1,.cells zE 28),(2,.cells [.bool false] 4),(3,.cells [.int .i64 0] 33),(4,.cells [trR m.ar] 23)]) (W:=[]) (m:=5) (df:=[]) ⟨(sP rfl rfl),(sP rfl rfl),(sP rfl rfl),(sP rfl rfl),⟨_,rfl,.func _ _ _ _ _ rfl .nil (.cons _ _ _ _ (.ptr _ _ _ rfl) .nil)⟩,tv⟩ ⟨⟨by decide,_,rfl,RO.clos rfl⟩,bpo rfl,bpo rfl,bpo rfl,⟨by decide,_,rfl,RO.clos rfl⟩,tv⟩ .nil) (fun g hg=>?_)
 have kp : ∀ p ∈ [((1 : Nat),Value.pointer (some ⟨0,0,none⟩)),(2,.pointer (some ⟨1,0,none⟩)),(3,.pointer (some ⟨2,0,none⟩)),(4,.pointer (some ⟨3,0,none⟩)),(37,.func (.func 61) #[] #[.pointer (some ⟨4,0,none⟩)])],KpV 5 p.2:=by
  intro p hp
  simp only [aK,List.not_mem_nil,or_false] at hp
  rcases hp with rfl | rfl | rfl | rfl | rfl
  ·exact KpV.ptr (by decide)
  ·exact KpV.ptr (by decide)
  ·exact KpV.ptr (by decide)
  ·exact KpV.ptr (by decide)
  exact KpV.fn (by simp) (by simp only [aK,List.not_mem_nil,or_false];rintro v rfl;exact KpV.ptr (by decide))
 cases hok : edOk m.ar[k] with
 | true =>
  rw [hok,if_pos rfl] at hof
  rw [hof]
  have hok':=hok
  simp only [edOk,bA,dT] at hok'
  obtain ⟨⟨⟨⟨⟨o1,o2⟩,o3⟩,o4⟩,o5⟩,o6⟩:=hok'
  obtain ⟨l,hl⟩:=Option.isSome_iff_exists.1 o1
  cases l with
  | nil =>
   refine zFi 5 6 7 rfl rfl m.ar 4 (trR m.ar) 23 [1,2,3] (fun _=>ofH m zE false) (fun _=>7) k (some (.ret,ofH m [.int .i64 (edOf m.ar[k]).size,.int .i64 (edOf m.ar[k]).ext,.int .i64 (edOf m.ar[k]).ver,.bool (edOf m.ar[k]).dob,.slice none 0 0] true,7)) rfl rfl rfl (by decide) (by show m.ar.length<=_;omega) (by decide) (zIh kp fun t=>(hg t).mono (aH _)) rfl (.inr (.inr rfl)) ?_ (fun i _=>zGk _ _ _) (fun _ _=>aJ 7) (fun i h hi h41=>ab h41 (hk2 i h hi)) (fun i h hi h41=>⟨rfl,rfl⟩) ⟨⟨_,rfl⟩,zDe rfl,by decide,hk,hk1,?_⟩ ?_
   ·exact zCp (d:=7) (lv:=[]) (rcq [] trivial ⟨⟨by decide,_,rfl,RO.clos rfl⟩,bpo rfl,bpo rfl,bpo rfl,⟨by decide,_,rfl,RO.clos rfl⟩,⟨by decide,_,rfl,.defs⟩,tv⟩ .nil)
   ·generalize m.ar[k] = x at o1 o2 o3 o4 o5 o6 hdk hl
    refine ⟨_,rfl,?_⟩
    refine zAq tbOf1 [] 7 _ (some 6) mixed _ _ _ ?_
    refine ⟨rfl,zDe rfl,?_⟩
    refine zAq tbOf1 [] 7 _ (some 6) mixed _ _ _ ?_
    refine eI x.d (aI ⟨rfl,hdk⟩ ?_)
    refine aI (fun h=>ab (hl.symm.trans h) (by simp)) (aI (fun _=>?_) (fun y l h=>ab (hl.symm.trans h) (by simp)))
    refine ifK (fun h=>ab (show (!(x.n.data.toList == [0])) = true from h) (by rw [o2];simp)) (fun _=>?_)
    refine ifK (fun _=>?_) (fun h=>ab o3 (oF h))
    refine ifK (fun h=>ab (show (!decide (x.c<=65535)) = true from h) (by simp [o4])) (fun _=>?_)
    refine ifK (fun _=>?_) (fun h=>ab o5 (oF h))
    refine ifK (fun h=>ab (show (!decide (x.ttl<=2147483647)) = true from h) (by simp [o6])) (fun _=>?_)
    exact ⟨rfl,zCp (d:=7) (lv:=[]) (zAn [] rfl rfl rfl (fun l e=>by cases e;decide) (by decide) (by decide) rfl rfl (zAy rfl) trivial ⟨⟨by decide,_,rfl,RO.clos rfl⟩,bpo rfl,bpo rfl,bpo rfl,⟨by decide,_,rfl,RO.clos rfl⟩,⟨by decide,_,rfl,.defs⟩,tv⟩ .nil)⟩
   refine ⟨_,_,_,_,rfl,fun dp=>?_⟩
   rw [show ofV (edOf m.ar[k],true,(0 : Int)) = .tuple #[.agg #[.int .i64 (edOf m.ar[k]).size,.int .i64 (edOf m.ar[k]).ext,.int .i64 (edOf m.ar[k]).ver,.bool (edOf m.ar[k]).dob,trO []],.bool true,.int .i64 0] by unfold ofV EdX.v;rw [show (edOf m.ar[k]).o = [] by unfold edOf;rw [hl];rfl]]
   exact .tuple _ _ (.cons _ _ _ _ (.agg _ _ (.cons _ _ _ _ (.one _ _ (.plain _ rfl)) (.cons _ _ _ _ (.one _ _ (.plain _ rfl)) (.cons _ _ _ _ (.one _ _ (.plain _ rfl)) (.cons _ _ _ _ (.one _ _ (.plain _ rfl)) (.cons _ _ _ _ (.one _ _ (.nil 2)) .nil)))))) (.cons _ _ _ _ (.one _ _ (.plain _ rfl)) (.cons _ _ _ _ (.one _ _ (.plain _ rfl)) .nil)))
  | cons y l =>
   refine zFi 5 6 7 rfl rfl m.ar 4 (trR m.ar) 23 [1,2,3] (fun _=>ofH m zE false) (fun _=>7) k (some (.ret,heap 4 [(0,.cells m.cs 25),(1,.cells [.int .i64 (edOf m.ar[k]).size,.int .i64 (edOf m.ar[k]).ext,.int .i64 (edOf m.ar[k]).ver,.bool (edOf m.ar[k]).dob,.slice (some ⟨7,0,none⟩) (l.length + 1) U] 28),(2,.cells [.bool true] 4),(3,.cells [.int .i64 0] 33),(4,.cells [trR m.ar] 23),(5,.defs),(7,.cells ((y :: l).flatMap layO.g) 60)],8)) rfl rfl rfl (by decide) (by show m.ar.length<=_;omega) (by decide) (zIh kp fun t=>(hg t).mono (aH _)) rfl (.inr (.inr rfl)) ?_ (fun i _=>zGk _ _ _) (fun _ _=>aJ 7) (fun i h hi h41=>ab h41 (hk2 i h hi)) (fun i h hi h41=>⟨rfl,rfl⟩) ⟨⟨_,rfl⟩,zDe rfl,by decide,hk,hk1,?_⟩ ?_
   ·exact zCp (d:=7) (lv:=[]) (rcq [] trivial ⟨⟨by decide,_,rfl,RO.clos rfl⟩,bpo rfl,bpo rfl,bpo rfl,⟨by decide,_,rfl,RO.clos rfl⟩,⟨by decide,_,rfl,.defs⟩,tv⟩ .nil)
   ·generalize m.ar[k] = x at o1 o2 o3 o4 o5 o6 hdk hl
    refine ⟨_,rfl,?_⟩
    refine zAq tbOf1 [] 7 _ (some 6) mixed _ _ _ ?_
    refine ⟨rfl,zDe rfl,?_⟩
    refine zAq tbOf1 [] 7 _ (some 6) mixed _ _ _ ?_
    refine eI x.d (aI ⟨rfl,hdk⟩ ?_)
    refine aI (fun h=>ab (hl.symm.trans h) (by simp)) (aI (fun h=>ab (hl.symm.trans h) (by simp)) (fun y' l' h=>?_))
    have h:=hl.symm.trans h
    simp only [aP,aQ] at h
    obtain ⟨rfl,rfl⟩:=h
    refine ifK (fun h=>ab (show (!(x.n.data.toList == [0])) = true from h) (by rw [o2];simp)) (fun _=>?_)
    refine ifK (fun _=>?_) (fun h=>ab o3 (oF h))
    refine ifK (fun h=>ab (show (!decide (x.c<=65535)) = true from h) (by simp [o4])) (fun _=>?_)
    refine ifK (fun _=>?_) (fun h=>ab o5 (oF h))
    refine ifK (fun h=>ab (show (!decide (x.ttl<=2147483647)) = true from h) (by simp [o6])) (fun _=>?_)
    exact ⟨rfl,zCp (d:=7) (lv:=[]) (zAn [8] rfl rfl rfl (fun l e=>by cases e;decide) (by decide) (by decide) rfl rfl (zAy rfl) trivial ⟨⟨by decide,_,rfl,RO.clos rfl⟩,⟨by decide,_,rfl,RO.cells [.int .i64 (edOf x).size,.int .i64 (edOf x).ext,.int .i64 (edOf x).ver,.bool (edOf x).dob,.slice (some ⟨8,0,none⟩) (l.length + 1) U] [] _ _ (.cons _ _ _ _ (.int _ _) (.cons _ _ _ _ (.int _ _) (.cons _ _ _ _ (.int _ _) (.cons _ _ _ _ (.bool _) (.cons _ _ _ _ (.sl _ _ _ _ _ rfl) .nil)))))⟩,bpo rfl,bpo rfl,⟨by decide,_,rfl,RO.clos rfl⟩,⟨by decide,_,rfl,.defs⟩,bpo (zAb layO.g layO.plain (y :: l)),tv⟩ .nil)⟩
   refine ⟨_,_,_,_,rfl,fun dp=>?_⟩
   rw [show ofV (edOf m.ar[k],true,(0 : Int)) = .tuple #[.agg #[.int .i64 (edOf m.ar[k]).size,.int .i64 (edOf m.ar[k]).ext,.int .i64 (edOf m.ar[k]).ver,.bool (edOf m.ar[k]).dob,trO (y :: l)],.bool true,.int .i64 0] by unfold ofV EdX.v;rw [show (edOf m.ar[k]).o = y :: l by unfold edOf;rw [hl];rfl]]
   exact .tuple _ _ (.cons _ _ _ _ (.agg _ _ (.cons _ _ _ _ (.one _ _ (.plain _ rfl)) (.cons _ _ _ _ (.one _ _ (.plain _ rfl)) (.cons _ _ _ _ (.one _ _ (.plain _ rfl)) (.cons _ _ _ _ (.one _ _ (.plain _ rfl)) (.cons _ _ _ _ (.one _ _ (zVv layO (y :: l) (by decide) rfl (by kernel_rfl) rfl rfl)) .nil)))))) (.cons _ _ _ _ (.one _ _ (.plain _ rfl)) (.cons _ _ _ _ (.one _ _ (.plain _ rfl)) .nil)))
 | false =>
  rw [hok,if_neg (by simp)] at hof
  rw [hof]
  refine zFi 5 6 7 rfl rfl m.ar 4 (trR m.ar) 23 [1,2,3] (fun _=>ofH m zE false) (fun _=>7) k (some (.exit 1,ofH m zE false,7)) rfl rfl rfl (by decide) (by show m.ar.length<=_;omega) (by decide) (zIh kp fun t=>(hg t).mono (aH _)) rfl (.inr (.inr rfl)) ?_ (fun i _=>zGk _ _ _) (fun _ _=>aJ 7) (fun i h hi h41=>ab h41 (hk2 i h hi)) (fun i h hi h41=>⟨rfl,rfl⟩) ⟨⟨_,rfl⟩,zGk _ _ _,aJ 7,hk,hk1,?_⟩ ?_
  ·exact zCp (d:=7) (lv:=[]) (rcq [] trivial ⟨⟨by decide,_,rfl,RO.clos rfl⟩,bpo rfl,bpo rfl,bpo rfl,⟨by decide,_,rfl,RO.clos rfl⟩,⟨by decide,_,rfl,.defs⟩,tv⟩ .nil)
  ·generalize m.ar[k] = x at hok hdk
   refine ⟨_,rfl,?_⟩
   refine zAq tbOf1 [] 7 _ (some 6) mixed _ _ _ ?_
   refine ⟨rfl,zDe rfl,?_⟩
   refine zAq tbOf1 [] 7 _ (some 6) mixed _ _ _ ?_
   refine eI x.d (aI ⟨rfl,hdk⟩ ?_)
   refine aI (fun _=>?_) (aI (fun o1=>?_) (fun y l o1=>?_))
   ·exact ⟨rfl,zCp (d:=7) (lv:=[]) (zAn [] rfl rfl rfl (fun l e=>by cases e;decide) (by decide) (by decide) rfl rfl (zAy rfl) trivial ⟨⟨by decide,_,rfl,RO.clos rfl⟩,bpo rfl,bpo rfl,bpo rfl,⟨by decide,_,rfl,RO.clos rfl⟩,⟨by decide,_,rfl,.defs⟩,tv⟩ .nil)⟩
   all_goals
    refine ifK (fun _=>?_) (fun o2=>?_)
    ·exact ⟨rfl,zCp (d:=7) (lv:=[]) (zAn [] rfl rfl rfl (fun l e=>by cases e;decide) (by decide) (by decide) rfl rfl (zAy rfl) trivial ⟨⟨by decide,_,rfl,RO.clos rfl⟩,bpo rfl,bpo rfl,bpo rfl,⟨by decide,_,rfl,RO.clos rfl⟩,⟨by decide,_,rfl,.defs⟩,tv⟩ .nil)⟩
    refine ifK (fun o3=>?_) (fun _=>?_)
    rotate_left
    ·exact ⟨rfl,zCp (d:=7) (lv:=[]) (zAn [] rfl rfl rfl (fun l e=>by cases e;decide) (by decide) (by decide) rfl rfl (zAy rfl) trivial ⟨⟨by decide,_,rfl,RO.clos rfl⟩,bpo rfl,bpo rfl,bpo rfl,⟨by decide,_,rfl,RO.clos rfl⟩,⟨by decide,_,rfl,.defs⟩,tv⟩ .nil)⟩
    refine ifK (fun _=>?_) (fun o4=>?_)
    ·exact ⟨rfl,zCp (d:=7) (lv:=[]) (zAn [] rfl rfl rfl (fun l e=>by cases e;decide) (by decide) (by decide) rfl rfl (zAy rfl) trivial ⟨⟨by decide,_,rfl,RO.clos rfl⟩,bpo rfl,bpo rfl,bpo rfl,⟨by decide,_,rfl,RO.clos rfl⟩,⟨by decide,_,rfl,.defs⟩,tv⟩ .nil)⟩
    refine ifK (fun o5=>?_) (fun _=>?_)
    rotate_left
    ·exact ⟨rfl,zCp (d:=7) (lv:=[]) (zAn [] rfl rfl rfl (fun l e=>by cases e;decide) (by decide) (by decide) rfl rfl (zAy rfl) trivial ⟨⟨by decide,_,rfl,RO.clos rfl⟩,bpo rfl,bpo rfl,bpo rfl,⟨by decide,_,rfl,RO.clos rfl⟩,⟨by decide,_,rfl,.defs⟩,tv⟩ .nil)⟩
    refine ifK (fun _=>?_) (fun o6=>?_)
    ·exact ⟨rfl,zCp (d:=7) (lv:=[]) (zAn [] rfl rfl rfl (fun l e=>by cases e;decide) (by decide) (by decide) rfl rfl (zAy rfl) trivial ⟨⟨by decide,_,rfl,RO.clos rfl⟩,bpo rfl,bpo rfl,bpo rfl,⟨by decide,_,rfl,RO.clos rfl⟩,⟨by decide,_,rfl,.defs⟩,tv⟩ .nil)⟩
    have o1 : (optL x.d.data.toList).isSome = true:=by rw [o1];rfl
    have o2 : (!(x.n.data.toList == [0])) = false:=o2
    have o3 : decide (x.c >= 0) = true:=o3
    have o4 : (!decide (x.c<=65535)) = false:=o4
    have o5 : decide (x.ttl >= 0) = true:=o5
    have o6 : (!decide (x.ttl<=2147483647)) = false:=o6
    simp only [Bool.not_eq_false'] at o2 o4 o6
    unfold edOk at hok
    rw [o1,o2,o3,o4,o5,o6] at hok
    cases hok
  exact ⟨_,_,_,_,rfl,fun _=>zOz _ _⟩
end
section
open Go Go.RowKit
def MsT.strip (m : MsT) : MsT:=⟨m.id,m.fl,m.q,m.an.filter nop,m.ns.filter nop,m.ar.filter nop⟩
theorem ms1_inj {a b : MsT} (h : [a.v] = [b.v]) : a = b:=by simp only [aQ,and_true] at h;exact MsT.v_inj h
def MsT.same (a b : MsT) : Bool:=(a.id == b.id)&&((a.fl == b.fl)&&(decide (a.q = b.q)&&(decide (a.an = b.an)&&(decide (a.ns = b.ns)&&decide (a.ar = b.ar)))))
noncomputable def tbEt6 : Tb Try.prog 0:=tbOf mixed [ct_sameQT,zXr]
theorem sameM_tr (a b : MsT) (hf : a.fit 1000000) : ∃ r,FnS Try.prog 0 14 [a.v,b.v] .e 0 r /\ ∃ H k wr,r = .ret (.bool (a.same b)) H k wr:=by
 obtain ⟨f1,f2,f3,f4⟩:=hf
 refine zBo mixed tbEt6 [] Try.func14 (c:=bodyOf Try.f14) (by kernel_rfl) ?_
 unfold MsT.same
 refine ifK (fun g1=>?_) (fun g1=>?_)
 rotate_left
 ·rw [show (a.id == b.id) = false from g1];exact ⟨_,_,_,rfl⟩
 rw [show (a.id == b.id) = true from g1]
 refine ifK (fun g2=>?_) (fun g2=>?_)
 rotate_left
 ·rw [show (a.fl == b.fl) = false from g2];exact ⟨_,_,_,rfl⟩
 rw [show (a.fl == b.fl) = true from g2]
 refine eI (a.q,b.q) (aI ⟨rfl,by show a.q.length<=_;omega⟩ ?_)
 refine ifK (fun g3=>?_) (fun g3=>?_)
 rotate_left
 ·rw [show decide (a.q = b.q) = false from g3];exact ⟨_,_,_,rfl⟩
 rw [show decide (a.q = b.q) = true from g3]
 refine eI (a.an,b.an) (aI ⟨rfl,by show a.an.length<=_;omega⟩ ?_)
 refine ifK (fun g4=>?_) (fun g4=>?_)
 rotate_left
 ·rw [show decide (a.an = b.an) = false from g4];exact ⟨_,_,_,rfl⟩
 rw [show decide (a.an = b.an) = true from g4]
 refine eI (a.ns,b.ns) (aI ⟨rfl,by show a.ns.length<=_;omega⟩ ?_)
 refine ifK (fun g5=>?_) (fun g5=>?_)
 rotate_left
 ·rw [show decide (a.ns = b.ns) = false from g5];exact ⟨_,_,_,rfl⟩
 rw [show decide (a.ns = b.ns) = true from g5]
 refine eI (a.ar,b.ar) (aI ⟨rfl,by show a.ar.length<=_;omega⟩ ?_)
 exact ⟨_,_,_,rfl⟩
theorem MsT.same_refl (a : MsT) : a.same a = true:=by unfold MsT.same;simp
theorem nop_nop (l : List RcX) : (l.filter nop).filter nop = l.filter nop:=by rw [List.filter_filter];simp
theorem zOk (l : List RcX) : cntO (l.filter nop) = 0:=by
 unfold cntO
 rw [List.filter_filter,List.length_eq_zero_iff,List.filter_eq_nil_iff]
 intro x _
 simp [nop]
theorem zTw {l : List RcX} (h : cntO l = 0) : l.filter nop = l:=by
 unfold cntO at h
 rw [List.length_eq_zero_iff,List.filter_eq_nil_iff] at h
 rw [List.filter_eq_self]
 intro x hx
 have := h x hx
 simp [nop] at this ⊢;exact this
theorem MsT.strip_fit {m : MsT} {k : Nat} (h : m.fit k) : m.strip.fit k:=⟨h.1,aW (List.length_filter_le _ _) h.2.1,aW (List.length_filter_le _ _) h.2.2.1,aW (List.length_filter_le _ _) h.2.2.2⟩
end
section
open Go Go.RowKit
noncomputable def ct_ofT : Ct Try.prog 0:=CtR.tree 21 MsT (fun m=>[m.v]) (fun m=>m.fit 1000000 /\ ∀ x ∈ m.ar,x.d.data.toList.length<=1000000) (fun m=>ofV (ofM m)) (fun _ _ h=>ms1_inj h) (fun _=>rfl)
 (fun m hf=>by obtain ⟨r,hF,v,H,k,wr,rfl,hz⟩:=of_tr m hf.1 hf.2;exact ⟨_,_,_,_,hF,hz True⟩)
noncomputable def tbEt5 : Tb Try.prog 0:=tbOf mixed [ct_ofT,ct_code]
def MsT.code (m : MsT) : Int:=bitsI .or .i64 (shlI .i64 (ofM m).1.ext 4) (codeI m.fl)
def MsT.room (m : MsT) : Int:=maxI 512 (ofM m).1.size
theorem code_tr (m : MsT) (hf : m.fit 1000000 /\ ∀ x ∈ m.ar,x.d.data.toList.length<=1000000) : ∃ r,FnS Try.prog 0 25 [m.v] .e 0 r /\ ∃ H k wr,r = .ret (.int .i64 m.code) H k wr:=by
 refine zBo mixed tbEt5 [] Try.func25 (c:=bodyOf Try.f25) (by kernel_rfl) ?_
 refine eI m (aI ⟨rfl,hf⟩ ?_)
 refine aI (by kernel_rfl) ?_
 exact ⟨_,_,_,rfl⟩
theorem room_tr (m : MsT) (hf : m.fit 1000000 /\ ∀ x ∈ m.ar,x.d.data.toList.length<=1000000) : ∃ r,FnS Try.prog 0 27 [m.v] .e 0 r /\ ∃ H k wr,r = .ret (.int .i64 m.room) H k wr:=by
 refine zBo mixed tbEt5 [] Try.func27 (c:=bodyOf Try.f27) (by kernel_rfl) ?_
 refine eI m (aI ⟨rfl,hf⟩ ?_)
 exact ⟨_,_,_,rfl⟩
end
section
open Go Go.RowKit
end
section
open Go Go.RowKit
end
section
open Go Go.RowKit
end
section
open Go Go.RowKit
noncomputable def inl_num : Ct Try.prog 0:=Ct.inl (tbOf mixed []) mixed [] 65 Try.f65 Try.func65 (bodyOf Try.f65) (by kernel_rfl)
noncomputable def zLk : Ct Try.prog 0:=Ct.inl (tbOf mixed []) mixed [] 53 Try.f53 Try.func53 (bodyOf Try.f53) (by kernel_rfl)
noncomputable def tbMs4 : Tb Try.prog 0:=tbOf mixed [inl_num,zLk,zHs,zKy]
def firstE {α : Type} (f : α -> Int) : List α -> Int
 | []=>0
 | x :: l=>if f x ≠ 0 then f x else firstE f l
theorem zEo {α : Type} (f : α -> Int) (l : List α) (i : Nat) (h : i < l.length) : firstE f (l.drop i) = if f l[i] ≠ 0 then f l[i] else firstE f (l.drop (i + 1)):=by
 rw [bD h];rfl
theorem zGh {α : Type} (f : α -> Int) (l : List α) (i : Nat) (h : l.length<=i) : firstE f (l.drop i) = 0:=by rw [bE h];rfl
def quC (x : QuX) : Int:=if (labels (bs x.n)).2 ≠ 0 then (labels (bs x.n)).2 else if numB x.t 65535&&numB x.c 65535 then 0 else 5
def msC (id fl : Int) (q : List QuX) (an ns ar : List RcX) : Int :=
 if (numB id 65535&&numB fl 65535) = false then 5
 else if (numB q.length 65535&&(numB an.length 65535&&(numB ns.length 65535&&numB ar.length 65535))) = false then 3
 else if firstE quC q ≠ 0 then firstE quC q
 else if firstE recC an ≠ 0 then firstE recC an
 else if firstE recC ns ≠ 0 then firstE recC ns
 else firstE recC ar
theorem zLq {x n : Int} (h1 : decide (x >= 0) = true) (h2 : (!decide (x<=n)) = false) : numB x n = true:=by
 have h1:=oT h1
 simp only [Bool.not_eq_false',decide_eq_true_iff] at h2
 unfold numB;rw [decide_eq_true_iff];exact ⟨h1,h2⟩
theorem zPm {x n : Int} (h1 : decide (x >= 0) = false) : numB x n = false:=by
 have h1:=oF h1
 unfold numB;rw [decide_eq_false_iff_not];omega
theorem zFp {x n : Int} (h2 : (!decide (x<=n)) = true) : numB x n = false:=by
 simp only [Bool.not_eq_true',decide_eq_false_iff_not] at h2
 unfold numB;rw [decide_eq_false_iff_not];omega
theorem zKi {x : Nat} {n : Int} (h2 : (!decide ((x : Int)<=n)) = false) : numB (x : Int) n = true:=zLq (aX (Int.natCast_nonneg _)) h2
end
section
open Go Go.RowKit
end
section
open Go Go.RowKit
section
variable {P : Program} {ev : Operand -> Value} {G : Gh} {n : Nat} {o : Oper}
end
end
section
open Go Go.RowKit
end
section
open Go Go.RowKit
end
section
open Go Go.RowKit
noncomputable def ct_sameML : Ct Try.prog 0:=CtR.lend 14 (LtM × LtM) (fun x=>[x.1.v,x.2.v]) (fun x H=>x.1.at H /\ x.2.at H) (fun x=>[x.1.m.v,x.2.m.v]) (fun x=>x.1.m.fit 1000000) (fun x=>.bool (x.1.m.same x.2.m))
 (fun x y H e h k=>by simp only [aQ,and_true] at e;exact Prod.ext (LtM.uniq e.1 h.1 k.1) (LtM.uniq e.2 h.2 k.2)) (fun x H h=>.cons _ _ _ _ (LtM.frz h.1) (.cons _ _ _ _ (LtM.frz h.2) .nil))
 (fun x hf=>by obtain ⟨r,hF,H,k,wr,rfl⟩:=sameM_tr x.1.m x.2.m hf;exact ⟨_,_,_,_,hF,.one _ _ (.plain _ rfl)⟩)
end
section
open Go Go.RowKit
noncomputable def ct_ofL : Ct Try.prog 0:=CtR.lendM 21 (fun m=>m.fit 1000000 /\ ∀ x ∈ m.ar,x.d.data.toList.length<=1000000) (fun m=>ofV (ofM m))
 (fun m hf=>by obtain ⟨r,hF,v,H,k,wr,rfl,hz⟩:=of_tr m hf.1 hf.2;exact ⟨_,_,_,_,hF,hz False⟩)
noncomputable def ct_codeL : Ct Try.prog 0:=CtR.lendM 25 (fun m=>m.fit 1000000 /\ ∀ x ∈ m.ar,x.d.data.toList.length<=1000000) (fun m=>.int .i64 m.code)
 (fun m hf=>by obtain ⟨r,hF,H,k,wr,rfl⟩:=code_tr m hf;exact ⟨_,_,_,_,hF,.one _ _ (.plain _ rfl)⟩)
noncomputable def ct_roomL : Ct Try.prog 0:=CtR.lendM 27 (fun m=>m.fit 1000000 /\ ∀ x ∈ m.ar,x.d.data.toList.length<=1000000) (fun m=>.int .i64 m.room)
 (fun m hf=>by obtain ⟨r,hF,H,k,wr,rfl⟩:=room_tr m hf;exact ⟨_,_,_,_,hF,.one _ _ (.plain _ rfl)⟩)
theorem struct_o : structOk Try.prog 60 = true:=by kernel_rfl
noncomputable def tbSe : Tb Try.prog 0:=tbOf mixed []
theorem EdX.v_inj {a b : EdX} (h : a.v = b.v) : a = b:=by
 obtain ⟨s,e,v,d,o⟩:=a
 obtain ⟨s',e',v',d',o'⟩:=b
 simp only [EdX.v,Value.agg.injEq,Array.mk.injEq,aQ,Value.int.injEq,Value.bool.injEq,true_and,and_true] at h
 obtain ⟨rfl,rfl,rfl,rfl,h⟩:=h
 have := zBs layO h
 subst this;rfl
theorem sameE_tr (a : EdX) (hl : a.o.length<=1000000000) : ∃ r,FnS Try.prog 0 19 [a.v,a.v] .e 0 r /\ ∃ H m wr,r = .ret (.bool true) H m wr:=by
 refine zBo mixed tbSe [] Try.func19 (c:=bodyOf Try.f19) (by kernel_rfl) ?_
 refine ifK (fun h=>ab (show (a.size != a.size) = true from h) (by simp)) (fun _=>?_)
 refine ifK (fun h=>ab (show (a.ext != a.ext) = true from h) (by simp)) (fun _=>?_)
 refine ifK (fun h=>ab (show (a.ver != a.ver) = true from h) (by simp)) (fun _=>?_)
 refine ifK (fun h=>ab (show (a.dob != a.dob) = true from h) (by simp)) (fun _=>?_)
 refine ifK (fun h=>ab (show ((a.o.length : Int) != (a.o.length : Int)) = true from h) (by simp)) (fun _=>?_)
 refine zAp (fun (i : Nat) f=>⟨slots 6 [(2,.pointer (some ⟨0,0,none⟩)),(3,.pointer (some ⟨1,0,none⟩)),(5,.int .i64 (i : Nat))] f,heap 2 [(0,.cells a.cs 28),(1,.cells a.cs 28)],2,[],[]⟩) (fun i=>a.o.length - i) (fun i=>i<=a.o.length) 0 (aH _) (rcq [0,1] ⟨(sP rfl rfl),(sP rfl rfl),(sI rfl),tv⟩ ⟨⟨by decide,_,rfl,RO.clos rfl⟩,⟨by decide,_,rfl,RO.clos rfl⟩,tv⟩ .nil) ?_
 intro i f hi
 refine zAq tbSe [] 0 _ none mixed _ _ _ ?_
 refine ifK (fun h1=>?_) (fun h1=>?_)
 ·have h1 : i < a.o.length:=by have h1 : ((i : Nat) : Int) < (a.o.length : Int):=oT h1;omega
  refine aI (by kernel_rfl) ?_
  refine ifK (fun _=>?_) (fun h2=>ab h2 (by simp [inI];omega))
  refine eI a.o[i].c (eI a.o[i].d (aI (zBa layO h1) ?_))
  refine ifK (fun _=>?_) (fun h2=>ab h2 (by simp [inI];omega))
  refine eI a.o[i].c (eI a.o[i].d (aI (zBa layO h1) ?_))
  refine aI struct_o ?_
  refine ifK (fun h3=>?_) (fun _=>?_)
  ·exfalso;simp at h3
  exact ⟨i + 1,h1,by omega,rcq [0,1] ⟨(sP rfl rfl),(sP rfl rfl),zAa rfl (by rw [wrapN (by omega) (by omega)];omega),tv⟩ ⟨⟨by decide,_,rfl,RO.clos rfl⟩,⟨by decide,_,rfl,RO.clos rfl⟩,tv⟩ .nil⟩
 have h1 : ¬ i < a.o.length:=fun e=>ab (show ((i : Nat) : Int) < (a.o.length : Int) by omega) (oF h1)
 refine aI rfl (zAh (rcq [] (d:=6) (d2:=0) (lv:=[]) (bs:=[]) (W:=[]) (m:=0) (df:=[]) trivial trivial .nil) (fun f=>?_))
 exact ⟨_,_,_,rfl⟩
end
section
open Go Go.RowKit
end
section
open Go Go.RowKit
end
section
open Go Go.RowKit
theorem do_bit {t : Int} (h0 : 0<=t) (h1 : t<=2147483647) : ((shrI .i64 t 15).tmod 2 == 1) = (bitsI .and .i64 t 32768 != 0):=by
 obtain ⟨n,rfl⟩:=Int.eq_ofNat_of_zero_le h0
 have e1 : shrI .i64 ((n : Nat) : Int) 15 = ((n / 32768 : Nat) : Int):=by
  show ((n : Nat) : Int).fdiv ((32768 : Nat) : Int) = _
  rw [Int.ofNat_fdiv]
 have e2 : bitsI .and .i64 ((n : Nat) : Int) 32768 = IntKind.i64.wrap (b64 (n : Int) &&& b64 32768).toNat:=rfl
 have e3 : (b64 (n : Int) &&& b64 32768).toNat = 32768 * (n / 32768 % 2):=by
  rw [show b64 32768 = 32768#64 by decide,BitVec.toNat_and,zOf (by omega),show (32768#64).toNat = 2 ^ 15 from rfl]
  have ht : n.testBit 15 = decide (n / 32768 % 2 = 1):=Nat.testBit_eq_decide_div_mod_eq
  apply Nat.eq_of_testBit_eq
  intro j
  rw [Nat.testBit_and,Nat.testBit_two_pow]
  rcases (by omega : n / 32768 % 2 = 0 \/ n / 32768 % 2 = 1) with h | h
  ·rw [h,Nat.mul_zero,Nat.zero_testBit]
   by_cases hj : 15 = j
   ·subst hj;rw [ht,h];rfl
   rw [aY hj,Bool.and_false]
  rw [h,aR,show 32768 = 2 ^ 15 from rfl,Nat.testBit_two_pow]
  by_cases hj : 15 = j
  ·subst hj;rw [ht,h];rfl
  rw [aY hj,Bool.and_false]
 rw [e1,e2,e3,wrapN (by omega) (by omega)]
 have e4 : (((n / 32768 : Nat) : Int).tmod 2) = ((n / 32768 % 2 : Nat) : Int):=by
  show ((n / 32768 : Nat) : Int).tmod ((2 : Nat) : Int) = _
  rw [Int.ofNat_tmod]
 rw [e4]
 rcases (by omega : n / 32768 % 2 = 0 \/ n / 32768 % 2 = 1) with h | h <;> rw [h] <;> decide
end
section
open Go Go.RowKit
noncomputable def tbSn : Tb Try.prog 0:=tbOf mixed [zTb]
def nmV (m : MsT) (b1 b2 b3 b4 : Nat) : Value:=.agg #[.int .i64 m.id,.int .i64 m.fl,ownV b1 m.q,ownV b2 m.an,ownV b3 m.ns,ownV b4 m.ar]
def nmC (m : MsT) : List (List Value × TypeId):=[(m.q.flatMap layQ.g,ownT 25 57 m.q),(m.an.flatMap layR.g,ownT 23 48 m.an),(m.ns.flatMap layR.g,ownT 23 48 m.ns),(m.ar.flatMap layR.g,ownT 23 48 m.ar)]
theorem strip_nm (m : MsT) (hf : m.fit 1000000) : ∃ r,FnS Try.prog 0 23 [m.v] .e 0 r /\ ∃ bq b2 b3 b4 vq H k wr,r = .ret (.agg #[.int .i64 m.id,.int .i64 m.fl,vq,ownV b2 m.strip.an,ownV b3 m.strip.ns,ownV b4 m.strip.ar]) H k wr /\
  [bq,b2,b3,b4].Nodup /\ (∀ x ∈ [bq,b2,b3,b4],x < JJ) /\ (∃ rest,H.get bq = some (.cells (m.q.flatMap layQ.g++rest) (ownT 25 57 m.q))) /\ H.get b2 = some (ownB layR 23 m.strip.an) /\ H.get b3 = some (ownB layR 23 m.strip.ns) /\ H.get b4 = some (ownB layR 23 m.strip.ar) /\
  (vq = .slice none 0 0 /\ m.q = [] \/ vq = .slice (some ⟨bq,0,none⟩) m.q.length U /\ m.q ≠ []):=by
 obtain ⟨f1,f2,f3,f4⟩:=hf
 have hby : (Try.prog.types[57]).bytes<=100:=by decide +kernel
 refine zBo mixed tbSn [] Try.func23 (c:=bodyOf Try.f23) (by kernel_rfl) ?_
 refine ifK (fun h0=>?_) (fun h0=>?_)
 ·have h0 : m.q = []:=List.eq_nil_of_length_eq_zero (aA h0)
  refine aI (by kernel_rfl) ?_
  refine eI (m.an,trR m.an) (aI ⟨rfl,.tree _ _ _,by show m.an.length<=_;omega⟩ ?_)
  refine eI (m.ns,trR m.ns) (aI ⟨rfl,.tree _ _ _,by show m.ns.length<=_;omega⟩ ?_)
  refine eI (m.ar,trR m.ar) (aI ⟨rfl,.tree _ _ _,by show m.ar.length<=_;omega⟩ ?_)
  refine ⟨0,_,_,_,_,_,_,_,rfl,?_,?_,⟨_,by rw [h0];rfl⟩,rfl,rfl,rfl,.inl ⟨rfl,h0⟩⟩
  ·decide
  intro x hx;simp only [aK,List.not_mem_nil,or_false] at hx;rcases hx with rfl | rfl | rfl | rfl <;> decide
 have hne : m.q ≠ []:=fun e=>by rw [e] at h0;exact ab h0 (by decide)
 refine aI (by simp only [bA,dT];have := Nat.mul_le_mul f1 hby;and_intros <;> omega) ?_
 refine aI (by kernel_rfl) ?_
 refine eI (m.an,trR m.an) (aI ⟨rfl,.tree _ _ _,by show m.an.length<=_;omega⟩ ?_)
 refine eI (m.ns,trR m.ns) (aI ⟨rfl,.tree _ _ _,by show m.ns.length<=_;omega⟩ ?_)
 refine eI (m.ar,trR m.ar) (aI ⟨rfl,.tree _ _ _,by show m.ar.length<=_;omega⟩ ?_)
 refine ⟨_,_,_,_,_,_,_,_,rfl,?_,?_,⟨[],?_⟩,rfl,rfl,rfl,.inr ⟨rfl,hne⟩⟩
 ·decide
 ·intro x hx;simp only [aK,List.not_mem_nil,or_false] at hx;rcases hx with rfl | rfl | rfl | rfl <;> decide
 rw [aF,show ownT 25 57 m.q = 57 by cases hq : m.q with | nil=>exact ab hq hne | cons a b=>rfl];rfl
theorem ownT_rec {α : Type} {e0 e : TypeId} {l : List α} (h0 : Try.prog.underlying e0 ≠ some (.int .u8)) (h : Try.prog.underlying e ≠ some (.int .u8)) : Try.prog.underlying (ownT e0 e l) ≠ some (.int .u8):=match l with
 | []=>h0
 | _ :: _=>h
theorem un_msg : Try.prog.underlying 25 ≠ some (.int .u8):=by
 have : (match Try.prog.underlying 25 with | some (.int .u8)=>false | _=>true) = true:=by kernel_rfl
 intro e;rw [e] at this;cases this
theorem un_qu : Try.prog.underlying 57 ≠ some (.int .u8):=by
 have : (match Try.prog.underlying 57 with | some (.int .u8)=>false | _=>true) = true:=by kernel_rfl
 intro e;rw [e] at this;cases this
theorem zLs {σ : Nat -> Nat -> Prop} {α : Type} {b b' : Nat} (l : List α) (h : σ b b') : NwV σ (ownV b l) (ownV b' l):=.sl _ _ _ _ _ h
theorem nq_nw {σ : Nat -> Nat -> Prop} {α : Type} {b b' : Nat} {l : List α} {v : Value} (h : σ b b') (hv : v = .slice none 0 0 /\ l = [] \/ v = .slice (some ⟨b,0,none⟩) l.length U /\ l ≠ []) : NwV σ v (ownV b' l):=by
 rcases hv with ⟨rfl,rfl⟩ | ⟨rfl,hl⟩
 ·exact .nl b 0 b' h
 cases l with
 | nil=>exact ab rfl hl
 | cons x l=>exact .sl _ _ _ _ _ h
theorem zWx (x : LtM) (as0 : List Value) (H : Tr AObj) (n : Nat) (h : as0 = [x.v] /\ x.at H /\ x.m.fit 1000000) : TOK Try.prog 0 (.call 23 as0) ⟨.e,H,n,[],[]⟩ (.ret (nmV x.m.strip n (n + 1) (n + 2) (n + 3)) (layN H n (nmC x.m.strip)) (n + 4) []):=by
 obtain ⟨h1,h2,h3⟩:=h
 subst h1
 obtain ⟨r,hF,bq,b2,b3,b4,vq,H',k,wr,rfl,hnd,hJ,⟨rest,g1⟩,g2,g3,g4,hv⟩:=strip_nm x.m h3
 refine zDa (fun n=>nmV x.m.strip n (n + 1) (n + 2) (n + 3)) [bq,b2,b3,b4] (nmC x.m.strip) hF (.cons _ _ _ _ (LtM.frz h2) .nil) hnd hJ rfl (fun i b xs e hb hc=>?_)
  (fun n=>.agg _ _ (.cons _ _ _ _ (.plain _ rfl) (.cons _ _ _ _ (.plain _ rfl) (.cons _ _ _ _ (nq_nw (zBp (i:=0) hnd rfl) hv) (.cons _ _ _ _ (zLs _ (zBp (i:=1) hnd rfl)) (.cons _ _ _ _ (zLs _ (zBp (i:=2) hnd rfl)) (.cons _ _ _ _ (zLs _ (zBp (i:=3) hnd rfl)) .nil)))))))
 match i,hb,hc with
 | 0,hb,hc=>cases hb;cases hc;exact ⟨rest,g1,zAb layQ.g layQ.plain _,.inr (ownT_rec un_msg un_qu)⟩
 | 1,hb,hc=>cases hb;cases hc;exact ⟨[],by rw [aF];exact g2,zAb layR.g layR.plain _,.inl rfl⟩
 | 2,hb,hc=>cases hb;cases hc;exact ⟨[],by rw [aF];exact g3,zAb layR.g layR.plain _,.inl rfl⟩
 | 3,hb,hc=>cases hb;cases hc;exact ⟨[],by rw [aF];exact g4,zAb layR.g layR.plain _,.inl rfl⟩
 | i + 4,hb,hc=>simp at hb
theorem zWy (x x' : LtM) (a : List Value) (H : Tr AObj) (m : Nat) (h : a = [x.v] /\ x.at H /\ x.m.fit 1000000) (k : a = [x'.v] /\ x'.at H /\ x'.m.fit 1000000) : Res.ret (nmV x.m.strip m (m + 1) (m + 2) (m + 3)) (layN H m (nmC x.m.strip)) (m + 4) [] = Res.ret (nmV x'.m.strip m (m + 1) (m + 2) (m + 3)) (layN H m (nmC x'.m.strip)) (m + 4) []:=by
 obtain ⟨h1,h2,_⟩:=h
 obtain ⟨k1,k2,_⟩:=k
 rw [h1] at k1
 simp only [aQ,and_true] at k1
 rw [LtM.uniq k1 h2 k2]
noncomputable def ct_stripN : Ct Try.prog 0 :=
 CtR.ct { f:=23,X:=LtM,pre:=fun x a H _=>a = [x.v] /\ x.at H /\ x.m.fit 1000000,out:=fun x H n=>.ret (nmV x.m.strip n (n + 1) (n + 2) (n + 3)) (layN H n (nmC x.m.strip)) (n + 4) [],
          ok:=zWx,uniq:=zWy }
end
section
open Go Go.RowKit
def mkS (l : Bl) : ByteArray:=⟨l.toArray⟩
def encT (T : List (Bl × Nat)) : List MapEntry:=T.map fun p=>{ key:=.string (mkS p.1),val:=.int .i64 (p.2 : Int),born:=0 }
end
section
open Go Go.RowKit
theorem zVz (em : Bool) (s : ByteArray) : keyOk Try.prog 9 em (.string s) = true:=by cases em <;> kernel_rfl
theorem zQu (a b : ByteArray) (v : Value) (k : Nat) : eqK Try.prog 9 (.string a) { key:=.string b,val:=v,born:=k } = some (a.data == b.data):=by kernel_rfl
theorem mkS_inj {a b : Bl} (h : mkS a = mkS b) : a = b:=by
 have := congrArg (fun x : ByteArray=>x.data.toList) h
 simpa [mkS] using this
theorem zRf (a b : Bl) : ((mkS a).data == (mkS b).data) = decide (a = b):=by
 by_cases h : a = b
 ·subst h;simp
 rw [aY h]
 cases he : (mkS a).data == (mkS b).data
 ·rfl
 have h2 : (mkS a).data = (mkS b).data:=eq_of_beq he
 exact ab (mkS_inj (congrArg ByteArray.mk h2)) h
def lookT : List (Bl × Nat) -> Bl -> Option Nat
 | [],_=>none
 | (t,k) :: T,s=>if s = t then some k else lookT T s
theorem zEc {s : Bl} : ∀ {T : List (Bl × Nat)},lookT T s = none ↔ s ∉ T.map (·.1)
 | []=>by simp [lookT]
 | (t,k) :: T=>by
  unfold lookT
  by_cases h : s = t
  ·subst h;simp
  rw [if_neg h,zEc (T:=T)];simp [h]
theorem zEg (T : List (Bl × Nat)) : zAm (encT T) = true:=by
 unfold zAm encT
 rw [List.all_map]
 exact aG.2 fun _ _=>rfl
theorem zLf {s : Bl} : ∀ {T : List (Bl × Nat)} (i : Nat),lookT T s = none -> zDw Try.prog 9 (.string (mkS s)) (encT T) i = some none
 | [],_,_=>rfl
 | (t,k) :: T,i,h=>by
  unfold lookT at h
  split at h
  ·cases h
  rename_i hne
  show zDw _ _ _ (_ :: encT T) i = _
  unfold zDw
  rw [zQu,zRf,aY hne]
  exact zLf (i + 1) h
theorem zRa {s : Bl} {v : Nat} : ∀ {T : List (Bl × Nat)} (i : Nat),(T.map (·.1)).Nodup -> lookT T s = some v -> ∃ j,zDw Try.prog 9 (.string (mkS s)) (encT T) i = some (some (j,.int .i64 (v : Int)))
 | (t,k) :: T,i,hn,h=>by
  rw [List.map_cons,List.nodup_cons] at hn
  unfold lookT at h
  show ∃ j,zDw _ _ _ (_ :: encT T) i = _
  unfold zDw
  rw [zQu,zRf]
  split at h
  ·rename_i he
   subst he
   cases h
   refine ⟨i,?_⟩
   have hall : ∀ x ∈ encT T,eqK Try.prog 9 (.string (mkS s)) x = some false:=fun x hx=>by
    obtain ⟨p,hp,rfl⟩:=List.mem_map.1 hx
    have hne : s ≠ p.1:=fun e=>hn.1 (by show s ∈ _;rw [e];exact List.mem_map_of_mem hp)
    rw [zQu,zRf,aY hne]
   have key : ∀ (p : MapEntry -> Bool),(∀ x ∈ encT T,p x = true) -> (encT T).all p = true:=fun p hp=>aG.2 hp
   simp only [decide_true]
   rw [key]
   ·rfl
   intro x hx
   rw [hall x hx]
  rename_i hne
  rw [aY hne]
  exact zRa (i + 1) hn.2 h
section
variable {ev : Operand -> Value} {G : Gh} {n : Nat} {o : Oper}
theorem zQj {t : TypeId} {x y : Operand} {r ck v : Nat} {T : List (Bl × Nat)} {s : Bl} (ho : o.op = .lookup t x y true) (hx : ev x = .map (some r)) (hy : ev y = .string (mkS s)) (hu : Try.prog.underlying t = some (.map 9 3)) (hG : G r = some (.map (encT T) ck)) (hn : (T.map (·.1)).Nodup) (h : lookT T s = some v) :
  aop Try.prog o ev G n = .val (.tuple #[.int .i64 (v : Int),.bool true]) [] 0:=by
 obtain ⟨j,hj⟩:=zRa 0 hn h
 unfold aop aop0 aStr
 simp only [ho,ORes.or]
 unfold zHb
 simp only [hu,hx,hy,hG,Try.underlying9,zEg,zVz,Bool.and_self,cT,hj]
theorem zQi {t : TypeId} {x y : Operand} {r ck : Nat} {T : List (Bl × Nat)} {s : Bl} (ho : o.op = .lookup t x y true) (hx : ev x = .map (some r)) (hy : ev y = .string (mkS s)) (hu : Try.prog.underlying t = some (.map 9 3)) (hG : G r = some (.map (encT T) ck)) (h : lookT T s = none) :
  aop Try.prog o ev G n = .val (.tuple #[.int .i64 0,.bool false]) [] 0:=by
 have hz : ((Try.prog.info? 3).bind (·.zero)) = some (.int .i64 0):=by kernel_rfl
 obtain ⟨i,h1,h2⟩:=bF.1 hz
 unfold aop aop0 aStr
 simp only [ho,ORes.or]
 unfold zHb
 simp only [hu,hx,hy,hG,Try.underlying9,zEg,zVz,Bool.and_self,cT,zLf 0 h,h1,h2]
 rfl
theorem zVe {t : TypeId} {x y z : Operand} {r ck k : Nat} {T : List (Bl × Nat)} {s : Bl} (ho : o.op = .mapUpdate t x y z) (hx : ev x = .map (some r)) (hy : ev y = .string (mkS s)) (hz : ev z = .int .i64 (k : Int)) (hu : Try.prog.underlying t = some (.map 9 3)) (hG : G r = some (.map (encT T) ck)) (h : lookT T s = none) :
  aop Try.prog o ev G n = .val undef [(r,some (.map (encT (T++[(s,k)])) (ck + 1)))] 0:=by
 unfold aop aop0 aStr
 simp only [ho,ORes.or]
 unfold zHc
 simp only [hu,hx,hy,hz,hG,Try.underlying9,zEg,zVz,Bool.and_self,cT,zLf 0 h]
 unfold encT
 rw [List.map_append];rfl
end
def packN (T : List (Bl × Nat)) (a : Nat) : Nat -> Bl -> Nat -> Bl × List (Bl × Nat)
 | 0,_,_=>([],[])
 | f + 1,t,o =>
  let c:=(t.getD 0 0).toNat
  if c = 0 then ([0],[]) else
  match lookT T t with
  | some k=>([UInt8.ofNat (192 + k / 256),UInt8.ofNat (k % 256)],[])
  | none =>
   let r:=packN T a f (t.drop (c + 1)) (o + c + 1)
   (t.take (c + 1)++r.1,if a + o < 16384 then (t,a + o) :: r.2 else r.2)
end
section
open Go Go.RowKit
noncomputable def inl_put : Ct Try.prog 0:=Ct.inl (tbOf mixed []) mixed [] 59 Try.f59 Try.func59 (bodyOf Try.f59) (by kernel_rfl)
noncomputable def tbPk3 : Tb Try.prog 0:=tbOf mixed [inl_put]
def hi8 (v : Nat) : UInt8:=UInt8.ofNat (v / 256)
def lo8 (v : Nat) : UInt8:=UInt8.ofNat (v % 256)
theorem fdivP (v : Nat) (k : Nat) : Int.fdiv (v : Int) (2 ^ k) = ((v / 2 ^ k : Nat) : Int):=by
 have : ((2 : Int) ^ k) = ((2 ^ k : Nat) : Int):=by norm_cast
 rw [this,Int.ofNat_fdiv]
theorem wrap8 {n : Nat} : IntKind.u8.wrap (n : Int) = ((UInt8.ofNat n).toNat : Int):=by
 have h : IntKind.u8.wrap (n : Int) = (n : Int) % 256:=rfl
 rw [h];simp
theorem put16_fn (v : Nat) (h : v < 65536) : ∃ r,FnS Try.prog 0 35 [.int .i64 (v : Int)] .e 0 r /\ ∃ H m wr,r = .ret (.tuple #[sq 4 2 U,.int .i64 0]) H m wr /\ H.get 4 = some (.cells ([hi8 v,lo8 v].map byV) 5):=by
 have a1 : shrI .i64 (v : Int) (IntKind.i64.wrap (8 * 2)) = 0:=by
  show Int.fdiv (v : Int) (2 ^ 16) = 0
  rw [fdivP];omega
 have a2 : IntKind.u8.wrap (shrI .i64 (v : Int) (IntKind.i64.wrap (8 * IntKind.i64.wrap (IntKind.i64.wrap (2 - 1) - 0)))) = ((hi8 v).toNat : Int):=by
  show IntKind.u8.wrap (Int.fdiv (v : Int) (2 ^ 8)) = _
  rw [fdivP];exact wrap8
 have a3 : IntKind.u8.wrap (shrI .i64 (v : Int) (IntKind.i64.wrap (8 * IntKind.i64.wrap (IntKind.i64.wrap (2 - 1) - IntKind.i64.wrap (0 + 1))))) = ((lo8 v).toNat : Int):=by
  show IntKind.u8.wrap (Int.fdiv (v : Int) (2 ^ 0)) = _
  rw [fdivP]
  have : IntKind.u8.wrap ((v / 2 ^ 0 : Nat) : Int) = ((v / 2 ^ 0 : Nat) : Int) % 256:=rfl
  rw [this];unfold lo8;simp
 refine zBo mixed tbPk3 [] Try.func35 (c:=bodyOf Try.f35) (by kernel_rfl) ?_
 refine ifK (fun g=>by have g : (shrI .i64 (v : Int) (IntKind.i64.wrap (8 * 2)) != 0) = true:=g;rw [a1] at g;cases g) (fun _=>?_)
 refine aI (by kernel_rfl) ?_
 refine ⟨_,_,_,rfl,?_⟩
 show some (AObj.cells [.int .u8 _,.int .u8 _] _) = _
 rw [a2,a3];rfl
noncomputable def zKa : Ct Try.prog 0 :=
 CtR.ct { f := 35,X:=Nat,pre:=fun v a _ _=>a = [.int .i64 (v : Int)] /\ v < 65536,
          out:=fun v H n=>.ret (.tuple #[sq n 2 U,.int .i64 0]) (layN H n [([hi8 v,lo8 v].map byV,5)]) (n + 1) [],
          ok:=fun v a H n ⟨h1,h2⟩=>by
           subst h1
           obtain ⟨r,hF,H',m,wr,rfl,hg⟩:=put16_fn v h2
           refine zKw (fun n=>.tuple #[sq n 2 U,.int .i64 0]) [] [4] [([hi8 v,lo8 v].map byV,5)] hF (fun k _=>aH k) (fun i j o hij hi=>by simp at hi) (ArgOK.of (.cons _ _ _ _ (.int _ _) .nil)) (fun k o hk=>by cases hk) (by decide) (fun x hx=>by simp at hx;subst hx;exact ⟨aH _,by decide⟩) rfl (fun i b xs e hb hc=>?_)
            (fun n=>.tuple _ _ (.cons _ _ _ _ (.sl _ _ _ _ _ (tau_at 0 (by decide) (aH _) rfl)) (.cons _ _ _ _ (.int _ _) .nil)))
           match i,hb,hc with
           | 0,hb,hc=>cases hb;cases hc;exact ⟨hg,zAc _⟩
           | i + 1,hb,hc=>simp at hb,
          uniq:=fun x y a H n ⟨h1,_⟩ ⟨k1,_⟩=>by
           rw [h1] at k1
           simp only [aQ,Value.int.injEq,true_and,and_true] at k1
           have : x = y:=by omega
           rw [this] }
end
section
open Go Go.RowKit
noncomputable def inl_put4 : Ct Try.prog 0:=Ct.inl (tbOf mixed []) mixed [] 83 Try.f83 Try.func83 (bodyOf Try.f83) (by kernel_rfl)
noncomputable def tbWr5 : Tb Try.prog 0:=tbOf mixed [inl_put4]
def by4 (v : Nat) : Bl:=[UInt8.ofNat (v / 2 ^ 24),UInt8.ofNat (v / 2 ^ 16),UInt8.ofNat (v / 2 ^ 8),UInt8.ofNat (v / 2 ^ 0)]
def by2 (v : Nat) : Bl:=[hi8 v,lo8 v]
theorem wrapD (v k : Nat) : IntKind.u8.wrap (Int.fdiv (v : Int) (2 ^ k)) = ((UInt8.ofNat (v / 2 ^ k)).toNat : Int):=by rw [fdivP];exact wrap8
theorem put32_fn (v : Nat) (h : v < 4294967296) : ∃ r,FnS Try.prog 0 72 [.int .i64 (v : Int)] .e 0 r /\ ∃ H m wr,r = .ret (.tuple #[sq 8 4 U,.int .i64 0]) H m wr /\ H.get 8 = some (.cells ((by4 v).map byV) 5):=by
 have a1 : shrI .i64 (v : Int) (IntKind.i64.wrap (8 * 4)) = 0:=by
  show Int.fdiv (v : Int) (2 ^ 32) = 0
  rw [fdivP];omega
 refine zBo mixed tbWr5 [] Try.func72 (c:=bodyOf Try.f72) (by kernel_rfl) ?_
 refine ifK (fun g=>by have g : (shrI .i64 (v : Int) (IntKind.i64.wrap (8 * 4)) != 0) = true:=g;rw [a1] at g;cases g) (fun _=>?_)
 refine aI (by kernel_rfl) ?_
 refine aI (by kernel_rfl) ?_
 refine aI (by kernel_rfl) ?_
 refine ⟨_,_,_,rfl,?_⟩
 show some (AObj.cells [.int .u8 (IntKind.u8.wrap (Int.fdiv (v : Int) (2 ^ 24))),.int .u8 (IntKind.u8.wrap (Int.fdiv (v : Int) (2 ^ 16))),.int .u8 (IntKind.u8.wrap (Int.fdiv (v : Int) (2 ^ 8))),.int .u8 (IntKind.u8.wrap (Int.fdiv (v : Int) (2 ^ 0)))] _) = _
 rw [wrapD,wrapD,wrapD,wrapD];rfl
noncomputable def ct_newB (f : FuncId) (b : Nat) (hb : b < JJ) (bound : Nat) (bytes : Nat -> Bl) (k : Nat) (ok : ∀ v,v < bound -> ∃ r,FnS Try.prog 0 f [.int .i64 (v : Int)] .e 0 r /\ ∃ H m wr,r = .ret (.tuple #[sq b k U,.int .i64 0]) H m wr /\ H.get b = some (.cells ((bytes v).map byV) 5)) : Ct Try.prog 0 :=
 CtR.ct { f := f,X:=Nat,pre:=fun v a _ _=>a = [.int .i64 (v : Int)] /\ v < bound,
          out:=fun v H n=>.ret (.tuple #[sq n k U,.int .i64 0]) (layN H n [((bytes v).map byV,5)]) (n + 1) [],
          ok:=fun v a H n ⟨h1,h2⟩=>by
           subst h1
           obtain ⟨r,hF,H',m,wr,rfl,hg⟩:=ok v h2
           refine zKw (fun n=>.tuple #[sq n k U,.int .i64 0]) [] [b] [((bytes v).map byV,5)] hF (fun k _=>aH k) (fun i j o hij hi=>by simp at hi) (ArgOK.of (.cons _ _ _ _ (.int _ _) .nil)) (fun k o hk=>by cases hk) (by simp) (fun x hx=>by simp at hx;subst hx;exact ⟨aH _,hb⟩) rfl (fun i b xs e hb hc=>?_)
            (fun n=>.tuple _ _ (.cons _ _ _ _ (.sl _ _ _ _ _ (tau_at 0 (by simp) (aH _) rfl)) (.cons _ _ _ _ (.int _ _) .nil)))
           match i,hb,hc with
           | 0,hb,hc=>cases hb;cases hc;exact ⟨hg,zAc _⟩
           | i + 1,hb,hc=>simp at hb,
          uniq:=fun x y a H n ⟨h1,_⟩ ⟨k1,_⟩=>by
           rw [h1] at k1
           simp only [aQ,Value.int.injEq,true_and,and_true] at k1
           have : x = y:=by omega
           rw [this] }
noncomputable def ct_put32 : Ct Try.prog 0:=ct_newB 72 8 (by decide) 4294967296 by4 4 put32_fn
end
section
open Go Go.RowKit
end
section
open Go Go.RowKit
inductive Nm : Bs -> Prop
 | root : Nm [0]
 | lab (c : UInt8) (x r : Bs) (h1 : 0 < c.toNat) (h2 : c.toNat<=63) (hx : x.length = c.toNat) (hr : Nm r) : Nm (c :: (x++r))
theorem Nm.pos {l : Bs} (h : Nm l) : 0 < l.length:=by cases h <;> simp
theorem zNp : ∀ (f : Nat) (l : Bs),l.length < f -> (none ∉ nameSeq f l ↔ Nm l)
 | f + 1,l,hf=>by
  rw [nameSeq]
  by_cases h0 : l = [0]
  ·rw [if_pos h0,h0];exact ⟨fun _=>.root,fun _=>by simp⟩
  rw [if_neg h0]
  by_cases h1 : l.length = 0 \/ bt l 0 = 0 \/ 63 < bt l 0 \/ l.length<=bt l 0
  ·rw [if_pos h1]
   refine ⟨fun h=>ab (by simp) h,fun h=>?_⟩
   exfalso
   cases h with
   | root=>exact h0 rfl
   | lab c x r g1 g2 g3 g4 =>
    have hb : bt (c :: (x++r)) 0 = c.toNat:=rfl
    rw [hb] at h1
    simp only [aC,aB] at h1
    omega
  rw [if_neg h1]
  cases l with
  | nil=>exact ab (.inl rfl) h1
  | cons c tl =>
   have hb : bt (c :: tl) 0 = c.toNat:=rfl
   rw [hb] at h1 ⊢
   have e1 : (c :: tl).drop (1 + c.toNat) = tl.drop c.toNat:=by rw [Nat.add_comm];rfl
   rw [e1]
   simp only [aC] at h1 hf
   have ih:=zNp f (tl.drop c.toNat) (by rw [aM];omega)
   have e2 : (none ∉ some ((c :: tl).tail.take c.toNat) :: nameSeq f (tl.drop c.toNat)) ↔ none ∉ nameSeq f (tl.drop c.toNat):=by simp
   rw [e2,ih]
   constructor
   ·intro h
    have := Nm.lab c (tl.take c.toNat) (tl.drop c.toNat) (by omega) (by omega) (by rw [aU];omega) h
    rwa [List.take_append_drop] at this
   intro h
   generalize hq : c :: tl = q at h
   cases h with
   | root=>exact ab hq h0
   | lab c' x r g1 g2 g3 g4 =>
    simp only [aQ] at hq
    obtain ⟨rfl,rfl⟩:=hq
    rw [<- g3,List.drop_left];exact g4
theorem zCf (l : Bs) : (labels l).2 = 0 ↔ Nm l /\ l.length<=255:=by
 have h:=zNp (l.length + 1) l (by omega)
 unfold labels
 by_cases h1 : none ∈ nameSeq (l.length + 1) l
 ·rw [if_pos h1]
  exact ⟨fun e=>(by cases e),fun e=>ab h1 (h.2 e.1)⟩
 rw [if_neg h1]
 by_cases h2 : 255 < l.length
 ·rw [if_pos h2];exact ⟨fun e=>(by cases e),fun e=>by omega⟩
 rw [if_neg h2];exact ⟨fun _=>⟨h.1 h1,by omega⟩,fun _=>rfl⟩
theorem zNh {l : Bs} {k : Nat} (h : front l = some k) : Nm (l.take k) /\ (l.take k).length = k /\ k<=255 /\ (labels (l.take k)).2 = 0:=by
 have h1:=zKd h
 have h2:=front_len h
 unfold front at h
 split at h
 ·rename_i j hj
  split at h
  ·rename_i hl
   cases h
   exact ⟨((zCf _).1 hl).1,by rw [aU];omega,h2,hl⟩
  cases h
 cases h
end
section
open Go Go.RowKit
theorem zAk {σ : Nat -> Nat -> Prop} (T : List (Bl × Nat)) : RM σ (encT T) (encT T):=by
 induction T with
 | nil=>exact .nil
 | cons p T ih=>exact .cons _ _ _ _ (.string _) (.int _ _) ih
def pkS (a : Nat) (en : Int) (T : List (Bl × Nat)) (ck : Nat) (x : Bl × List (Bl × Nat) × Bl) (f : Nat -> Option Value) : Fs:=match x with
 | ([],F,t)=>⟨slots 7 [(0,pt 0),(1,.int .i64 (a : Int)),(9,.slice none 0 0),(10,.map (some 2)),(11,.string (mkS t))] f,heap 3 [(0,.cells [.map (some 1),.int .i64 en] 102),(1,.map (encT T) ck),(2,.map (encT F) F.length)],3,[],[]⟩
 | (u :: us,F,t)=>⟨slots 7 [(0,pt 0),(1,.int .i64 (a : Int)),(9,sq 3 (us.length + 1) U),(10,.map (some 2)),(11,.string (mkS t))] f,heap 3 [(0,.cells [.map (some 1),.int .i64 en] 102),(1,.map (encT T) ck),(2,.map (encT F) F.length),(3,.cells ((u :: us).map byV) 5)],4,[],[]⟩
def pkE (a : Nat) (en : Int) (T : List (Bl × Nat)) (ck : Nat) (u : UInt8) (us : Bl) (F : List (Bl × Nat)) (f : Nat -> Option Value) : Fs:=⟨slots 7 [(0,pt 0),(1,.int .i64 (a : Int)),(9,sq 3 (us.length + 1) U),(10,.map (some 2))] f,heap 3 [(0,.cells [.map (some 1),.int .i64 en] 102),(1,.map (encT T) ck),(2,.map (encT F) F.length),(3,.cells ((u :: us).map byV) 5)],4,[],[]⟩
noncomputable def tbPk4 : Tb Try.prog 0:=tbOf mixed [zHs,zKa]
theorem zEx (l : Bl) : (mkS l).data.size = l.length:=by simp [mkS]
theorem atS_mkS (l : Bl) (i : Nat) : atS (mkS l) (i : Int) = l.getD i 0:=by simp [atS,mkS]
def goodT (T : List (Bl × Nat)) : Prop:=(T.map (·.1)).Nodup /\ ∀ p ∈ T,p.2 < 16384
theorem zLn {s : Bl} {k : Nat} : ∀ {T : List (Bl × Nat)},lookT T s = some k -> (s,k) ∈ T
 | (t,j) :: T,h=>by
  unfold lookT at h
  split at h
  ·rename_i e;subst e;cases h;exact List.mem_cons_self ..
  exact List.mem_cons_of_mem _ (zLn h)
theorem or_low {k : Nat} (h : k < 16384) : bitsI .or .i64 49152 (k : Int) = ((49152 + k : Nat) : Int):=by
 have e : bitsI .or .i64 49152 (k : Int) = IntKind.i64.wrap (BitVec.ofInt 64 49152 ||| BitVec.ofInt 64 (k : Int)).toNat:=rfl
 have e1 : (BitVec.ofInt 64 (k : Int)).toNat = k:=by rw [BitVec.toNat_ofInt];omega
 have e2 : (BitVec.ofInt 64 49152).toNat = 2 ^ 14 * 3:=by decide
 rw [e,BitVec.toNat_or,e1,e2,<- Nat.two_pow_add_eq_or_of_lt (i:=14) h 3]
 exact zDv (by omega) (by omega)
theorem hi_ptr (k : Nat) : hi8 (49152 + k) = UInt8.ofNat (192 + k / 256):=by unfold hi8;congr 1;omega
theorem lo_ptr (k : Nat) : lo8 (49152 + k) = UInt8.ofNat (k % 256):=by unfold lo8;congr 1;omega
theorem name_loop (a : Nat) (en : Int) (T : List (Bl × Nat)) (ck : Nat) (B : Bl) (ha : a<=65535) (hT : goodT T) (hB : Nm B) (hlB : B.length<=255) {s0 : Fs} {K : Ex -> Fs -> Prop}
  (h0 : ∃ f,RcM Try.prog 0 2 (3 + (Try.f70.ntmps - 3)) none s0 (pkS a en T ck ([],[],B) f))
  (hex : ∀ u us F f,(u :: us,F) = packN T a B.length B 0 -> (u :: us).length<=257 -> K (.exit 1) (pkE a en T ck u us F f)) :
  LW Try.prog 0 2 (3 + (Try.f70.ntmps - 3)) none (loopAt Try.f70 0) s0 K:=by
 have h1s : (Try.prog.types[5]).size = 1:=by kernel_rfl
 have hby : (Try.prog.types[5]).bytes = 1:=by kernel_rfl
 obtain ⟨R,hR⟩ : ∃ R,packN T a B.length B 0 = R:=⟨_,rfl⟩
 rw [hR] at hex
 refine zAp (pkS a en T ck) (fun x=>x.2.2.length) (fun x=>Nm x.2.2 /\ x.1.length + x.2.2.length<=255 /\ (∀ p ∈ x.2.1,x.2.2.length < p.1.length) /\ ∃ f,x.2.2.length<=f /\ (x.1++(packN T a f x.2.2 x.1.length).1,x.2.1++(packN T a f x.2.2 x.1.length).2) = R) ([],[],B) ⟨hB,by show 0 + B.length<=255;omega,(fun p hp=>by cases hp),B.length,aJ _,hR⟩ h0 ?_
 rintro ⟨out,F,t⟩ f ⟨hnm,hlen,hF,fu,hfu,hpk⟩
 have hnm : Nm t:=hnm
 have hlen : out.length + t.length<=255:=hlen
 have hF : ∀ p ∈ F,t.length < p.1.length:=hF
 have hfu : t.length<=fu:=hfu
 have hpk : (out++(packN T a fu t out.length).1,F++(packN T a fu t out.length).2) = R:=hpk
 have hpos:=hnm.pos
 obtain ⟨fu,rfl⟩ : ∃ g,fu = g + 1:=⟨fu - 1,by omega⟩
 obtain ⟨c,hc⟩ : ∃ c,(t.getD 0 0).toNat = c:=⟨_,rfl⟩
 have hcl : c<=63:=by rw [<- hc];cases hnm <;> simp <;> omega
 have hct : c ≠ 0 -> c + 1 < t.length /\ Nm (t.drop (c + 1)):=fun h=>by
  cases hnm with
  | root=>exact ab (show c = 0 by rw [<- hc];rfl) h
  | lab c' x r h1 h2 hx hr =>
   have hc : c'.toNat = c:=hc
   have e : (c' :: (x++r)).drop (c + 1) = r:=by rw [List.drop_succ_cons,<- hc,<- hx,List.drop_left]
   refine ⟨?_,by rw [e];exact hr⟩
   have := hr.pos
   simp;omega
 have hFn : lookT F t = none:=zEc.2 fun h=>by
  obtain ⟨p,hp,he⟩:=List.mem_map.1 h
  have := hF p hp
  rw [he] at this;omega
 unfold packN at hpk
 simp only [hc] at hpk
 have es : inI 0 (mkS t).data.size = true:=by rw [zEx];simp [inI];omega
 have ec : ((atS (mkS t) 0).toNat : Int) = (c : Int):=by rw [show (0 : Int) = ((0 : Nat) : Int) from rfl,atS_mkS,hc]
 have ew : IntKind.i64.wrap (1 + IntKind.i64.wrap ((atS (mkS t) 0).toNat : Int)) = ((c + 1 : Nat) : Int):=by
  rw [ec,zDv (x:=(c : Int)) (by omega) (by omega),zDv (by omega) (by omega)];omega
 have hsl : c ≠ 0 -> inLH 0 (IntKind.i64.wrap (1 + IntKind.i64.wrap ((atS (mkS t) 0).toNat : Int))) (mkS t).data.size = true:=fun h=>by
  have := (hct h).1
  rw [ew,zEx];simp [inLH];omega
 have hsl2 : c ≠ 0 -> inLH (IntKind.i64.wrap (1 + IntKind.i64.wrap ((atS (mkS t) 0).toNat : Int))) ((mkS t).data.size : Int) (mkS t).data.size = true:=fun h=>by
  have := (hct h).1
  rw [ew,zEx];simp [inLH];omega
 have edrop : subS (mkS t) (IntKind.i64.wrap (1 + IntKind.i64.wrap ((atS (mkS t) 0).toNat : Int))).toNat (((mkS t).data.size : Int)).toNat = mkS (t.drop (c + 1)):=by
  rw [ew,aO,aO,zEx]
  simp [subS,mkS]
 have esub : ∀ lo : Nat,lo = 0 -> (subS (mkS t) lo (IntKind.i64.wrap (1 + IntKind.i64.wrap ((atS (mkS t) 0).toNat : Int))).toNat).data.toList = t.take (c + 1):=fun lo h=>by
  subst h
  rw [ew,aO];simp [subS,mkS]
 have hel : c ≠ 0 -> (t.take (c + 1)).length = c + 1:=fun h=>by have := (hct h).1;rw [aU];omega
 cases out with
 | nil =>
  refine zAq tbPk4 [1,3,900005,900006] 2 _ none mixed _ _ _ ?_
  refine aI es ?_
  refine ifK (fun h1=>?_) (fun h1=>?_)
  ·have h1 : c = 0 := by have h1 : (((atS (mkS t) 0).toNat : Int) == 0) = true:=h1;rw [ec] at h1;have : (c : Int) = 0:=by simpa using h1
                         omega
   rw [if_pos h1] at hpk
   refine eI [Value.int .u8 0] (aI rfl ?_)
   refine aI (by kernel_rfl) ?_
   refine aI rfl (zAh (rcq [2,4] (d:=7) (d2:=3) (lv:=[(0,pt 0),(1,.int .i64 (a : Int)),(9,sq 3 (0 + 1) U),(10,.map (some 2))]) (bs:=[(0,.cells [.map (some 1),.int .i64 en] 102),(1,.map (encT T) ck),(2,.map (encT F) F.length),(3,.cells (([0] : Bl).map byV) 5)]) (W:=[]) (m:=4) (df:=[]) ⟨(sP rfl rfl),(sI rfl),(sL rfl rfl),⟨_,rfl,.map _ _ rfl⟩,tv⟩ ⟨⟨by decide,_,rfl,RO.cells [_,_] [] _ _ (.cons _ _ _ _ (.map _ _ rfl) (.cons _ _ _ _ (.int _ _) .nil))⟩,⟨by decide,_,rfl,RO.map _ _ _ (zAk _)⟩,⟨by decide,_,rfl,RO.map _ _ _ (zAk _)⟩,bpo rfl,tv⟩ .nil) (fun f=>?_))
   exact hex 0 [] F f (by rw [<- hpk];simp) (by decide)
  have h1 : c ≠ 0:=fun e=>by have h1 : (((atS (mkS t) 0).toNat : Int) == 0) = false:=h1;rw [ec,e] at h1;cases h1
  rw [if_neg h1] at hpk
  cases hlk : lookT T t with
  | some k =>
   rw [hlk] at hpk
   refine eI (Value.tuple #[.int .i64 (k : Int),.bool true]) (eI ([] : List (Nat × Option AObj)) (eI (0 : Nat) (aI ?_ ?_)))
   ·exact zQj rfl rfl rfl (by kernel_rfl) rfl hT.1 hlk
   have hk : k < 16384:=hT.2 _ (zLn hlk)
   have e1 : bitsI .or .i64 49152 (k : Int) = ((49152 + k : Nat) : Int):=or_low hk
   refine eI (49152 + k) (aI ⟨by show [Value.int .i64 (bitsI .or .i64 49152 (k : Int))] = _;rw [e1],by omega⟩ ?_)
   refine eI ([hi8 (49152 + k),lo8 (49152 + k)].map byV) (aI (by rw [h1s];rfl) ?_)
   refine aI (by kernel_rfl) ?_
   refine aI rfl (zAh (rcq [2,4] (d:=7) (d2:=3) (lv:=[(0,pt 0),(1,.int .i64 (a : Int)),(9,sq 3 (1 + 1) U),(10,.map (some 2))]) (bs:=[(0,.cells [.map (some 1),.int .i64 en] 102),(1,.map (encT T) ck),(2,.map (encT F) F.length),(3,.cells ([hi8 (49152 + k),lo8 (49152 + k)].map byV) 5)]) (W:=[]) (m:=4) (df:=[]) ⟨(sP rfl rfl),(sI rfl),(sL rfl rfl),⟨_,rfl,.map _ _ rfl⟩,tv⟩ ⟨⟨by decide,_,rfl,RO.cells [_,_] [] _ _ (.cons _ _ _ _ (.map _ _ rfl) (.cons _ _ _ _ (.int _ _) .nil))⟩,⟨by decide,_,rfl,RO.map _ _ _ (zAk _)⟩,⟨by decide,_,rfl,RO.map _ _ _ (zAk _)⟩,bpo rfl,tv⟩ .nil) (fun f=>?_))
   exact hex _ [_] F f (by rw [<- hpk,hi_ptr,lo_ptr];simp) (by simp)
  | none =>
   rw [hlk] at hpk
   refine eI (Value.tuple #[.int .i64 0,.bool false]) (eI ([] : List (Nat × Option AObj)) (eI (0 : Nat) (aI ?_ ?_)))
   ·exact zQi rfl rfl rfl (by kernel_rfl) rfl hlk
   have e2 : IntKind.i64.wrap ((a : Int) + ((0 : Nat) : Int)) = (a : Int):=zDv (by omega) (by omega)
   refine ifK (fun g=>?_) (fun g=>?_)
   ·have g : a < 16384:=by have g : decide (IntKind.i64.wrap ((a : Int) + ((0 : Nat) : Int)) < 16384) = true:=g;rw [e2] at g;have := oT g;omega
    refine eI undef (eI [((2 : Nat),some (AObj.map (encT (F++[(t,a)])) (F.length + 1)))] (eI (0 : Nat) (aI ?_ ?_)))
    ·exact zVe rfl rfl rfl (by show Value.int _ _ = _;rw [e2]) (by kernel_rfl) rfl hFn
    refine aI es ?_
    refine aI (hsl h1) ?_
    refine ifK (fun g=>ab (aA g) (by rw [esub (Int.toNat 0) rfl,hel h1];omega)) (fun _=>?_)
    refine aI (by rw [esub (Int.toNat 0) rfl,hel h1,hby,aX (by omega),aX (by omega)];rfl) ?_
    refine aI es ?_
    refine aI (hsl2 h1) ?_
    obtain ⟨u,us,hu⟩ : ∃ u us,t.take (c + 1) = u :: us:=by
     have := hel h1
     cases hq : t.take (c + 1) with
     | nil=>rw [hq] at this;cases this
     | cons u us=>exact ⟨u,us,rfl⟩
    have hul : (u :: us).length = 0 + c + 1:=by rw [<- hu,hel h1];omega
    have hc1:=hct h1
    refine ⟨(u :: us,F++[(t,a)],t.drop (c + 1)),⟨hc1.2,?_,?_,fu,?_,?_⟩,?_,?_⟩
    ·show (u :: us).length + (t.drop (c + 1)).length<=255
     have hlen : 0 + t.length<=255:=hlen
     rw [hul,aM];omega
    ·exact fun p hp=>by
      rcases List.mem_append.1 hp with h | h
      ·have : t.length < p.1.length:=hF p h
       show (t.drop (c + 1)).length < _;rw [aM];omega
      rw [List.mem_singleton.1 h];show (t.drop (c + 1)).length < t.length;rw [aM];omega
    ·show (t.drop (c + 1)).length<=fu
     rw [aM];omega
    ·show ((u :: us)++(packN T a fu (t.drop (c + 1)) (u :: us).length).1,F++[(t,a)]++(packN T a fu (t.drop (c + 1)) (u :: us).length).2) = R
     have hpk : ([]++(t.take (c + 1)++(packN T a fu (t.drop (c + 1)) (0 + c + 1)).1),F++(if a + 0 < 16384 then (t,a + 0) :: (packN T a fu (t.drop (c + 1)) (0 + c + 1)).2 else (packN T a fu (t.drop (c + 1)) (0 + c + 1)).2)) = R:=hpk
     rw [<- hpk,hul,if_pos (by omega)];simp [<- hu,aN]
    ·show (t.drop (c + 1)).length < t.length
     rw [aM];omega
    exact rcq [2,3] ⟨(sP rfl rfl),(sI rfl),⟨_,rfl,by rw [esub (Int.toNat 0) rfl,hu];exact .sl _ _ _ _ _ rfl⟩,⟨_,rfl,.map _ _ rfl⟩,⟨_,rfl,by rw [edrop];exact .string _⟩,tv⟩ ⟨⟨by decide,_,rfl,RO.cells [_,_] [] _ _ (.cons _ _ _ _ (.map _ _ rfl) (.cons _ _ _ _ (.int _ _) .nil))⟩,⟨by decide,_,rfl,RO.map _ _ _ (zAk _)⟩,⟨by decide,_,rfl,by rw [aB];exact RO.map _ _ _ (zAk _)⟩,⟨by decide,_,rfl,by rw [esub (Int.toNat 0) rfl,hu];exact .same (zAc (u :: us))⟩,tv⟩ .nil
   have g : ¬ a < 16384:=fun hlt=>by have g : decide (IntKind.i64.wrap ((a : Int) + ((0 : Nat) : Int)) < 16384) = false:=g;rw [e2] at g;exact ab (show (a : Int) < 16384 by omega) (oF g)
   refine aI es ?_
   refine aI (hsl h1) ?_
   refine ifK (fun g=>ab (aA g) (by rw [esub (Int.toNat 0) rfl,hel h1];omega)) (fun _=>?_)
   refine aI (by rw [esub (Int.toNat 0) rfl,hel h1,hby,aX (by omega),aX (by omega)];rfl) ?_
   refine aI es ?_
   refine aI (hsl2 h1) ?_
   obtain ⟨u,us,hu⟩ : ∃ u us,t.take (c + 1) = u :: us:=by
    have := hel h1
    cases hq : t.take (c + 1) with
    | nil=>rw [hq] at this;cases this
    | cons u us=>exact ⟨u,us,rfl⟩
   have hul : (u :: us).length = 0 + c + 1:=by rw [<- hu,hel h1];omega
   have hc1:=hct h1
   refine ⟨(u :: us,F,t.drop (c + 1)),⟨hc1.2,?_,?_,fu,?_,?_⟩,?_,?_⟩
   ·show (u :: us).length + (t.drop (c + 1)).length<=255
    have hlen : 0 + t.length<=255:=hlen
    rw [hul,aM];omega
   ·exact fun p hp=>by
     have : t.length < p.1.length:=hF p hp
     show (t.drop (c + 1)).length < _;rw [aM];omega
   ·show (t.drop (c + 1)).length<=fu
    rw [aM];omega
   ·show ((u :: us)++(packN T a fu (t.drop (c + 1)) (u :: us).length).1,F++(packN T a fu (t.drop (c + 1)) (u :: us).length).2) = R
    have hpk : ([]++(t.take (c + 1)++(packN T a fu (t.drop (c + 1)) (0 + c + 1)).1),F++(if a + 0 < 16384 then (t,a + 0) :: (packN T a fu (t.drop (c + 1)) (0 + c + 1)).2 else (packN T a fu (t.drop (c + 1)) (0 + c + 1)).2)) = R:=hpk
    rw [<- hpk,hul,if_neg (by omega)];simp [<- hu,aN]
   ·show (t.drop (c + 1)).length < t.length
    rw [aM];omega
   exact rcq [2,3] ⟨(sP rfl rfl),(sI rfl),⟨_,rfl,by rw [esub (Int.toNat 0) rfl,hu];exact .sl _ _ _ _ _ rfl⟩,⟨_,rfl,.map _ _ rfl⟩,⟨_,rfl,by rw [edrop];exact .string _⟩,tv⟩ ⟨⟨by decide,_,rfl,RO.cells [_,_] [] _ _ (.cons _ _ _ _ (.map _ _ rfl) (.cons _ _ _ _ (.int _ _) .nil))⟩,⟨by decide,_,rfl,RO.map _ _ _ (zAk _)⟩,⟨by decide,_,rfl,RO.map _ _ _ (zAk _)⟩,⟨by decide,_,rfl,by rw [esub (Int.toNat 0) rfl,hu];exact .same (zAc (u :: us))⟩,tv⟩ .nil
 | cons u us =>
  have hlen : us.length + 1 + t.length<=255:=hlen
  have hpk : ((u :: us)++(if c = 0 then (([0] : Bl),([] : List (Bl × Nat))) else match lookT T t with
   | some k=>([UInt8.ofNat (192 + k / 256),UInt8.ofNat (k % 256)],[])
   | none=>(t.take (c + 1)++(packN T a fu (t.drop (c + 1)) (us.length + 1 + c + 1)).1,if a + (us.length + 1) < 16384 then (t,a + (us.length + 1)) :: (packN T a fu (t.drop (c + 1)) (us.length + 1 + c + 1)).2 else (packN T a fu (t.drop (c + 1)) (us.length + 1 + c + 1)).2)).1,F++(if c = 0 then (([0] : Bl),([] : List (Bl × Nat))) else match lookT T t with
   | some k=>([UInt8.ofNat (192 + k / 256),UInt8.ofNat (k % 256)],[])
   | none=>(t.take (c + 1)++(packN T a fu (t.drop (c + 1)) (us.length + 1 + c + 1)).1,if a + (us.length + 1) < 16384 then (t,a + (us.length + 1)) :: (packN T a fu (t.drop (c + 1)) (us.length + 1 + c + 1)).2 else (packN T a fu (t.drop (c + 1)) (us.length + 1 + c + 1)).2)).2) = R:=hpk
  refine zAq tbPk4 [1,3,900005,900006] 2 _ none mixed _ _ _ ?_
  refine aI es ?_
  refine ifK (fun h1=>?_) (fun h1=>?_)
  ·have h1 : c = 0 := by have h1 : (((atS (mkS t) 0).toNat : Int) == 0) = true:=h1;rw [ec] at h1;have : (c : Int) = 0:=by simpa using h1
                         omega
   rw [if_pos h1] at hpk
   refine aI (by rw [hby,h1s];simp only [bA,dT];exact ⟨⟨⟨⟨⟨⟨rfl,rfl⟩,bL (by simp)⟩,rfl⟩,(by omega)⟩,(by omega)⟩,bL (by simp)⟩) ?_
   refine aI rfl (zAh (rcq [2,5] (d:=7) (d2:=3) (lv:=[(0,pt 0),(1,.int .i64 (a : Int)),(9,sq 3 ((us++([0] : Bl)).length + 1) U),(10,.map (some 2))]) (bs:=[(0,.cells [.map (some 1),.int .i64 en] 102),(1,.map (encT T) ck),(2,.map (encT F) F.length),(3,.cells ((u :: (us++([0] : Bl))).map byV) 5)]) (W:=[]) (m:=4) (df:=[]) ⟨(sP rfl rfl),(sI rfl),⟨_,rfl,by rw [show (us++([0] : Bl)).length + 1 = us.length + 1 + 1 by simp <;> omega];exact .sl _ _ _ _ _ rfl⟩,⟨_,rfl,.map _ _ rfl⟩,tv⟩ ⟨⟨by decide,_,rfl,RO.cells [_,_] [] _ _ (.cons _ _ _ _ (.map _ _ rfl) (.cons _ _ _ _ (.int _ _) .nil))⟩,⟨by decide,_,rfl,RO.map _ _ _ (zAk _)⟩,⟨by decide,_,rfl,RO.map _ _ _ (zAk _)⟩,⟨by decide,_,rfl,zAs (by rw [h1s,aR,aD (by simp)];simp <;> rfl) (zAc _)⟩,tv⟩ .nil) (fun f=>?_))
   exact hex u (us++([0] : Bl)) F f (by rw [<- hpk];simp) (by simp;omega)
  have h1 : c ≠ 0:=fun e=>by have h1 : (((atS (mkS t) 0).toNat : Int) == 0) = false:=h1;rw [ec,e] at h1;cases h1
  rw [if_neg h1] at hpk
  cases hlk : lookT T t with
  | some k =>
   rw [hlk] at hpk
   refine eI (Value.tuple #[.int .i64 (k : Int),.bool true]) (eI ([] : List (Nat × Option AObj)) (eI (0 : Nat) (aI ?_ ?_)))
   ·exact zQj rfl rfl rfl (by kernel_rfl) rfl hT.1 hlk
   have hk : k < 16384:=hT.2 _ (zLn hlk)
   have e1 : bitsI .or .i64 49152 (k : Int) = ((49152 + k : Nat) : Int):=or_low hk
   refine eI (49152 + k) (aI ⟨by show [Value.int .i64 (bitsI .or .i64 49152 (k : Int))] = _;rw [e1],by omega⟩ ?_)
   refine aI (by rw [hby,h1s];simp only [bA,dT];exact ⟨⟨⟨⟨⟨⟨rfl,rfl⟩,bL (by simp)⟩,rfl⟩,(by omega)⟩,(by omega)⟩,bL (by simp)⟩) ?_
   refine aI rfl (zAh (rcq [2,5] (d:=7) (d2:=3) (lv:=[(0,pt 0),(1,.int .i64 (a : Int)),(9,sq 3 ((us++[hi8 (49152 + k),lo8 (49152 + k)]).length + 1) U),(10,.map (some 2))]) (bs:=[(0,.cells [.map (some 1),.int .i64 en] 102),(1,.map (encT T) ck),(2,.map (encT F) F.length),(3,.cells ((u :: (us++[hi8 (49152 + k),lo8 (49152 + k)])).map byV) 5)]) (W:=[]) (m:=4) (df:=[]) ⟨(sP rfl rfl),(sI rfl),⟨_,rfl,by rw [show (us++[hi8 (49152 + k),lo8 (49152 + k)]).length + 1 = us.length + 1 + 2 by simp <;> omega];exact .sl _ _ _ _ _ rfl⟩,⟨_,rfl,.map _ _ rfl⟩,tv⟩ ⟨⟨by decide,_,rfl,RO.cells [_,_] [] _ _ (.cons _ _ _ _ (.map _ _ rfl) (.cons _ _ _ _ (.int _ _) .nil))⟩,⟨by decide,_,rfl,RO.map _ _ _ (zAk _)⟩,⟨by decide,_,rfl,RO.map _ _ _ (zAk _)⟩,⟨by decide,_,rfl,zAs (by rw [h1s,aR,aD (by simp)];simp <;> rfl) (zAc _)⟩,tv⟩ .nil) (fun f=>?_))
   exact hex u (us++[hi8 (49152 + k),lo8 (49152 + k)]) F f (by rw [<- hpk,hi_ptr,lo_ptr];simp) (by simp;omega)
  | none =>
   rw [hlk] at hpk
   refine eI (Value.tuple #[.int .i64 0,.bool false]) (eI ([] : List (Nat × Option AObj)) (eI (0 : Nat) (aI ?_ ?_)))
   ·exact zQi rfl rfl rfl (by kernel_rfl) rfl hlk
   have e2 : IntKind.i64.wrap ((a : Int) + ((us.length + 1 : Nat) : Int)) = ((a + (us.length + 1) : Nat) : Int):=by rw [zDv (by omega) (by omega)];omega
   have hst : oneL ((t.take (c + 1)).map byV) = true:=by unfold oneL;exact aG.2 (fun v hv=>by obtain ⟨b,_,rfl⟩:=List.mem_map.1 hv;rfl)
   refine ifK (fun g=>?_) (fun g=>?_)
   ·have g : a + (us.length + 1) < 16384:=by have g : decide (IntKind.i64.wrap ((a : Int) + ((us.length + 1 : Nat) : Int)) < 16384) = true:=g;rw [e2] at g;have := oT g;omega
    refine eI undef (eI [((2 : Nat),some (AObj.map (encT (F++[(t,a + (us.length + 1))])) (F.length + 1)))] (eI (0 : Nat) (aI ?_ ?_)))
    ·exact zVe rfl rfl rfl (by show Value.int _ _ = _;rw [e2]) (by kernel_rfl) rfl hFn
    refine aI es ?_
    refine aI (hsl h1) ?_
    refine ifK (fun g=>ab (aA g) (by rw [esub (Int.toNat 0) rfl,hel h1];omega)) (fun _=>?_)
    refine aI (by rw [hby,h1s,esub (Int.toNat 0) rfl];simp only [bA,dT];exact ⟨⟨⟨⟨⟨⟨rfl,rfl⟩,bL (by simp)⟩,hst⟩,(by omega)⟩,(by omega)⟩,bL (by have := (hct h1).1;simp;omega)⟩) ?_
    refine aI es ?_
    refine aI (hsl2 h1) ?_
    have hc1:=hct h1
    have hull : (us++t.take (c + 1)).length + 1 = us.length + 1 + c + 1:=by rw [aB,hel h1];omega
    refine ⟨(u :: (us++t.take (c + 1)),F++[(t,a + (us.length + 1))],t.drop (c + 1)),⟨hc1.2,?_,?_,fu,?_,?_⟩,?_,?_⟩
    ·show (us++t.take (c + 1)).length + 1 + (t.drop (c + 1)).length<=255
     rw [hull,aM];omega
    ·exact fun p hp=>by
      rcases List.mem_append.1 hp with h | h
      ·have : t.length < p.1.length:=hF p h
       show (t.drop (c + 1)).length < _;rw [aM];omega
      rw [List.mem_singleton.1 h];show (t.drop (c + 1)).length < t.length;rw [aM];omega
    ·show (t.drop (c + 1)).length<=fu
     rw [aM];omega
    ·show ((u :: (us++t.take (c + 1)))++(packN T a fu (t.drop (c + 1)) ((us++t.take (c + 1)).length + 1)).1,F++[(t,a + (us.length + 1))]++(packN T a fu (t.drop (c + 1)) ((us++t.take (c + 1)).length + 1)).2) = R
     rw [<- hpk,hull];simp only [if_pos g];simp [aN]
    ·show (t.drop (c + 1)).length < t.length
     rw [aM];omega
    exact rcq [2,4] ⟨(sP rfl rfl),(sI rfl),⟨_,rfl,by rw [esub (Int.toNat 0) rfl,show (us++t.take (c + 1)).length + 1 = us.length + 1 + (t.take (c + 1)).length by rw [aB];omega];exact .sl _ _ _ _ _ rfl⟩,⟨_,rfl,.map _ _ rfl⟩,⟨_,rfl,by rw [edrop];exact .string _⟩,tv⟩ ⟨⟨by decide,_,rfl,RO.cells [_,_] [] _ _ (.cons _ _ _ _ (.map _ _ rfl) (.cons _ _ _ _ (.int _ _) .nil))⟩,⟨by decide,_,rfl,RO.map _ _ _ (zAk _)⟩,⟨by decide,_,rfl,by rw [aB];exact RO.map _ _ _ (zAk _)⟩,⟨by decide,_,rfl,zAs (by rw [esub (Int.toNat 0) rfl,h1s,aR,aD (by simp)];simp <;> rfl) (zAc _)⟩,tv⟩ .nil
   have g : ¬ a + (us.length + 1) < 16384:=fun hlt=>by have g : decide (IntKind.i64.wrap ((a : Int) + ((us.length + 1 : Nat) : Int)) < 16384) = false:=g;rw [e2] at g;exact ab (show ((a + (us.length + 1) : Nat) : Int) < 16384 by omega) (oF g)
   refine aI es ?_
   refine aI (hsl h1) ?_
   refine ifK (fun g=>ab (aA g) (by rw [esub (Int.toNat 0) rfl,hel h1];omega)) (fun _=>?_)
   refine aI (by rw [hby,h1s,esub (Int.toNat 0) rfl];simp only [bA,dT];exact ⟨⟨⟨⟨⟨⟨rfl,rfl⟩,bL (by simp)⟩,hst⟩,(by omega)⟩,(by omega)⟩,bL (by have := (hct h1).1;simp;omega)⟩) ?_
   refine aI es ?_
   refine aI (hsl2 h1) ?_
   have hc1:=hct h1
   have hull : (us++t.take (c + 1)).length + 1 = us.length + 1 + c + 1:=by rw [aB,hel h1];omega
   refine ⟨(u :: (us++t.take (c + 1)),F,t.drop (c + 1)),⟨hc1.2,?_,?_,fu,?_,?_⟩,?_,?_⟩
   ·show (us++t.take (c + 1)).length + 1 + (t.drop (c + 1)).length<=255
    rw [hull,aM];omega
   ·exact fun p hp=>by
     have : t.length < p.1.length:=hF p hp
     show (t.drop (c + 1)).length < _;rw [aM];omega
   ·show (t.drop (c + 1)).length<=fu
    rw [aM];omega
   ·show ((u :: (us++t.take (c + 1)))++(packN T a fu (t.drop (c + 1)) ((us++t.take (c + 1)).length + 1)).1,F++(packN T a fu (t.drop (c + 1)) ((us++t.take (c + 1)).length + 1)).2) = R
    rw [<- hpk,hull];simp only [if_neg g];simp [aN]
   ·show (t.drop (c + 1)).length < t.length
    rw [aM];omega
   exact rcq [2,4] ⟨(sP rfl rfl),(sI rfl),⟨_,rfl,by rw [esub (Int.toNat 0) rfl,show (us++t.take (c + 1)).length + 1 = us.length + 1 + (t.take (c + 1)).length by rw [aB];omega];exact .sl _ _ _ _ _ rfl⟩,⟨_,rfl,.map _ _ rfl⟩,⟨_,rfl,by rw [edrop];exact .string _⟩,tv⟩ ⟨⟨by decide,_,rfl,RO.cells [_,_] [] _ _ (.cons _ _ _ _ (.map _ _ rfl) (.cons _ _ _ _ (.int _ _) .nil))⟩,⟨by decide,_,rfl,RO.map _ _ _ (zAk _)⟩,⟨by decide,_,rfl,RO.map _ _ _ (zAk _)⟩,⟨by decide,_,rfl,zAs (by rw [esub (Int.toNat 0) rfl,h1s,aR,aD (by simp)];simp <;> rfl) (zAc _)⟩,tv⟩ .nil
end
section
open Go Go.RowKit
theorem zPd {F : Fence} {n : Nat} {P : Program} {c : Code} {Q Q' : Exit -> Act -> World -> Prop} {a : Act} {w : World} (h : zDt F n P c Q a w) (hq : ∀ e a' w',Q e a' w' -> Q' e a' w') : zDt F n P c Q' a w:=fun b k cs h1 h2 h3=>by
 obtain ⟨e,a',w',q1,q2⟩:=h b k cs h1 h2 h3
 exact ⟨e,a',w',hq _ _ _ q1,q2⟩
theorem zRe {P : Program} {g0 k0 nt : Nat} {rd : Option Nat} {c : Code} {s s' : Fs} {x : Ex} (h : LoopOK P g0 nt rd c s x s') (hJ : s'.n<=JJ) (hW : ∀ k ∈ s'.wr,k < JJ) (hk : k0<=s.n) : LSem P g0 k0 nt rd c s x s':=by
 obtain ⟨⟨hg,hwr⟩,hw⟩:=h
 refine ⟨aW hk hg.le,fun i hi _=>hwr i hi,fun E a w hf=>?_⟩
 have hfree : Free E s.n s'.n:=fun k h1 h2 hd=>by rcases hf.top k hd with h3 | h3 <;> omega
 refine zPd (hw E w E a w ⟨hf.tr,hf.hr,hf.lw,(Stp.refl E w).sub (fun _ h=>by cases h),hf.df,hf.gl,hf.rd⟩ hfree) ?_
 rintro e a' w' ⟨E',hx,ht,hf',he⟩
 have hle:=hg.le
 refine ⟨E',⟨hf'.tr,hf'.hr,hf'.lw,hf'.df,hf'.gl,hf'.rd,fun k hd=>?_⟩,he,⟨fun i hi=>?_,fun i _ hd=>hx.ρ i hd,fun i _ hd=>hx.tot i hd,fun i _ hd=>hx.sz i hd,fun i _ hd=>hx.sh i hd,fun i _ hd=>hx.ro i hd,fun hn i hi hiJ hd=>?_,hf'.stp.os,hf'.stp.tape,hf'.stp.output,hf'.stp.size,fun b hb hx'=>?_,fun i hi hiJ hd=>?_,hx.fz,fun b ob hb=>(hf'.stp.fz b ob hb).imp (fun h=>h) (fun h=>h.imp (fun h=>h) (fun ⟨o,ho,hd',hr,e⟩=>⟨o,⟨hd',hW o ho,fun _=>⟨ho,hr⟩⟩,e⟩))⟩⟩
 ·rcases (ht k).1 hd with h1 | h1
  ·rcases hf.top k h1 with h2 | h2
   ·exact .inl (by omega)
   exact .inr h2
  exact .inl h1.2
 ·rw [ht i];exact ⟨fun h=>h.resolve_right (by omega),.inl⟩
 ·by_cases h1 : E.dom i
  ·exact fun x=>hn i hi hiJ h1 ((hx.ro i h1).1 x)
  exact (hf'.stp.fresh i h1 hd).1
 ·exact hf'.stp.block b hb (fun id hid hd hr=>hx' id ⟨hd,hW id hid,fun _=>⟨hid,hr⟩⟩)
 by_cases h1 : E.dom i
 ·exact .inr ⟨i,⟨h1,hiJ,fun h=>by omega⟩,(hx.ρ i h1).symm⟩
 exact (hf'.stp.fresh i h1 hd).2.imp (fun h=>h) (fun ⟨o,ho,hd',hr,e⟩=>⟨o,⟨hd',hW o ho,fun _=>⟨ho,hr⟩⟩,e.symm⟩)
theorem zNn {P : Program} {g0 k0 nt : Nat} {rd : Option Nat} {c : Code} {s s' : Fs} {x : Ex} {K : Ex -> Fs -> Prop} (h : mloop P g0 nt c s = some (.code x s')) (hJ : s'.n<=JJ) (hW : ∀ k ∈ s'.wr,k < JJ) (hk : K x s') : LW P g0 k0 nt rd c s K :=
 fun _ h2=>⟨x,s',zRe (zWg h) hJ hW h2,hk⟩
section
variable {P : Program} {g0 nt : Nat}
theorem zXz {c : Code} {s : Fs} {L : MLoop} {K : MKeys} {b m since ck : Nat} (h1 : mparse c = some L) (h2 : mkeys L = some K) (h3 : aev s.T K.it0 = pt b) (h4 : s.H.get b = some (.mit m since)) (h5 : s.H.get m = some (.map [] ck)) (h6 : (since.beq ck&&!(m.beq b)) = true)
  (h7 : (mend P g0 nt L K (s.H.set b none).get s.n b s.T).isSome = true) : mloop P g0 nt c s = some (.code (.exit L.x) { s with T:=(mend P g0 nt L K (s.H.set b none).get s.n b s.T).get h7,H:=s.H.set b none,wr:=b :: s.wr }):=by
 obtain ⟨T,hm⟩:=Option.isSome_iff_exists.1 h7
 have eT : (mend P g0 nt L K (s.H.set b none).get s.n b s.T).get h7 = T:=by simp [hm]
 rw [eT]
 unfold mloop
 simp only [h1,h2,h3,h4,h5,h6,cT,hm]
theorem zYa {c : Code} {s : Fs} {L : MLoop} {K : MKeys} {b m since ck B ckB : Nat} {e : MapEntry} {es esB : List MapEntry} {kt et : TypeId} (h1 : mparse c = some L) (h2 : mkeys L = some K) (h3 : aev s.T K.it0 = pt b) (h4 : s.H.get b = some (.mit m since)) (h5 : s.H.get m = some (.map (e :: es) ck)) (h6 : (since.beq ck&&!(m.beq b)) = true)
  (h7 : (mslots P g0 nt L K (s.H.set b none).get s.n b s.T e).isSome = true) (h8 : aev ((mslots P g0 nt L K (s.H.set b none).get s.n b s.T e).get h7) K.um = .map (some B)) (h9 : (s.H.set b none).get B = some (.map esB ckB)) (h10 : P.underlying K.ut = some (.map kt et)) (h11 : B.beq m = false) (h12 : (P.underlying kt).isSome = true)
  (h13 : zAm (e :: es) = true) (h14 : zAm esB = true) (h15 : ((e :: es).all fun e=>e.born.beq 0) = true) (h16 : ((e :: es).all fun e=>keyOk P kt false e.key) = true) (h17 : ((e :: es).all fun e=>zCz P kt e.key esB) = true) (h18 : zDq P kt (e :: es) = true)
  (h19 : ((e :: es).all fun x=>mround P g0 nt L K ((s.H.set b none).set B none).get s.n b B (anonAll ((mslots P g0 nt L K (s.H.set b none).get s.n b s.T e).get h7) (mdsts L) s.T) s.T x) = true)
  (h20 : ((e :: es).all fun x=>mround P g0 nt L K ((s.H.set b none).set B none).get s.n b B (anonAll ((mslots P g0 nt L K (s.H.set b none).get s.n b s.T e).get h7) (mdsts L) s.T) (anonAll ((mslots P g0 nt L K (s.H.set b none).get s.n b s.T e).get h7) (mdsts L) s.T) x) = true)
  (h21 : (mend P g0 nt L K ((s.H.set b none).set B none).get s.n b (anonAll ((mslots P g0 nt L K (s.H.set b none).get s.n b s.T e).get h7) (mdsts L) s.T)).isSome = true) :
  mloop P g0 nt c s = some (.code (.exit L.x) { s with T:=(mend P g0 nt L K ((s.H.set b none).set B none).get s.n b (anonAll ((mslots P g0 nt L K (s.H.set b none).get s.n b s.T e).get h7) (mdsts L) s.T)).get h21,H:=(s.H.set b none).set B (some (.map (esB++(e :: es)) (ckB + (e :: es).length))),wr:=B :: b :: s.wr }):=by
 obtain ⟨Te,hTe⟩ : ∃ Te,mslots P g0 nt L K (s.H.set b none).get s.n b s.T e = some Te:=Option.isSome_iff_exists.1 h7
 have eT : (mslots P g0 nt L K (s.H.set b none).get s.n b s.T e).get h7 = Te:=by simp [hTe]
 simp only [eT] at h8 h19 h20 h21 ⊢
 obtain ⟨T,hm⟩:=Option.isSome_iff_exists.1 h21
 have eM : (mend P g0 nt L K ((s.H.set b none).set B none).get s.n b (anonAll Te (mdsts L) s.T)).get h21 = T:=by simp [hm]
 rw [eM]
 unfold mloop
 simp only [h1,h2,h3,h4,h5,h6,cT,hTe,h8,h9,h10,h11,h12,h13,h14,h15,h16,h17,h18,Bool.not_false,Bool.and_self,h19,h20,hm]
end
noncomputable def pkL : MLoop:=(mparse (loopAt Try.f70 1)).get (by kernel_rfl)
noncomputable def pkK : MKeys:=(mkeys pkL).get (by kernel_rfl)
theorem not_elem {l : List Nat} {k : Nat} (h : l.elem k = false) : k ∉ l:=fun hm=>by rw [List.elem_eq_true_of_mem hm] at h;cases h
theorem all_lt {l : List Nat} (h : (l.all fun k=>Nat.blt k JJ) = true) : ∀ k ∈ l,k < JJ:=fun k hk=>aE (aG.1 h k hk)
theorem zHg (T : List (Bl × Nat)) (a : Nat) : ∀ (f : Nat) (t : Bl) (o : Nat),(∀ q ∈ (packN T a f t o).2,lookT T q.1 = none /\ q.1.length<=t.length /\ q.2 < 16384) /\ ((packN T a f t o).2.map (·.1)).Nodup
 | 0,_,_=>⟨(fun q hq=>by cases hq),List.nodup_nil⟩
 | f + 1,t,o=>by
  unfold packN
  by_cases hc : (t.getD 0 0).toNat = 0
  ·simp only [if_pos hc];exact ⟨(fun q hq=>by cases hq),List.nodup_nil⟩
  simp only [if_neg hc]
  cases hl : lookT T t with
  | some k=>exact ⟨(fun q hq=>by cases hq),List.nodup_nil⟩
  | none =>
   simp only []
   obtain ⟨h1,h2⟩:=zHg T a f (t.drop ((t.getD 0 0).toNat + 1)) (o + (t.getD 0 0).toNat + 1)
   have hpos : 0 < t.length:=by
    cases t with
    | nil=>exact ab rfl hc
    | cons x t=>simp
   have hlt : ∀ q ∈ (packN T a f (t.drop ((t.getD 0 0).toNat + 1)) (o + (t.getD 0 0).toNat + 1)).2,q.1.length < t.length:=fun q hq=>by
    have := (h1 q hq).2.1
    rw [aM] at this;omega
   split
   ·rename_i hlt2
    refine ⟨fun q hq=>?_,?_⟩
    ·rcases aK.1 hq with rfl | hq
     ·exact ⟨hl,aJ _,hlt2⟩
     exact ⟨(h1 q hq).1,Nat.le_of_lt (hlt q hq),(h1 q hq).2.2⟩
    rw [List.map_cons,List.nodup_cons]
    refine ⟨fun hm=>?_,h2⟩
    obtain ⟨q,hq,he⟩:=List.mem_map.1 hm
    have he : q.1 = t:=he
    have := hlt q hq
    rw [he] at this;omega
   exact ⟨fun q hq=>⟨(h1 q hq).1,Nat.le_of_lt (hlt q hq),(h1 q hq).2.2⟩,h2⟩
theorem zVf {T : List (Bl × Nat)} {s : Bl} (h : lookT T s = none) : zCz Try.prog 9 (.string (mkS s)) (encT T) = true:=by
 unfold zCz
 refine aG.2 fun x hx=>?_
 obtain ⟨q,hq,rfl⟩:=List.mem_map.1 hx
 have hne : s ≠ q.1:=fun e=>zEc.1 h (by rw [e];exact List.mem_map_of_mem hq)
 rw [zQu,zRf,aY hne]
theorem zKs : ∀ {F : List (Bl × Nat)},(F.map (·.1)).Nodup -> zDq Try.prog 9 (encT F) = true
 | [],_=>rfl
 | p :: F,h=>by
  rw [List.map_cons,List.nodup_cons] at h
  show (zCz Try.prog 9 (.string (mkS p.1)) (encT F)&&((encT F).all fun x=>match eqK Try.prog 9 x.key { key:=.string (mkS p.1),val:=.int .i64 (p.2 : Int),born:=0 } with | some false=>true | _=>false)&&zDq Try.prog 9 (encT F)) = true
  rw [zVf (zEc.2 h.1),zKs h.2,Bool.true_and,Bool.and_true]
  refine aG.2 fun x hx=>?_
  obtain ⟨q,hq,rfl⟩:=List.mem_map.1 hx
  have hne : q.1 ≠ p.1:=fun e=>h.1 (by rw [<- e];exact List.mem_map_of_mem hq)
  show (match eqK Try.prog 9 (.string (mkS q.1)) { key:=.string (mkS p.1),val:=.int .i64 (p.2 : Int),born:=0 } with | some false=>true | _=>false) = true
  rw [zQu,zRf,aY hne]
theorem born_of (F : List (Bl × Nat)) : ((encT F).all fun e=>e.born.beq 0) = true:=by
 refine aG.2 fun x hx=>?_
 obtain ⟨q,_,rfl⟩:=List.mem_map.1 hx;rfl
theorem keys_of (F : List (Bl × Nat)) : ((encT F).all fun e=>keyOk Try.prog 9 false e.key) = true:=by
 refine aG.2 fun x hx=>?_
 obtain ⟨q,_,rfl⟩:=List.mem_map.1 hx;exact zVz _ _
theorem zTf (T F : List (Bl × Nat)) : encT T++encT F = encT (T++F):=by unfold encT;rw [List.map_append]
theorem zTg (F : List (Bl × Nat)) : (encT F).length = F.length:=by unfold encT;rw [aT]
theorem name_fn (a : Nat) (en : Nat) (T : List (Bl × Nat)) (ck : Nat) (B : Bl) (ha : a<=65535) (hen : en<=a) (hT : goodT T) (hB : Nm B) (hlB : B.length<=255) :
  ∃ r,FnS Try.prog 0 70 [pt 0,.int .i64 (a : Int),.string (mkS B)] (heap 2 [(0,.cells [.map (some 1),.int .i64 (en : Int)] 102),(1,.map (encT T) ck)]) 2 r /\
   ∃ H m wr b,r = .ret (.tuple #[sq b (packN T a B.length B 0).1.length U,.int .i64 0]) H m wr /\ (2<=b /\ b < JJ /\ 0 ∈ wr /\ (1 ∈ wr \/ 1 ∉ wr /\ (packN T a B.length B 0).2 = [])) /\ H.get b = some (.cells ((packN T a B.length B 0).1.map byV) 5) /\
    H.get 0 = some (.cells [.map (some 1),.int .i64 ((a + (packN T a B.length B 0).1.length : Nat) : Int)] 102) /\ H.get 1 = some (.map (encT (T++(packN T a B.length B 0).2)) (ck + (packN T a B.length B 0).2.length)):=by
 have hsh : shortB (mkS B) = true:=by unfold shortB;rw [zEx];exact bL (by omega)
 have hlab : (labels (bs (mkS B))).2 = 0:=by rw [show bs (mkS B) = B from by simp [bs,mkS]];exact (zCf B).2 ⟨hB,hlB⟩
 refine zBo mixed tbPk4 [1,3,900005,900006] Try.func70 (c:=bodyOf Try.f70) (by kernel_rfl) ?_
 refine aI hsh ?_
 refine ifK (fun g=>by have g : ((labels (bs (mkS B))).2 != 0) = true:=g;rw [hlab] at g;cases g) (fun _=>?_)
 refine ifK (fun g=>ab (oT g) (by omega)) (fun _=>?_)
 refine ifK (fun g=>ab (oT g) (by omega)) (fun _=>?_)
 refine name_loop a (en : Int) T ck B ha hT hB hlB (rcq [2] ⟨(sP rfl rfl),(sI rfl),⟨_,rfl,zAu 8 rfl⟩,⟨_,rfl,.map _ _ rfl⟩,⟨_,rfl,.string _⟩,tv⟩ ⟨⟨by decide,_,rfl,RO.cells [_,_] [] _ _ (.cons _ _ _ _ (.map _ _ rfl) (.cons _ _ _ _ (.int _ _) .nil))⟩,⟨by decide,_,rfl,RO.map _ _ _ (zAk _)⟩,⟨by decide,_,rfl,RO.map _ _ _ .nil⟩,tv⟩ .nil) ?_
 intro u us F f hR hl
 rw [<- hR]
 have hul : us.length + 1<=257:=hl
 have e2 : IntKind.i64.wrap ((a : Int) + ((us.length + 1 : Nat) : Int)) = ((a + (us.length + 1) : Nat) : Int):=by rw [zDv (by omega) (by omega)];omega
 cases F with
 | nil =>
  refine zNn (zXz (L:=pkL) (K:=pkK) (b:=4) (m:=2) (since:=0) (ck:=0) (by kernel_rfl) (by kernel_rfl) (by kernel_rfl) (by kernel_rfl) (by kernel_rfl) (by kernel_rfl) (by kernel_rfl)) ?_ ?_ ?_
  ·exact aE (by kernel_rfl)
  ·exact all_lt (by kernel_rfl)
  refine ⟨_,_,_,3,rfl,⟨by decide,by decide,List.mem_of_elem_eq_true (by kernel_rfl),.inr ⟨not_elem (by kernel_rfl),rfl⟩⟩,rfl,?_,?_⟩
  ·show some (AObj.cells [.map (some 1),.int .i64 (IntKind.i64.wrap ((a : Int) + ((us.length + 1 : Nat) : Int)))] _) = _
   rw [e2];rfl
  rw [aF];rfl
 | cons p F =>
  obtain ⟨hf1,hnd⟩:=zHg T a B.length B 0
  rw [<- hR] at hf1 hnd
  have hbe : (Nat.beq (F.length + 1) (F.length + 1)&&!(Nat.beq 2 4)) = true:=by rw [show Nat.beq (F.length + 1) (F.length + 1) = true by simp];rfl
  refine zNn (zYa (L:=pkL) (K:=pkK) (b:=4) (m:=2) (since:=F.length + 1) (ck:=F.length + 1) (B:=1) (ckB:=ck) (e:={ key:=.string (mkS p.1),val:=.int .i64 (p.2 : Int),born:=0 }) (es:=encT F) (esB:=encT T) (kt:=9) (et:=3) (by kernel_rfl) (by kernel_rfl) (by kernel_rfl) (by kernel_rfl) (by kernel_rfl) hbe (by kernel_rfl) (by kernel_rfl) (by kernel_rfl) (by kernel_rfl) (by kernel_rfl) (by kernel_rfl) ?_ ?_ ?_ ?_ ?_ ?_ ?_ ?_ (by kernel_rfl)) ?_ ?_ ?_
  ·exact zEg (p :: F)
  ·exact zEg T
  ·exact born_of (p :: F)
  ·exact keys_of (p :: F)
  ·refine aG.2 fun x hx=>?_
   have hx : x ∈ encT (p :: F):=hx
   obtain ⟨q,hq,rfl⟩:=List.mem_map.1 hx
   exact zVf (hf1 q hq).1
  ·exact zKs (F:=p :: F) hnd
  ·refine aG.2 fun x hx=>?_
   have hx : x ∈ encT (p :: F):=hx
   obtain ⟨q,_,rfl⟩:=List.mem_map.1 hx
   exact Eq.trans (b:=((decide ((mkS q.1).data.toList = (mkS q.1).data.toList)&&(decide (IntKind.i64 = IntKind.i64)&&decide ((q.2 : Int) = (q.2 : Int))))&&true)) (by kernel_rfl) (by simp)
  ·refine aG.2 fun x hx=>?_
   have hx : x ∈ encT (p :: F):=hx
   obtain ⟨q,_,rfl⟩:=List.mem_map.1 hx
   exact Eq.trans (b:=((decide ((mkS q.1).data.toList = (mkS q.1).data.toList)&&(decide (IntKind.i64 = IntKind.i64)&&decide ((q.2 : Int) = (q.2 : Int))))&&true)) (by kernel_rfl) (by simp)
  ·exact aE (by kernel_rfl)
  ·exact all_lt (by kernel_rfl)
  refine ⟨_,_,_,3,rfl,⟨by decide,by decide,List.mem_of_elem_eq_true (by kernel_rfl),.inl (List.mem_of_elem_eq_true (by kernel_rfl))⟩,rfl,?_,?_⟩
  ·show some (AObj.cells [.map (some 1),.int .i64 (IntKind.i64.wrap ((a : Int) + ((us.length + 1 : Nat) : Int)))] _) = _
   rw [e2];rfl
  show some (AObj.map (encT T++encT (p :: F)) (ck + (encT (p :: F)).length)) = _
  rw [zTf,zTg]
end
section
open Go Go.RowKit
def pnE (en : Nat) (a : Int) (s : ByteArray) : Int:=if (labels (bs s)).2 ≠ 0 then (labels (bs s)).2 else if a < 0 \/ a > 65535 then 2 else if a < en then 9 else 0
theorem nameE_fn (a : Int) (en : Nat) (T : List (Bl × Nat)) (ck : Nat) (s : ByteArray) (hs : shortB s = true) (he : pnE en a s ≠ 0) :
  ∃ r,FnS Try.prog 0 70 [pt 0,.int .i64 a,.string s] (heap 2 [(0,.cells [.map (some 1),.int .i64 (en : Int)] 102),(1,.map (encT T) ck)]) 2 r /\
   ∃ H m wr,r = .ret (.tuple #[.slice none 0 0,.int .i64 (pnE en a s)]) H m wr /\ ∀ k ∈ wr,2<=k:=by
 refine zBo mixed tbPk4 [1,3,900005,900006] Try.func70 (c:=bodyOf Try.f70) (by kernel_rfl) ?_
 unfold pnE at he ⊢
 refine aI hs ?_
 refine ifK (fun g=>?_) (fun g=>?_)
 ·have g : (labels (bs s)).2 ≠ 0:=by have g : ((labels (bs s)).2 != 0) = true:=g;simpa using g
  rw [if_pos g];exact ⟨_,_,_,rfl,zAx rfl⟩
 have g : (labels (bs s)).2 = 0:=by have g : ((labels (bs s)).2 != 0) = false:=g;simpa using g
 rw [if_neg (by simpa using g)] at he ⊢
 refine ifK (fun h1=>?_) (fun h1=>?_)
 ·have h1:=oT h1
  rw [if_pos (.inl h1)];exact ⟨_,_,_,rfl,zAx rfl⟩
 have h1:=oF h1
 refine ifK (fun h2=>?_) (fun h2=>?_)
 ·have h2:=oT h2
  rw [if_pos (.inr h2)];exact ⟨_,_,_,rfl,zAx rfl⟩
 have h2:=oF h2
 rw [if_neg (by omega)] at he ⊢
 refine ifK (fun h3=>?_) (fun h3=>?_)
 ·have h3:=oT h3
  rw [if_pos h3];exact ⟨_,_,_,rfl,zAx rfl⟩
 have h3:=oF h3
 rw [if_neg h3] at he
 exact ab rfl he
theorem zOq : ∀ {T U : List (Bl × Nat)},encT T = encT U -> T = U
 | [],[],_=>rfl
 | [],_ :: _,h=>by cases h
 | _ :: _,[],h=>by cases h
 | (a,i) :: T,(b,j) :: U,h=>by
  have h : ({ key:=Value.string (mkS a),val:=.int .i64 (i : Int),born:=0 } : MapEntry) :: encT T = { key:=.string (mkS b),val:=.int .i64 (j : Int),born:=0 } :: encT U:=h
  simp only [aQ,MapEntry.mk.injEq,Value.string.injEq,Value.int.injEq,true_and,and_true] at h
  obtain ⟨⟨h1,h2⟩,h3⟩:=h
  rw [mkS_inj h1,zOq h3,show i = j by omega]
structure PkX where
 pb : Nat
 mb : Nat
 en : Nat
 T : List (Bl × Nat)
 ck : Nat
 a : Int
 s : ByteArray
 er : Bool
 o : Bl
 F : List (Bl × Nat)
theorem zWo {en : Nat} {a : Int} {s : ByteArray} (he : pnE en a s = 0) : ∃ k : Nat,a = (k : Int) /\ k<=65535 /\ en<=k /\ Nm (bs s) /\ (bs s).length<=255 /\ mkS (bs s) = s:=by
 unfold pnE at he
 have hl : (labels (bs s)).2 = 0:=by
  by_cases h : (labels (bs s)).2 = 0
  ·exact h
  rw [if_pos h] at he;exact ab he h
 rw [if_neg (by simpa using hl)] at he
 have ha : ¬ (a < 0 \/ a > 65535):=fun h=>by rw [if_pos h] at he;cases he
 rw [if_neg ha] at he
 have hen : ¬ a < en:=fun h=>by rw [if_pos h] at he;cases he
 obtain ⟨hB,hlB⟩:=(zCf (bs s)).1 hl
 exact ⟨a.toNat,by omega,by omega,by omega,hB,hlB,by simp [mkS,bs]⟩
def pnR (en : Nat) (T : List (Bl × Nat)) (a : Int) (s : ByteArray) (er : Bool) (o : Bl) (F : List (Bl × Nat)) : Prop:=er = decide (pnE en a s ≠ 0) /\ (er = false -> packN T a.toNat (bs s).length (bs s) 0 = (o,F))
theorem pnR.ne {en : Nat} {T : List (Bl × Nat)} {a : Int} {s : ByteArray} {o : Bl} {F : List (Bl × Nat)} (h : pnR en T a s true o F) : pnE en a s ≠ 0:=oT h.1.symm
theorem pnR.eq {en : Nat} {T : List (Bl × Nat)} {a : Int} {s : ByteArray} {o : Bl} {F : List (Bl × Nat)} (h : pnR en T a s false o F) : pnE en a s = 0:=Decidable.not_not.1 (oF h.1.symm)
theorem pnR.uniq {en : Nat} {T : List (Bl × Nat)} {a : Int} {s : ByteArray} {er er' : Bool} {o o' : Bl} {F F' : List (Bl × Nat)} (h : pnR en T a s er o F) (k : pnR en T a s er' o' F') : er = er' /\ (er = false -> o = o' /\ F = F'):=by
 obtain ⟨h1,h2⟩:=h
 obtain ⟨k1,k2⟩:=k
 have e : er = er':=h1.trans k1.symm
 subst e
 refine ⟨rfl,fun e=>?_⟩
 have := (h2 e).symm.trans (k2 e)
 simp only [Prod.mk.injEq] at this;exact this
theorem zSv {f : FuncId} {args args0 : List Value} {H H0 H' : Tr AObj} {n m pb mb b e0 ck k : Nat} {wr : List Nat} {T : List (Bl × Nat)} {r : Bl × List (Bl × Nat)} (hF : FnS Try.prog 0 f args0 H0 2 (.ret (.tuple #[sq b r.1.length U,.int .i64 0]) H' m wr))
  (hA : [pb,mb].Nodup) (hcb : CallB Try.prog [pb,mb] H H0) (harg : RL (caR [pb,mb]) args args0) (h2 : H.get pb = some (.cells [.map (some mb),.int .i64 (e0 : Int)] 102)) (h3 : H.get mb = some (.map (encT T) ck)) (hb2 : 2<=b) (hbJ : b < JJ) (w0 : 0 ∈ wr) (w1 : 1 ∈ wr \/ 1 ∉ wr /\ r.2 = [])
  (g1 : H'.get b = some (.cells (r.1.map byV) 5)) (g2 : H'.get 0 = some (.cells [.map (some 1),.int .i64 ((k + r.1.length : Nat) : Int)] 102)) (g3 : H'.get 1 = some (.map (encT (T++r.2)) (ck + r.2.length))) (hw0 : ∀ j,j < 2 -> ∀ o,H0.get j = some o -> ¬ o.isWin) :
  CallOK Try.prog 0 f args H n (.ret (.tuple #[sq n r.1.length U,.int .i64 0]) (((H.set pb (some (.cells [.map (some mb),.int .i64 ((k + r.1.length : Nat) : Int)] 102))).set mb (some (.map (encT (T++r.2)) (ck + r.2.length)))).set n (some (.cells (r.1.map byV) 5))) (n + 1) [pb,mb]):=by
 have hne : pb ≠ mb:=fun e=>by subst e;simp at hA
 refine zCu (A:=[pb,mb]) (B:=[b]) rfl hF (zDm hA) (ArgOK.of harg) hcb (by simp) (fun x hx=>by simp at hx;subst hx;exact ⟨hb2,hbJ⟩) (fun x hx=>by simp at hx;subst hx;show H'.get x ≠ none;rw [g1];simp)
  (.ret _ _ _ _ _ _ _ _ (.tuple _ _ (.cons _ _ _ _ (.sl _ _ _ _ _ (zJg (A:=[pb,mb]) hb2)) (.cons _ _ _ _ (.int _ _) .nil)))) rfl ?_ ?_ ?_
 ·refine ⟨Nat.le_succ _,fun j hj hm=>?_,fun h0=>?_⟩
  ·simp only [aK,List.not_mem_nil,or_false,not_or] at hm
   rw [Tr.get_set_ne _ _ (by omega),Tr.get_set_ne _ _ hm.2,Tr.get_set_ne _ _ hm.1]
  have l1:=h0.lt (k:=pb) (by rw [h2];simp)
  have l2:=h0.lt (k:=mb) (by rw [h3];simp)
  intro j hj
  rw [Tr.get_set_ne _ _ (by omega),Tr.get_set_ne _ _ (by omega),Tr.get_set_ne _ _ (by omega)]
  exact h0 j (by omega)
 ·intro j hj hl
  have hl : j < 2:=hl
  refine ⟨hw0 j hl,fun i hi=>?_⟩
  match j,hi with
  | 0,hi=>cases hi;exact ⟨⟨_,h2,fun h=>h⟩,by show pb ∈ [pb,mb];simp⟩
  | 1,hi=>cases hi;exact ⟨⟨_,h3,fun h=>h⟩,by show mb ∈ [pb,mb];simp⟩
  | j + 2,_=>omega
 intro j o h
 have h : (((H.set pb (some (.cells [.map (some mb),.int .i64 ((k + r.1.length : Nat) : Int)] 102))).set mb (some (.map (encT (T++r.2)) (ck + r.2.length)))).set n (some (.cells (r.1.map byV) 5))).get j = some o:=h
 by_cases hjn : j = n
 ·subst hjn
  rw [Tr.get_set_self] at h
  cases h
  exact .inr ⟨b,_,zJg (A:=[pb,mb]) hb2,g1,.same (zAc _),fun h=>by have h : b < 2:=h;omega⟩
 rw [Tr.get_set_ne _ _ hjn] at h
 by_cases hjm : j = mb
 ·subst hjm
  rw [Tr.get_set_self] at h
  cases h
  rcases w1 with w1 | ⟨w1,hr⟩
  ·exact .inr ⟨1,_,rfl,g3,RO.map _ _ _ (zAk _),fun _=>w1⟩
  refine .inl ⟨by rw [hr,aF];exact h3,fun i hi hm=>?_⟩
  match i,hi with
  | 0,hi=>cases hi;exact hne rfl
  | 1,_=>exact w1 hm
  | i + 2,hi=>simp at hi
 rw [Tr.get_set_ne _ _ hjm] at h
 by_cases hjp : j = pb
 ·subst hjp
  rw [Tr.get_set_self] at h
  cases h
  exact .inr ⟨0,_,rfl,g2,RO.cells [_,_] [] _ _ (.cons _ _ _ _ (.map _ _ rfl) (.cons _ _ _ _ (.int _ _) .nil)),fun _=>w0⟩
 rw [Tr.get_set_ne _ _ hjp] at h
 refine .inl ⟨h,fun i hi hm=>?_⟩
 match i,hi with
 | 0,hi=>cases hi;exact hjp rfl
 | 1,hi=>cases hi;exact hjm rfl
 | i + 2,hi=>simp at hi
def PkX.res (x : PkX) (H : Tr AObj) (n : Nat) : Res:=match x.er with
 | true=>.ret (.tuple #[.slice none 0 0,.int .i64 (pnE x.en x.a x.s)]) H n []
 | false=>.ret (.tuple #[sq n x.o.length U,.int .i64 0]) (((H.set x.pb (some (.cells [.map (some x.mb),.int .i64 ((x.a.toNat + x.o.length : Nat) : Int)] 102))).set x.mb (some (.map (encT (x.T++x.F)) (x.ck + x.F.length)))).set n (some (.cells (x.o.map byV) 5))) (n + 1) [x.pb,x.mb]
noncomputable def zOn : Ct Try.prog 0 :=
 CtR.ct { f := 70,X:=PkX,
          pre:=fun x as0 H _=>as0 = [.pointer (some ⟨x.pb,0,none⟩),.int .i64 x.a,.string x.s] /\ H.get x.pb = some (.cells [.map (some x.mb),.int .i64 (x.en : Int)] 102) /\ H.get x.mb = some (.map (encT x.T) x.ck) /\ goodT x.T /\ shortB x.s = true /\ pnR x.en x.T x.a x.s x.er x.o x.F,
          out:=PkX.res,
          tr:=fun x H n K=>match x.er with
           | true=>K (.ret (.tuple #[.slice none 0 0,.int .i64 (pnE x.en x.a x.s)]) H n [])
           | false=>frcN x.pb fun pb=>frcN x.mb fun mb=>K (.ret (.tuple #[sq n x.o.length U,.int .i64 0]) (((H.set pb (some (.cells [.map (some mb),.int .i64 ((x.a.toNat + x.o.length : Nat) : Int)] 102))).set mb (some (.map (encT (x.T++x.F)) (x.ck + x.F.length)))).set n (some (.cells (x.o.map byV) 5))) (n + 1) [pb,mb]),
          trOk:=fun x H n K h=>by
           obtain ⟨pb,mb,en,T,ck,a,s,er,o,F⟩:=x
           cases er with
           | true=>exact h
           | false =>
            have h : (frcN pb fun pb=>frcN mb fun mb=>_):=h
            rw [zDg,zDg] at h
            exact h,
          ok := fun x as0 H n ⟨h1,h2,h3,h4,h5,h6⟩=>by
           subst h1
           obtain ⟨pb,mb,en,T,ck,a,s,er,o,F⟩:=x
           have h2 : H.get pb = some (.cells [.map (some mb),.int .i64 (en : Int)] 102):=h2
           have h3 : H.get mb = some (.map (encT T) ck):=h3
           have h6 : pnR en T a s er o F:=h6
           have hne : pb ≠ mb:=fun e=>by subst e;rw [h2] at h3;cases h3
           have hA : [pb,mb].Nodup:=by simp [hne]
           have hro1 : ∀ σ : Nat -> Nat -> Prop,σ mb 1 -> RO Try.prog σ (.cells [.map (some mb),.int .i64 (en : Int)] 102) (.cells [.map (some 1),.int .i64 (en : Int)] 102):=fun σ hσ=>RO.cells [_,_] [] _ _ (.cons _ _ _ _ (.map _ _ hσ) (.cons _ _ _ _ (.int _ _) .nil))
           have hcb : CallB Try.prog [pb,mb] H (heap 2 [(0,.cells [.map (some 1),.int .i64 (en : Int)] 102),(1,.map (encT T) ck)]):=zOh ⟨⟨pb,_,rfl,h2,hro1 _ rfl⟩,⟨mb,_,rfl,h3,RO.map _ _ _ (zAk _)⟩,tv⟩
           have harg : RL (caR [pb,mb]) [pt pb,.int .i64 a,.string s] [pt 0,.int .i64 a,.string s]:=.cons _ _ _ _ (.ptr _ _ _ rfl) (.cons _ _ _ _ (.int _ _) (.cons _ _ _ _ (.string _) .nil))
           cases er with
           | true =>
            obtain ⟨r,hF,H',m,wr,rfl,hw⟩:=nameE_fn a en T ck s h5 h6.ne
            show CallOK Try.prog 0 _ _ H n (.ret _ H n [])
            exact zDb [pb,mb] hF hw (zDm hA) harg hcb rfl
           | false =>
            obtain ⟨k,rfl,hk,hen,hB,hlB,es⟩:=zWo h6.eq
            obtain ⟨r,hF,H',m,wr,b,rfl,⟨hb2,hbJ,w0,w1⟩,g1,g2,g3⟩:=name_fn k en T ck (bs s) hk hen h4 hB hlB
            rw [es] at hF
            have ek:=h6.2 rfl
            rw [aO] at ek
            rw [ek] at hF w1 g1 g2 g3
            exact zSv (r:=(o,F)) hF hA hcb harg h2 h3 hb2 hbJ w0 w1 g1 g2 g3 (fun j hj o ho=>by
             match j,hj,ho with
             | 0,_,ho=>have ho : some (AObj.cells _ _) = some o:=ho;cases ho;exact fun h=>h
             | 1,_,ho=>have ho : some (AObj.map _ _) = some o:=ho;cases ho;exact fun h=>h),
          uniq:=fun x y as0 H n ⟨h1,h2,h3,_,_,h6⟩ ⟨k1,k2,k3,_,_,k6⟩=>by
           obtain ⟨pb,mb,en,T,ck,a,s,er,o,F⟩:=x
           obtain ⟨pb',mb',en',T',ck',a',s',er',o',F'⟩:=y
           rw [h1] at k1
           simp only [aQ,Value.pointer.injEq,aP,Addr.mk.injEq,and_true,Value.int.injEq,true_and,Value.string.injEq] at k1
           obtain ⟨rfl,rfl,rfl⟩:=k1
           have h2 : H.get pb = some (.cells [.map (some mb),.int .i64 (en : Int)] 102):=h2
           have k2 : H.get pb = some (.cells [.map (some mb'),.int .i64 (en' : Int)] 102):=k2
           rw [h2] at k2
           simp only [aP,AObj.cells.injEq,aQ,Value.map.injEq,Value.int.injEq,true_and,and_true] at k2
           obtain ⟨rfl,e⟩:=k2
           have e : en = en':=by omega
           subst e
           have h3 : H.get mb = some (.map (encT T) ck):=h3
           have k3 : H.get mb = some (.map (encT T') ck'):=k3
           rw [h3] at k3
           simp only [aP,AObj.map.injEq] at k3
           obtain ⟨e1,rfl⟩:=k3
           have := zOq e1
           subst this
           obtain ⟨rfl,e⟩:=pnR.uniq h6 k6
           cases er with
           | true=>rfl
           | false=>obtain ⟨rfl,rfl⟩:=e rfl;rfl }
end
section
open Go Go.RowKit
end
section
open Go Go.RowKit
end
section
open Go Go.RowKit
end
section
open Go Go.RowKit
theorem zIx (T : List (Bl × Nat)) (a : Nat) : ∀ (f : Nat) (t : Bl) (o : Nat),(packN T a f t o).2.length<=(packN T a f t o).1.length
 | 0,_,_=>aJ _
 | f + 1,t,o=>by
  unfold packN
  by_cases hc : (t.getD 0 0).toNat = 0
  ·simp only [if_pos hc];simp
  simp only [if_neg hc]
  cases lookT T t with
  | some k=>simp
  | none =>
   have ih:=zIx T a f (t.drop ((t.getD 0 0).toNat + 1)) (o + (t.getD 0 0).toNat + 1)
   cases t with
   | nil=>exact ab rfl hc
   | cons x t =>
    simp only [aB]
    split <;> simp only [aC,aU] <;> omega
theorem zPp (T : List (Bl × Nat)) (a f : Nat) (t : Bl) (o : Nat) (hf : 0 < f) : (packN T a f t o).1 ≠ []:=by
 obtain ⟨f,rfl⟩ : ∃ g,f = g + 1:=⟨f - 1,by omega⟩
 unfold packN
 by_cases hc : (t.getD 0 0).toNat = 0
 ·simp only [if_pos hc];simp
 simp only [if_neg hc]
 cases lookT T t with
 | some k=>simp
 | none =>
  cases t with
  | nil=>exact ab rfl hc
  | cons x t=>simp
end
section
open Go Go.RowKit
end
section
open Go Go.RowKit
end
section
open Go Go.RowKit
end
section
open Go Go.RowKit
theorem zEf {T : List (Bl × Nat)} (hT : goodT T) (a f : Nat) (t : Bl) (o : Nat) : goodT (T++(packN T a f t o).2):=by
 obtain ⟨h1,h2⟩:=zHg T a f t o
 refine ⟨?_,fun p hp=>?_⟩
 ·rw [List.map_append,List.nodup_append]
  refine ⟨hT.1,h2,fun x hx y hy e=>?_⟩
  subst e
  obtain ⟨q,hq,rfl⟩:=List.mem_map.1 hy
  exact zEc.1 (h1 q hq).1 hx
 rcases List.mem_append.1 hp with h | h
 ·exact hT.2 p h
 exact (h1 p h).2.2
theorem zCr (T : List (Bl × Nat)) (a : Nat) : ∀ (f : Nat) (t : Bl) (o : Nat),(packN T a f t o).1.length<=t.length + 2
 | 0,_,_=>by simp [packN]
 | f + 1,t,o=>by
  unfold packN
  by_cases hc : (t.getD 0 0).toNat = 0
  ·simp only [hc,if_true];simp
  simp only [hc,if_false]
  cases hl : lookT T t with
  | some k=>simp
  | none =>
   have ih:=zCr T a f (t.drop ((t.getD 0 0).toNat + 1)) (o + (t.getD 0 0).toNat + 1)
   simp only [aB,aU,aM] at ih ⊢
   omega
def wrN (a : Int) (T : List (Bl × Nat)) : List (Bs × Bool) -> Bl -> List (Bl × Nat) -> Nat -> Int × Bl × List (Bl × Nat) × Nat
 | [],out,F,en=>(0,out,F,en)
 | (s,false) :: ps,out,F,en=>wrN a T ps (out++s) F en
 | (s,true) :: ps,out,F,en =>
  let at':=IntKind.i64.wrap (a + (out.length : Int))
  if pnE en at' (mkS s) ≠ 0 then (pnE en at' (mkS s),[],F,en)
  else let r:=packN (T++F) at'.toNat s.length s 0
   wrN a T ps (out++r.1) (F++r.2) (at'.toNat + r.1.length)
def pcsD (t : Int) (l : Bs) : List (Bs × Bool):=match ptsT t with | none=>[(l,false)] | some _=>outP t l
def wrD (en : Nat) (T : List (Bl × Nat)) (a t : Int) (l : Bs) : Int × Bl × List (Bl × Nat) × Nat :=
 if checkD t l ≠ 0 then (checkD t l,[],[],en) else wrN a T (pcsD t l) [] [] en
theorem zQf (a : Int) {T : List (Bl × Nat)} : ∀ (ps : List (Bs × Bool)) (out : Bl) (F : List (Bl × Nat)) (en : Nat),goodT (T++F) -> goodT (T++(wrN a T ps out F en).2.2.1)
 | [],_,_,_,h=>h
 | (s,false) :: ps,out,F,en,h=>by unfold wrN;exact zQf a ps _ _ _ h
 | (s,true) :: ps,out,F,en,h=>by
  unfold wrN
  simp only []
  split
  ·exact h
  refine zQf a ps _ _ _ ?_
  rw [<- aN]
  exact zEf h _ _ _ _
theorem zXc {en : Nat} {T : List (Bl × Nat)} {a t : Int} {l : Bs} (h : goodT T) : goodT (T++(wrD en T a t l).2.2.1):=by
 unfold wrD
 split
 ·simpa using h
 exact zQf a _ _ _ _ (by simpa using h)
theorem zHh {en : Nat} {a : Int} {s : ByteArray} (h : pnE en a s = 0) : (0<=a /\ a<=65535) /\ en<=a /\ (labels (bs s)).2 = 0 /\ (bs s).length<=255:=by
 obtain ⟨k,rfl,h1,h2,h3,h4,_⟩:=zWo h
 exact ⟨⟨by omega,by omega⟩,by omega,(zCf _).2 ⟨h3,h4⟩,h4⟩
theorem zUv (a : Int) {T : List (Bl × Nat)} : ∀ (ps : List (Bs × Bool)) (out : Bl) (F : List (Bl × Nat)) (en : Nat),(∀ s,(s,true) ∈ ps -> s.length<=255) ->
  (wrN a T ps out F en).2.1.length<=out.length + sumL ps + 2 * ps.length /\ (wrN a T ps out F en).2.2.1.length<=F.length + 257 * ps.length /\ ((wrN a T ps out F en).2.2.2<=en \/ (wrN a T ps out F en).2.2.2<=65792)
 | [],_,_,_,_=>⟨by simp [wrN,sumL],by simp [wrN],.inl (aJ _)⟩
 | (s,false) :: ps,out,F,en,h=>by
  unfold wrN
  obtain ⟨h1,h2,h3⟩:=zUv a (T:=T) ps (out++s) F en (fun s hs=>h s (List.mem_cons_of_mem _ hs))
  refine ⟨?_,by simp only [aC];omega,h3⟩
  simp only [sumL,List.flatMap_cons,aB,aC] at h1 ⊢;omega
 | (s,true) :: ps,out,F,en,h=>by
  unfold wrN
  simp only []
  have hs:=h s (List.mem_cons_self ..)
  split
  ·exact ⟨by simp,by simp,.inl (aJ _)⟩
  rename_i he
  have hp:=zHh (Decidable.not_not.1 he)
  obtain ⟨r,hr⟩ : ∃ r,packN (T++F) (IntKind.i64.wrap (a + (out.length : Int))).toNat s.length s 0 = r:=⟨_,rfl⟩
  have l1:=zCr (T++F) (IntKind.i64.wrap (a + (out.length : Int))).toNat s.length s 0
  have l2:=zIx (T++F) (IntKind.i64.wrap (a + (out.length : Int))).toNat s.length s 0
  rw [hr] at l1 l2 ⊢
  obtain ⟨h1,h2,h3⟩:=zUv a (T:=T) ps (out++r.1) (F++r.2) ((IntKind.i64.wrap (a + (out.length : Int))).toNat + r.1.length) (fun s hs=>h s (List.mem_cons_of_mem _ hs))
  refine ⟨?_,?_,.inr ?_⟩
  ·simp only [sumL,List.flatMap_cons,aB,aC] at h1 ⊢;omega
  ·simp only [aB,aC] at h2 ⊢;omega
  rcases h3 with h3 | h3
  ·omega
  exact h3
theorem cuts_nm : ∀ (ps : List Pt) (l : Bs) (o : List (Bs × Bool)) (r : Bs),cuts ps l = some (o,r) -> ∀ s,(s,true) ∈ o -> (labels s).2 = 0 /\ s.length<=255
 | [],l,o,r,h,s,hs=>by simp only [cuts,aP,Prod.mk.injEq] at h;obtain ⟨rfl,_⟩:=h;cases hs
 | p :: ps,l,o,r,h,s,hs=>by
  simp only [cuts] at h
  cases hc : p.cut l with
  | none=>rw [hc] at h;cases h
  | some n =>
   rw [hc] at h
   simp only [] at h
   obtain ⟨⟨o',r'⟩,h1,h2⟩:=Option.map_eq_some_iff.1 h
   simp only [Prod.mk.injEq] at h2
   obtain ⟨rfl,rfl⟩:=h2
   rcases aK.1 hs with e | e
   ·simp only [Prod.mk.injEq] at e
    obtain ⟨rfl,e2⟩:=e
    cases p with
    | nm =>
     obtain ⟨_,k2,k3,k4⟩:=zNh hc
     exact ⟨k4,by omega⟩
    | rest=>cases e2
    | sz k=>cases e2
   exact cuts_nm ps _ _ _ h1 s e
theorem zLt {t : Int} {l : Bs} (h : checkD t l = 0) : (∀ s,(s,true) ∈ pcsD t l -> (labels s).2 = 0 /\ s.length<=255) /\ sumL (pcsD t l) = l.length /\ (pcsD t l).length<=3 /\ l.length<=65535:=by
 obtain ⟨h1,h2,h3,h4⟩:=zGd h
 unfold pcsD
 cases hp : ptsT t with
 | none=>exact ⟨fun s hs=>by simp at hs,by simp [sumL],by simp,h3⟩
 | some ps =>
  obtain ⟨o,q1,q2⟩:=zOx hp h4
  have e1 : outP t l = o:=by unfold outP;rw [q2]
  obtain ⟨w1,w2⟩:=zOp _ _ _ _ q1
  simp only [e1]
  refine ⟨cuts_nm _ _ _ _ q1,?_,?_,h3⟩
  ·unfold sumL;rw [aF] at w2;rw [w2]
  rw [w1]
  rcases zLv hp with ⟨_,⟨_,h⟩ | h⟩
  ·exact h
  rw [h];decide
end
end Go.Proofs.Ytknpgjeclmadkaa
