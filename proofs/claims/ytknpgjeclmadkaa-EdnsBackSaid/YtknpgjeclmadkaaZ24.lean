/- DERIVED. Parts. -/
import Derived.Test.YtknpgjeclmadkaaZ14
import Derived.Test.YtknpgjeclmadkaaZ17
import Derived.Test.YtknpgjeclmadkaaZ19
import Derived.Test.YtknpgjeclmadkaaZ20
import Derived.Test.YtknpgjeclmadkaaZ22
set_option maxRecDepth 1000000
set_option maxHeartbeats 32000000
namespace Go.Proofs.Ytknpgjeclmadkaa
section
open Go Go.RowKit
theorem trB_inj {l l' : Bl} (h : trB l = trB l') : l = l':=zBs layBy h
theorem treeW_rel {f : FuncId} {l : Bl} {xs : List Value} {Q : Value -> Prop} (hn : l ≠ []) (hxs : plainL xs = true) (det : ∀ v v',Q v -> Q v' -> v = v')
  (hF : ∀ c,(c = U \/ l.length<=c /\ c<=9223372036854775807) -> ∃ r,FnS Try.prog 0 f (.slice (some ⟨0,0,none⟩) l.length c :: xs) (heap 1 [(0,.win (l.map byV) 1)]) 1 r /\ ∃ v H m wr,r = .ret v H m wr /\ (∀ k ∈ wr,1<=k) /\ plainV 8 v = true /\ Q v) (H : Tr AObj) (n : Nat) :
  ∃ v,CallOK Try.prog 0 f (trB l :: xs) H n (.ret v H n []) /\ Q v:=by
 obtain ⟨_,_,v,_,_,_,_,_,hp,hq⟩:=hF U (.inl rfl)
 refine ⟨v,zJn hn hxs hp (fun c h1 h2=>?_) H n,hq⟩
 obtain ⟨r,hF,v',H',m,wr,rfl,hw,_,hq'⟩:=hF c (.inr ⟨h1,h2⟩)
 rw [det v' v hq' hq] at hF
 exact ⟨H',m,wr,hF,hw⟩
noncomputable def cq_tree (f : FuncId) (Q : Bl -> Int -> Value -> Prop) (det : ∀ l i v v',Q l i v -> Q l i v' -> v = v')
  (hF : ∀ (l : Bl) (o n c : Nat) (i : Int),o + n<=l.length -> n<=1000000 -> (c = U \/ n<=c /\ c<=9223372036854775807) -> ∃ r,FnS Try.prog 0 f [.slice (some ⟨0,o,none⟩) n c,.int .i64 i] (heap 1 [(0,.win (l.map byV) 1)]) 1 r /\ ∃ v H m wr,r = .ret v H m wr /\ (∀ k ∈ wr,1<=k) /\ plainV 8 v = true /\ Q ((l.drop o).take n) i v) : CtQ Try.prog :=
 { f:=f,X:=Bl × Int,pre:=fun x a _ _=>a = [trB x.1,.int .i64 x.2] /\ x.1 ≠ [] /\ x.1.length<=1000000,Q:=fun x v=>Q x.1 x.2 v,
   ok:=fun ⟨l,i⟩ a H n ⟨h1,h2,h3⟩=>by
    subst h1
    have h3 : l.length<=1000000:=h3
    refine treeW_rel (Q:=Q l i) h2 rfl (det l i) (fun c hc=>?_) H n
    have := hF l 0 l.length c i (by omega) h3 hc
    rw [List.drop_zero,List.take_length] at this
    exact this,
   uniq:=fun ⟨x,i⟩ ⟨y,j⟩ a H m ⟨h1,_⟩ ⟨k1,_⟩=>by
    rw [h1] at k1
    simp only [aQ,Value.int.injEq,true_and,and_true] at k1
    rw [trB_inj k1.1,k1.2] }
def rcT (y : RcX × Int × Int × Int) : Value:=.tuple #[.agg #[.string y.1.n,.int .i64 y.1.t,.int .i64 y.1.c,.int .i64 y.1.ttl,.string y.1.d],.int .i64 y.2.1,.agg #[.int .i64 y.2.2.1,.int .i64 y.2.2.2]]
def quT (y : QuX × Int × Int × Int) : Value:=.tuple #[.agg #[.string y.1.n,.int .i64 y.1.t,.int .i64 y.1.c],.int .i64 y.2.1,.agg #[.int .i64 y.2.2.1,.int .i64 y.2.2.2]]
theorem rcT_form {B : Bl} {a : Int} {v : Value} (h : recQ B a v) : ∃ y,v = rcT y /\ recQ B a (rcT y):=by
 have : ∃ y,v = rcT y:=by
  cases h with
  | name h he=>exact ⟨(⟨⟨#[]⟩,0,0,0,⟨#[]⟩⟩,0,_,_),rfl⟩
  | short h he hk hl=>exact ⟨(⟨⟨#[]⟩,0,0,0,⟨#[]⟩⟩,0,_,_),rfl⟩
  | data h he hk hl hy hf=>exact ⟨(⟨⟨#[]⟩,0,0,0,⟨#[]⟩⟩,0,_,_),rfl⟩
  | fine h he hk hl hy hf=>exact ⟨(⟨_,_,_,_,_⟩,_,0,0),rfl⟩
 obtain ⟨y,rfl⟩:=this
 exact ⟨y,rfl,h⟩
theorem quT_form {B : Bl} {a : Int} {v : Value} (h : queQ B a v) : ∃ y,v = quT y /\ queQ B a (quT y):=by
 have : ∃ y,v = quT y:=by
  cases h with
  | name h he=>exact ⟨(⟨⟨#[]⟩,0,0⟩,0,_,_),rfl⟩
  | short h he hk hl=>exact ⟨(⟨⟨#[]⟩,0,0⟩,0,_,_),rfl⟩
  | fine h he hk hl=>exact ⟨(⟨_,_,_⟩,_,0,0),rfl⟩
 obtain ⟨y,rfl⟩:=this
 exact ⟨y,rfl,h⟩
noncomputable def zQr : Ct Try.prog 0:=(cq_tree 57 queQ (fun _ _ _ _ h k=>h.det k) zUd).ctY (QuX × Int × Int × Int) quT (fun (x : Bl × Int) y=>queQ x.1 x.2 (quT y)) (fun _ _ h=>quT_form h)
noncomputable def zTa : Ct Try.prog 0:=(cq_tree 58 recQ (fun _ _ _ _ h k=>h.det k) zYh).ctY (RcX × Int × Int × Int) rcT (fun (x : Bl × Int) y=>recQ x.1 x.2 (rcT y)) (fun _ _ h=>rcT_form h)
noncomputable def ct_getT (f : FuncId) (hF : ∀ (l : Bl) (c : Nat) (i : Int),l.length<=1000000 -> (c = U \/ l.length<=c /\ c<=9223372036854775807) -> ∃ r,FnS Try.prog 0 f [.slice (some ⟨0,0,none⟩) l.length c,.int .i64 i] (heap 1 [(0,.win (l.map byV) 1)]) 1 r /\ ∃ H m wr,r = .ret (getOut l 0 l.length i 2) H m wr /\ ∀ k ∈ wr,1<=k) : Ct Try.prog 0 :=
 CtR.ct { f := f,X:=Bl × Int,pre:=fun x a _ _=>a = [trB x.1,.int .i64 x.2] /\ x.1 ≠ [] /\ x.1.length<=1000000 /\ 0<=x.2 /\ x.2.toNat + 2<=x.1.length,out:=fun x H n=>.ret (.tuple #[.int .i64 (beN ((x.1.drop x.2.toNat).take 2) : Int),.int .i64 ((x.2.toNat + 2 : Nat) : Int),.agg #[.int .i64 0,.int .i64 0]]) H n [],
          ok:=fun ⟨l,i⟩ a H n ⟨h1,h2,h3,h4,h5⟩=>by
           subst h1
           have h3 : l.length<=1000000:=h3
           have h5 : i.toNat + 2<=l.length:=h5
           have h4 : 0<=i:=h4
           have e : getOut l 0 l.length i 2 = .tuple #[.int .i64 (beN ((l.drop i.toNat).take 2) : Int),.int .i64 ((i.toNat + 2 : Nat) : Int),.agg #[.int .i64 0,.int .i64 0]]:=by
            unfold getOut
            rw [if_neg (by omega),if_pos h5,aS]
           show CallOK Try.prog 0 f _ H n _
           refine zJn h2 rfl rfl (fun c q1 q2=>?_) H n
           obtain ⟨r,hF,H',m,wr,rfl,hw⟩:=hF l c i h3 (.inr ⟨q1,q2⟩)
           rw [e] at hF
           exact ⟨H',m,wr,hF,hw⟩,
          uniq:=fun ⟨x,i⟩ ⟨y,j⟩ a H m ⟨h1,_⟩ ⟨k1,_⟩=>by
           rw [h1] at k1
           simp only [aQ,Value.int.injEq,true_and,and_true] at k1
           rw [show x = y from trB_inj k1.1,show i = j from k1.2] }
noncomputable def ct_get16T : Ct Try.prog 0:=ct_getT 56 (fun l c i h _=>zVw l 0 l.length c i (by omega) (by omega))
end
section
open Go Go.RowKit
end
section
open Go Go.RowKit
inductive mrQ (B : Bl) (nq : Nat) : List MwI -> Int -> Prop
 | nil : mrQ B nq [] 12
 | q {l : List MwI} {a : Int} {x : QuX} {nx p : Int} (h : mrQ B nq l a) (hl : l.length < nq) (hq : queQ B a (quT (x,nx,0,p))) : mrQ B nq (l++[.inl x]) nx
 | r {l : List MwI} {a : Int} {x : RcX} {nx p : Int} (h : mrQ B nq l a) (hl : nq<=l.length) (hr : recQ B a (rcT (x,nx,0,p))) : mrQ B nq (l++[.inr x]) nx
theorem zUe {x y : RcX} {a b c d e f : Int} (h : rcT (x,a,b,c) = rcT (y,d,e,f)) : x = y /\ a = d /\ b = e /\ c = f:=by
 obtain ⟨n,t,k,u,w⟩:=x
 obtain ⟨n',t',k',u',w'⟩:=y
 simp only [rcT,Value.tuple.injEq,Array.mk.injEq,aQ,Value.agg.injEq,Value.string.injEq,Value.int.injEq,true_and,and_true] at h
 obtain ⟨⟨rfl,rfl,rfl,rfl,rfl⟩,rfl,rfl,rfl⟩:=h
 exact ⟨rfl,rfl,rfl,rfl⟩
theorem zUb {x y : QuX} {a b c d e f : Int} (h : quT (x,a,b,c) = quT (y,d,e,f)) : x = y /\ a = d /\ b = e /\ c = f:=by
 obtain ⟨n,t,k⟩:=x
 obtain ⟨n',t',k'⟩:=y
 simp only [quT,Value.tuple.injEq,Array.mk.injEq,aQ,Value.agg.injEq,Value.string.injEq,Value.int.injEq,true_and,and_true] at h
 obtain ⟨⟨rfl,rfl,rfl⟩,rfl,rfl,rfl⟩:=h
 exact ⟨rfl,rfl,rfl,rfl⟩
theorem mrQ.det {B : Bl} {nq : Nat} : ∀ (n : Nat) {l l' : List MwI} {a a' : Int},l.length = n -> l'.length = n -> mrQ B nq l a -> mrQ B nq l' a' -> l = l' /\ a = a'
 | 0,l,l',a,a',h,h',k,k'=>by
  have h:=List.length_eq_zero_iff.1 h
  have h':=List.length_eq_zero_iff.1 h'
  cases k with
  | nil=>cases k' with
   | nil=>exact ⟨rfl,rfl⟩
   | q=>simp at h'
   | r=>simp at h'
  | q=>simp at h
  | r=>simp at h
 | n + 1,l,l',a,a',h,h',k,k'=>by
  cases k with
  | nil=>simp at h
  | q k hl hq =>
   rw [aB,List.length_singleton] at h
   cases k' with
   | nil=>simp at h'
   | q k' hl' hq' =>
    rw [aB,List.length_singleton] at h'
    obtain ⟨rfl,rfl⟩:=mrQ.det n (by omega) (by omega) k k'
    obtain ⟨rfl,rfl,_,_⟩:=zUb (hq.det hq')
    exact ⟨rfl,rfl⟩
   | r k' hl' hr' =>
    rw [aB,List.length_singleton] at h'
    omega
  | r k hl hr =>
   rw [aB,List.length_singleton] at h
   cases k' with
   | nil=>simp at h'
   | q k' hl' hq' =>
    rw [aB,List.length_singleton] at h'
    omega
   | r k' hl' hr' =>
    rw [aB,List.length_singleton] at h'
    obtain ⟨rfl,rfl⟩:=mrQ.det n (by omega) (by omega) k k'
    obtain ⟨rfl,rfl,_,_⟩:=zUe (hr.det hr')
    exact ⟨rfl,rfl⟩
def mrBad (B : Bl) (nq : Nat) (l : List MwI) (a e p : Int) : Prop:=(l.length < nq /\ ∃ x nx,queQ B a (quT (x,nx,e,p))) \/ (nq<=l.length /\ ∃ x nx,recQ B a (rcT (x,nx,e,p)))
theorem mrQ.more {B : Bl} {nq : Nat} {l l' : List MwI} {a a' e p : Int} (h : mrQ B nq l a) (k : mrQ B nq l' a') (hl : l.length < l'.length) (hb : mrBad B nq l a e p) : e = 0:=by
 induction k with
 | nil=>simp at hl
 | q k hk hq ih =>
  rw [aB,List.length_singleton] at hl
  by_cases hz : l.length < (List.length ‹List MwI›)
  ·exact ih hz
  obtain ⟨rfl,rfl⟩:=mrQ.det _ rfl (by omega) h k
  rcases hb with ⟨_,x,nx,hb⟩ | ⟨h1,_⟩
  ·exact (zUb (hb.det hq)).2.2.1
  omega
 | r k hk hr ih =>
  rw [aB,List.length_singleton] at hl
  by_cases hz : l.length < (List.length ‹List MwI›)
  ·exact ih hz
  obtain ⟨rfl,rfl⟩:=mrQ.det _ rfl (by omega) h k
  rcases hb with ⟨h1,_⟩ | ⟨_,x,nx,hb⟩
  ·omega
  exact (zUe (hb.det hr)).2.2.1
def zM : MsT:=⟨0,0,[],[],[],[]⟩
def totB (B : Bl) : Nat:=numAt B 4 2 + (numAt B 6 2 + (numAt B 8 2 + numAt B 10 2))
structure MsFit (B : Bl) (m : MsT) : Prop where
 id : m.id = (numAt B 0 2 : Nat)
 fl : m.fl = (numAt B 2 2 : Nat)
 q : m.q.length = numAt B 4 2
 an : m.an.length = numAt B 6 2
 ns : m.ns.length = numAt B 8 2
 ar : m.ar.length = numAt B 10 2
inductive msQ (B : Bl) : MsT -> Int -> Int -> Prop
 | long (h : 65535 < B.length) : msQ B zM 3 0
 | short (h : B.length < 12) : msQ B zM 4 (B.length : Nat)
 | fault {l : List MwI} {a e p : Int} (h : 12<=B.length /\ B.length<=65535) (hl : mrQ B (numAt B 4 2) l a) (ht : l.length < totB B) (hb : mrBad B (numAt B 4 2) l a e p) (he : e ≠ 0) : msQ B zM e p
 | rest {l : List MwI} {a : Int} (h : 12<=B.length /\ B.length<=65535) (hl : mrQ B (numAt B 4 2) l a) (ht : l.length = totB B) (ha : a ≠ (B.length : Nat)) : msQ B zM 4 a
 | fine {m : MsT} (h : 12<=B.length /\ B.length<=65535) (hl : mrQ B (numAt B 4 2) m.items (B.length : Nat)) (hf : MsFit B m) : msQ B m 0 0
theorem items_len (m : MsT) : m.items.length = m.q.length + (m.an.length + (m.ns.length + m.ar.length)):=by unfold MsT.items;simp
theorem MsFit.tot {B : Bl} {m : MsT} (h : MsFit B m) : m.items.length = totB B:=by rw [items_len,h.q,h.an,h.ns,h.ar];rfl
theorem inl_inj {l l' : List QuX} (h : l.map (Sum.inl (β:=RcX)) = l'.map .inl) : l = l':=by
 have := congrArg (List.filterMap (fun x : MwI=>match x with | .inl q=>some q | .inr _=>none)) h
 simpa [List.filterMap_map,Function.comp_def] using this
theorem zTo {l l' : List RcX} (h : l.map (Sum.inr (α:=QuX)) = l'.map .inr) : l = l':=by
 have := congrArg (List.filterMap (fun x : MwI=>match x with | .inr q=>some q | .inl _=>none)) h
 simpa [List.filterMap_map,Function.comp_def] using this
theorem MsFit.uniq {B : Bl} {m m' : MsT} (h : MsFit B m) (k : MsFit B m') (e : m.items = m'.items) : m = m':=by
 obtain ⟨i,f,q,an,ns,ar⟩:=m
 obtain ⟨i',f',q',an',ns',ar'⟩:=m'
 obtain ⟨h1,h2,h3,h4,h5,h6⟩:=h
 obtain ⟨k1,k2,k3,k4,k5,k6⟩:=k
 simp only at h1 h2 h3 h4 h5 h6 k1 k2 k3 k4 k5 k6
 have e : q.map Sum.inl++(an.map Sum.inr++(ns.map Sum.inr++ar.map Sum.inr)) = q'.map Sum.inl++(an'.map Sum.inr++(ns'.map Sum.inr++ar'.map Sum.inr)):=e
 obtain ⟨e1,e⟩:=List.append_inj e (by simp;omega)
 obtain ⟨e2,e⟩:=List.append_inj e (by simp;omega)
 obtain ⟨e3,e4⟩:=List.append_inj e (by simp;omega)
 rw [h1,k1.symm,h2,k2.symm,inl_inj e1,zTo e2,zTo e3,zTo e4]
theorem msQ.det {B : Bl} {m m' : MsT} {e p e' p' : Int} (h : msQ B m e p) (k : msQ B m' e' p') : m = m' /\ e = e' /\ p = p':=by
 cases h with
 | long h=>cases k with
  | long=>exact ⟨rfl,rfl,rfl⟩
  | short k=>omega
  | fault k=>omega
  | rest k=>omega
  | fine k=>omega
 | short h=>cases k with
  | long k=>omega
  | short k=>exact ⟨rfl,rfl,rfl⟩
  | fault k=>omega
  | rest k=>omega
  | fine k=>omega
 | fault h hl ht hb he=>cases k with
  | long k=>omega
  | short k=>omega
  | fault k kl kt kb ke =>
   rename_i l a l' a'
   have hlen : l.length = l'.length:=by
    rcases Nat.lt_trichotomy l.length l'.length with q | q | q
    ·exact ab (hl.more kl q hb) he
    ·exact q
    exact ab (kl.more hl q kb) ke
   obtain ⟨rfl,rfl⟩:=mrQ.det _ hlen rfl hl kl
   rcases hb with ⟨h1,x,nx,hb⟩ | ⟨h1,x,nx,hb⟩ <;> rcases kb with ⟨k1,y,ny,kb⟩ | ⟨k1,y,ny,kb⟩
   ·obtain ⟨_,_,rfl,rfl⟩:=zUb (hb.det kb);exact ⟨rfl,rfl,rfl⟩
   ·omega
   ·omega
   obtain ⟨_,_,rfl,rfl⟩:=zUe (hb.det kb);exact ⟨rfl,rfl,rfl⟩
  | rest k kl kt ka=>exact ab (hl.more kl (by omega) hb) he
  | fine k kl kf=>exact ab (hl.more kl (by rw [kf.tot];exact ht) hb) he
 | rest h hl ht ha=>cases k with
  | long k=>omega
  | short k=>omega
  | fault k kl kt kb ke=>exact ab (kl.more hl (by omega) kb) ke
  | rest k kl kt ka=>obtain ⟨_,rfl⟩:=mrQ.det _ ht kt hl kl;exact ⟨rfl,rfl,rfl⟩
  | fine k kl kf=>obtain ⟨_,rfl⟩:=mrQ.det _ ht kf.tot hl kl;exact ab rfl ha
 | fine h hl hf=>cases k with
  | long k=>omega
  | short k=>omega
  | fault k kl kt kb ke=>exact ab (kl.more hl (by rw [hf.tot];exact kt) kb) ke
  | rest k kl kt ka=>obtain ⟨_,rfl⟩:=mrQ.det _ hf.tot kt hl kl;exact ab rfl ka
  | fine k kl kf=>obtain ⟨e,_⟩:=mrQ.det _ hf.tot kf.tot hl kl;exact ⟨hf.uniq kf e,rfl,rfl⟩
end
section
open Go Go.RowKit
theorem askq_back {en a : Nat} {T : List (Bl × Nat)} {x : QuX} (z1 : (labels (bs x.n)).2 = 0) (z2 : numB x.t 65535 = true) (z3 : numB x.c 65535 = true) (hen : en<=a) (ha : a<=65535) {e : Int} {W : Bl} {F : List (Bl × Nat)} {en' : Nat} (hD : askD en T (a : Int) x.n x.t x.c = (e,W,F,en')) : e = 0 /\ W ≠ [] /\ W.length<=300 /\ en'<=a + W.length /\
  (∀ B : Bl,a + W.length<=B.length -> (B.drop a).take W.length = W -> knowsN B T a -> queQ B (a : Int) (quT (x,((a + W.length : Nat) : Int),0,0)) /\ knowsN B (T++F) (a + W.length)):=by
 obtain ⟨t,ht,ht2⟩:=zCw z2
 obtain ⟨c,hc,hc2⟩:=zCw z3
 obtain ⟨hp,o,G,hr,ho1,ho2,hn,hB⟩:=zRi (en:=en) (T:=T) z1 hen ha
 unfold askD at hD
 rw [if_neg (aL z1),z2,z3,show (true&&true) = true from rfl,if_pos rfl,if_neg (aL hp),aO,hr] at hD
 simp only [Prod.mk.injEq,ht,hc,aO] at hD
 obtain ⟨rfl,rfl,rfl,rfl⟩:=hD
 have hl : (o++by2 t++by2 c).length = o.length + 4:=by simp [by2]
 refine ⟨rfl,by simp [by2],by rw [hl];omega,by rw [hl];omega,fun B hBl hb hK=>?_⟩
 obtain ⟨r1,r2⟩:=hB B (by rw [hl] at hBl;omega) (zWp (X:=by2 t++by2 c) (by rw [<- aN];exact hb)) hK
 refine ⟨?_,r2.mono (by rw [hl];omega)⟩
 have n1 : numAt B (a + o.length) 2 = t:=by
  rw [show numAt B (a + o.length) 2 = beN (by2 t) from zHf hb (o:=o) (X:=by2 t) (Y:=by2 c) rfl rfl rfl]
  exact zFg (by omega)
 have n2 : numAt B (a + o.length + 2) 2 = c:=by
  rw [show numAt B (a + o.length + 2) 2 = beN (by2 c) from zHf hb (o:=o++by2 t) (X:=by2 c) (Y:=[]) (by simp) (by simp [by2];omega) rfl]
  exact zFg (by omega)
 have := queQ.fine (k:=a + o.length) r1 rfl rfl (by rw [hl] at hBl;omega)
 rw [n1,n2] at this
 unfold quT
 rw [ht,hc,hl]
 unfold zUc at this
 rw [zSb] at this
 exact this
theorem zTu : ∀ (l : List MwI) {s s' : MwS},mwF s l = some s' -> ∃ X,s'.out = s.out++X
 | [],s,s',h=>by cases h;exact ⟨[],(aF _).symm⟩
 | x :: l,s,s',h=>by
  unfold mwF at h
  split at h
  ·cases h
  obtain ⟨X,e⟩:=zTu l h
  exact ⟨(mwD s x).2.1++X,by rw [e];show (s.out++(mwD s x).2.1)++X = _;rw [aN]⟩
theorem mwF_len : ∀ (l : List MwI) {s s' : MwS},mwF s l = some s' -> s.out.length<=65535 -> s'.out.length<=65535
 | [],s,s',h,hs=>by cases h;exact hs
 | x :: l,s,s',h,hs=>by
  unfold mwF at h
  split at h
  ·cases h
  rename_i hn
  exact mwF_len l h (by have := fun e=>hn (.inr e);omega)
def okI (nq : Nat) (k : Nat) : MwI -> Prop
 | .inl q=>quC q = 0 /\ k < nq
 | .inr x=>recC x = 0 /\ nq<=k
theorem mw_back {B : Bl} {nq : Nat} (hBl : B.length < 9223372036854775807) : ∀ (l done : List MwI) {s s' : MwS},mwF s l = some s' -> (∃ C,B = s'.out++C) -> (∀ i (h : i < l.length),okI nq (done.length + i) l[i]) -> s.out.length<=65535 -> s.en<=s.out.length -> mrQ B nq done (s.out.length : Int) -> knowsN B s.T s.out.length -> mrQ B nq (done++l) (s'.out.length : Int)
 | [],done,s,s',h,hB,_,_,_,hm,_=>by cases h;rw [aF];exact hm
 | x :: l,done,s,s',h,hB,hok,hs,hen,hm,hK=>by
  unfold mwF at h
  split at h
  ·cases h
  rename_i hn
  obtain ⟨R,hR⟩ : ∃ R,mwD s x = R:=⟨_,rfl⟩
  rw [hR] at h hn
  have hr0 : R.1 = 0:=Classical.byContradiction fun e=>hn (.inl e)
  have hlen : (mwN s R).out.length<=65535:=by have := fun e=>hn (.inr e);omega
  obtain ⟨X,hX⟩:=zTu l h
  obtain ⟨e,W,F,en'⟩:=R
  have hr0 : e = 0:=hr0
  subst hr0
  obtain ⟨C,hC⟩:=hB
  have hX : B = s.out++W++(X++C):=by rw [hC,hX,<- aN];rfl
  have hle : s.out.length + W.length<=B.length:=by rw [hX];simp
  have htk : (B.drop s.out.length).take W.length = W:=by rw [hX,aN,List.drop_left,List.take_left]
  have hsl : (mwN s (0,W,F,en')).out.length = s.out.length + W.length:=by show (s.out++W).length = _;rw [aB]
  have hk0:=hok 0 (Nat.zero_lt_succ _)
  have hok' : ∀ i (h : i < l.length),okI nq ((done++[x]).length + i) l[i]:=fun i h=>by
   have := hok (i + 1) (Nat.succ_lt_succ h)
   rw [aB,List.length_singleton,Nat.add_assoc,Nat.add_comm 1 i];exact this
  have fin : mrQ B nq (done++[x]) ((s.out.length + W.length : Nat) : Int) -> knowsN B (s.T++F) (s.out.length + W.length) -> en'<=s.out.length + W.length -> mrQ B nq (done++x :: l) (s'.out.length : Int):=fun h1 h2 h3=>by
   have := mw_back hBl l (done++[x]) h ⟨C,hC⟩ hok' hlen (by rw [hsl];exact h3) (by rw [hsl];exact h1) (by rw [hsl];exact h2)
   rw [aN] at this;exact this
  cases x with
  | inl q =>
   have hk0 : quC q = 0 /\ done.length + 0 < nq:=hk0
   obtain ⟨hq,hlt⟩:=hk0
   unfold quC at hq
   split at hq
   ·rename_i hz;exact ab hq hz
   rename_i hz
   split at hq
   ·rename_i hz2
    rw [bA] at hz2
    obtain ⟨_,_,_,a4,a5⟩:=askq_back (x:=q) (Decidable.not_not.1 hz) hz2.1 hz2.2 hen hs hR
    obtain ⟨b1,b2⟩:=a5 B hle htk hK
    exact fin (.q hm (by omega) b1) b2 a4
   cases hq
  | inr x =>
   have hk0 : recC x = 0 /\ nq<=done.length + 0:=hk0
   obtain ⟨_,_,a4,a5⟩:=rec_back0 hk0.1 hen hs hR
   obtain ⟨b1,_,b2⟩:=a5 B hle hBl htk hK
   exact fin (.r hm (by omega) b1) b2 a4
theorem zDz {α : Type} (f : α -> Int) : ∀ {l : List α},firstE f l = 0 -> ∀ x ∈ l,f x = 0
 | x :: l,h,y,hy=>by
  unfold firstE at h
  by_cases hx : f x = 0
  ·rw [if_neg (aL hx)] at h
   rcases aK.1 hy with rfl | hy
   ·exact hx
   exact zDz f h y hy
  rw [if_pos hx] at h;exact ab h hx
theorem chk_zero {m : MsT} (h : m.chk = 0) : (∀ x ∈ m.q,quC x = 0) /\ (∀ x ∈ m.an,recC x = 0) /\ (∀ x ∈ m.ns,recC x = 0) /\ (∀ x ∈ m.ar,recC x = 0):=by
 unfold MsT.chk msC at h
 split at h
 ·cases h
 split at h
 ·cases h
 split at h
 ·rename_i e;exact ab h e
 rename_i e1
 split at h
 ·rename_i e;exact ab h e
 rename_i e2
 split at h
 ·rename_i e;exact ab h e
 rename_i e3
 exact ⟨zDz _ (Decidable.not_not.1 e1),zDz _ (Decidable.not_not.1 e2),zDz _ (Decidable.not_not.1 e3),zDz _ h⟩
theorem msg_backC {m : MsT} {s : MwS} (h0 : m.chk = 0) (h : mwF ⟨m.head,[],0⟩ m.items = some s) (C : Bl) (hC : C.length<=1000000) : (12<=s.out.length /\ s.out.length<=65535) /\ mrQ (s.out++C) (numAt (s.out++C) 4 2) m.items (s.out.length : Int) /\ MsFit (s.out++C) m:=by
 obtain ⟨c1,c2,c3,c4,c5,c6⟩:=zWh h0
 obtain ⟨q1,q2,q3,q4⟩:=chk_zero h0
 have hl : s.out.length<=65535:=mwF_len _ h (by show 12<=65535;decide)
 obtain ⟨X,hX⟩:=zTu _ h
 have hX : s.out = m.head++X:=hX
 have h12 : 12<=s.out.length:=by rw [hX,aB];have : m.head.length = 12:=rfl;omega
 have num : ∀ (o : Bl) (v : Nat) (Y : Bl),m.head = o++by2 v++Y -> v < 65536 -> numAt (s.out++C) o.length 2 = v:=fun o v Y e hv=>by
  have hb : ((s.out++C).drop 0).take m.head.length = m.head:=by rw [List.drop_zero,hX,aN,List.take_left]
  rw [show numAt (s.out++C) o.length 2 = beN (by2 v) from zHf hb (o:=o) (X:=by2 v) (Y:=Y) e (aS _).symm rfl]
  exact zFg hv
 have n0:=num [] m.id.toNat (by2 m.fl.toNat++by2 m.q.length++by2 m.an.length++by2 m.ns.length++by2 m.ar.length) rfl (by omega)
 have n1:=num (by2 m.id.toNat) m.fl.toNat (by2 m.q.length++by2 m.an.length++by2 m.ns.length++by2 m.ar.length) rfl (by omega)
 have n2:=num (by2 m.id.toNat++by2 m.fl.toNat) m.q.length (by2 m.an.length++by2 m.ns.length++by2 m.ar.length) rfl (by omega)
 have n3:=num (by2 m.id.toNat++by2 m.fl.toNat++by2 m.q.length) m.an.length (by2 m.ns.length++by2 m.ar.length) rfl (by omega)
 have n4:=num (by2 m.id.toNat++by2 m.fl.toNat++by2 m.q.length++by2 m.an.length) m.ns.length (by2 m.ar.length) rfl (by omega)
 have n5:=num (by2 m.id.toNat++by2 m.fl.toNat++by2 m.q.length++by2 m.an.length++by2 m.ns.length) m.ar.length [] rfl (by omega)
 have n0 : numAt (s.out++C) 0 2 = m.id.toNat:=n0
 have n1 : numAt (s.out++C) 2 2 = m.fl.toNat:=n1
 have n2 : numAt (s.out++C) 4 2 = m.q.length:=n2
 have n3 : numAt (s.out++C) 6 2 = m.an.length:=n3
 have n4 : numAt (s.out++C) 8 2 = m.ns.length:=n4
 have n5 : numAt (s.out++C) 10 2 = m.ar.length:=n5
 refine ⟨⟨h12,hl⟩,?_,⟨by rw [n0];omega,by rw [n1];omega,n2.symm,n3.symm,n4.symm,n5.symm⟩⟩
 have := mw_back (B:=s.out++C) (nq:=numAt (s.out++C) 4 2) (by rw [aB];omega) m.items [] h ⟨C,rfl⟩ (fun i hi=>?_) (by show 12<=65535;decide) (aH _) .nil (fun t k hm=>by cases hm)
 ·rw [List.nil_append] at this;exact this
 rw [n2,List.length_nil,aS]
 by_cases hq : i < m.q.length
 ·rw [items_q hq hi];exact ⟨q1 _ (aV hq),hq⟩
 have hx : ∃ x,m.items[i] = .inr x /\ recC x = 0:=by
  have hm : m.items[i] ∈ m.an.map Sum.inr++(m.ns.map Sum.inr++m.ar.map Sum.inr):=by
   have e : m.items[i]? = (m.an.map (Sum.inr (α:=QuX))++(m.ns.map Sum.inr++m.ar.map Sum.inr))[i - m.q.length]?:=by
    unfold MsT.items
    rw [List.getElem?_append_right (by simpa using hq),aT]
   rw [gG hi] at e
   exact List.mem_of_getElem? e.symm
  rcases List.mem_append.1 hm with hm | hm
  ·obtain ⟨x,hx,e⟩:=List.mem_map.1 hm;exact ⟨x,e.symm,q2 x hx⟩
  rcases List.mem_append.1 hm with hm | hm
  ·obtain ⟨x,hx,e⟩:=List.mem_map.1 hm;exact ⟨x,e.symm,q3 x hx⟩
  obtain ⟨x,hx,e⟩:=List.mem_map.1 hm;exact ⟨x,e.symm,q4 x hx⟩
 obtain ⟨x,e,hx⟩:=hx
 rw [e];exact ⟨hx,by omega⟩
theorem msg_back {m : MsT} {s : MwS} (h0 : m.chk = 0) (h : mwF ⟨m.head,[],0⟩ m.items = some s) : msQ s.out m 0 0:=by
 obtain ⟨h1,h2,h3⟩:=msg_backC h0 h [] (aH _)
 rw [aF] at h2 h3
 exact .fine h1 h2 h3
end
section
open Go Go.RowKit
end
section
open Go Go.RowKit
end
section
open Go Go.RowKit
end
section
open Go Go.RowKit
noncomputable def tbRm2 : Tb Try.prog 0:=tbOf mixed [ct_get16T,zQr,zTa,zLk]
def rmE (id fl : Int) (q : List QuX) (an ns ar : List RcX) (e p : Int) (f : Nat -> Option Value) : Fs:=⟨slots 7 [(2,pt 0),(3,pt 1)] f,heapO 3 [(0,.cells [.int .i64 id,.int .i64 fl,lsV 2 q,lsV 3 an,lsV 4 ns,lsV 5 ar] 25),(1,.cells [.int .i64 e,.int .i64 p] 53)] [(2,lsO layQ q),(3,lsO layR an),(4,lsO layR ns),(5,lsO layR ar)],6,[],[.call 55 [pt 1,pt 0] []]⟩
theorem zGp (id fl : Int) (q : List QuX) (an ns ar : List RcX) (R : Res -> Prop) (f : Nat -> Option Value) : fnK tbRm2 Try.f31 R .ret (rmE id fl q an ns ar 0 0 f) = R (.ret (.tuple #[.agg #[.int .i64 id,.int .i64 fl,lsV 2 q,lsV 3 an,lsV 4 ns,lsV 5 ar],.agg #[.int .i64 0,.int .i64 0]]) (resH (endR tbRm2 Try.f31 .ret (rmE id fl q an ns ar 0 0 f))) (resN (endR tbRm2 Try.f31 .ret (rmE id fl q an ns ar 0 0 f))) []):=by kernel_rfl
theorem rm_e1a (n : Nat) (id fl : Int) (q : List QuX) (an ns ar : List RcX) (p : Int) (R : Res -> Prop) (f : Nat -> Option Value) : fnK tbRm2 Try.f31 R .ret (rmE id fl q an ns ar (.ofNat (n + 1)) p f) = R (.ret (.tuple #[.agg #[.int .i64 0,.int .i64 0,.slice none 0 0,.slice none 0 0,.slice none 0 0,.slice none 0 0],.agg #[.int .i64 (.ofNat (n + 1)),.int .i64 p]]) (resH (endR tbRm2 Try.f31 .ret (rmE id fl q an ns ar (.ofNat (n + 1)) p f))) (resN (endR tbRm2 Try.f31 .ret (rmE id fl q an ns ar (.ofNat (n + 1)) p f))) [0]):=by kernel_rfl
theorem rm_e1b (n : Nat) (id fl : Int) (q : List QuX) (an ns ar : List RcX) (p : Int) (R : Res -> Prop) (f : Nat -> Option Value) : fnK tbRm2 Try.f31 R .ret (rmE id fl q an ns ar (.negSucc n) p f) = R (.ret (.tuple #[.agg #[.int .i64 0,.int .i64 0,.slice none 0 0,.slice none 0 0,.slice none 0 0,.slice none 0 0],.agg #[.int .i64 (.negSucc n),.int .i64 p]]) (resH (endR tbRm2 Try.f31 .ret (rmE id fl q an ns ar (.negSucc n) p f))) (resN (endR tbRm2 Try.f31 .ret (rmE id fl q an ns ar (.negSucc n) p f))) [0]):=by kernel_rfl
theorem zBf (e : Int) (he : e ≠ 0) (id fl : Int) (q : List QuX) (an ns ar : List RcX) (p : Int) (R : Res -> Prop) (f : Nat -> Option Value) : fnK tbRm2 Try.f31 R .ret (rmE id fl q an ns ar e p f) = R (.ret (.tuple #[.agg #[.int .i64 0,.int .i64 0,.slice none 0 0,.slice none 0 0,.slice none 0 0,.slice none 0 0],.agg #[.int .i64 e,.int .i64 p]]) (resH (endR tbRm2 Try.f31 .ret (rmE id fl q an ns ar e p f))) (resN (endR tbRm2 Try.f31 .ret (rmE id fl q an ns ar e p f))) [0]) :=
 match e,he with
 | .ofNat 0,h=>ab rfl h
 | .ofNat (n + 1),_=>rm_e1a n id fl q an ns ar p R f
 | .negSucc n,_=>rm_e1b n id fl q an ns ar p R f
theorem zGr (id fl : Int) (q : List QuX) (an ns ar : List RcX) (f : Nat -> Option Value) : (resH (endR tbRm2 Try.f31 .ret (rmE id fl q an ns ar 0 0 f))).get 2 = lsO layQ q:=by kernel_rfl
theorem zGs (id fl : Int) (q : List QuX) (an ns ar : List RcX) (f : Nat -> Option Value) : (resH (endR tbRm2 Try.f31 .ret (rmE id fl q an ns ar 0 0 f))).get 3 = lsO layR an:=by kernel_rfl
theorem zGt (id fl : Int) (q : List QuX) (an ns ar : List RcX) (f : Nat -> Option Value) : (resH (endR tbRm2 Try.f31 .ret (rmE id fl q an ns ar 0 0 f))).get 4 = lsO layR ns:=by kernel_rfl
theorem zGu (id fl : Int) (q : List QuX) (an ns ar : List RcX) (f : Nat -> Option Value) : (resH (endR tbRm2 Try.f31 .ret (rmE id fl q an ns ar 0 0 f))).get 5 = lsO layR ar:=by kernel_rfl
theorem zGq (id fl : Int) (q : List QuX) (an ns ar : List RcX) (f : Nat -> Option Value) : (resH (endR tbRm2 Try.f31 .ret (rmE id fl q an ns ar 0 0 f))).get 0 ≠ none:=by rw [show (resH (endR tbRm2 Try.f31 .ret (rmE id fl q an ns ar 0 0 f))).get 0 = some (.cells [.int .i64 id,.int .i64 fl,lsV 2 q,lsV 3 an,lsV 4 ns,lsV 5 ar] 25) by kernel_rfl];simp
def rmS1 (B : Bl) (x : Nat × List QuX × Int) (f : Nat -> Option Value) : Fs:=⟨slots 7 [(0,trB B),(2,pt 0),(3,pt 1),(4,pt 2),(5,.int .i64 x.2.2),(50,.int .i64 (numAt B 4 2 : Nat)),(51,.int .i64 (x.1 : Nat))] f,heapO 3 [(0,.cells [.int .i64 (numAt B 0 2 : Nat),.int .i64 (numAt B 2 2 : Nat),lsV 3 x.2.1,lsV 4 ([] : List RcX),lsV 5 ([] : List RcX),lsV 6 ([] : List RcX)] 25),(1,.cells [.int .i64 0,.int .i64 0] 53),(2,.cells [.int .i64 (numAt B 0 2 : Nat),.int .i64 (numAt B 2 2 : Nat),.int .i64 (numAt B 4 2 : Nat),.int .i64 (numAt B 6 2 : Nat),.int .i64 (numAt B 8 2 : Nat),.int .i64 (numAt B 10 2 : Nat)] 87)] [(3,lsO layQ x.2.1),(4,lsO layR ([] : List RcX)),(5,lsO layR ([] : List RcX)),(6,lsO layR ([] : List RcX))],7,[],[.call 55 [pt 1,pt 0] []]⟩
def rmS2 (B : Bl) (N : Nat) (k : Int) (qp : List QuX) (x1 x2 x3 : List RcX) (at' : Int) (i : Nat) (f : Nat -> Option Value) : Fs:=⟨slots 7 [(0,trB B),(2,pt 0),(3,pt 1),(4,pt 2),(5,.int .i64 at'),(11,.pointer (some ⟨0,(3 + k.toNat),none⟩)),(73,.agg #[.pointer (some ⟨0,3,none⟩),.pointer (some ⟨0,4,none⟩),.pointer (some ⟨0,5,none⟩)]),(74,.int .i64 k),(81,.int .i64 (N : Nat)),(82,.int .i64 (i : Nat))] f,heapO 3 [(0,.cells [.int .i64 (numAt B 0 2 : Nat),.int .i64 (numAt B 2 2 : Nat),lsV 3 qp,lsV 4 x1,lsV 5 x2,lsV 6 x3] 25),(1,.cells [.int .i64 0,.int .i64 0] 53),(2,.cells [.int .i64 (numAt B 0 2 : Nat),.int .i64 (numAt B 2 2 : Nat),.int .i64 (numAt B 4 2 : Nat),.int .i64 (numAt B 6 2 : Nat),.int .i64 (numAt B 8 2 : Nat),.int .i64 (numAt B 10 2 : Nat)] 87)] [(3,lsO layQ qp),(4,lsO layR x1),(5,lsO layR x2),(6,lsO layR x3)],7,[],[.call 55 [pt 1,pt 0] []]⟩
theorem zKh (B : Bl) (k : Nat) : numAt B k 2 < 65536:=by
 unfold numAt
 have := beN_lt ((B.drop k).take 2)
 have h : ((B.drop k).take 2).length<=2:=by rw [aU];omega
 exact bB this (Nat.pow_le_pow_right (by decide) h)
def rmRes (B : Bl) (r : Res) : Prop:=∃ m e p H k wr,msQ B m e p /\ r = .ret (.tuple #[.agg #[.int .i64 m.id,.int .i64 m.fl,lsV 2 m.q,lsV 3 m.an,lsV 4 m.ns,lsV 5 m.ar],.agg #[.int .i64 e,.int .i64 p]]) H k wr /\ (m.q ≠ [] -> H.get 2 = lsO layQ m.q) /\ (m.an ≠ [] -> H.get 3 = lsO layR m.an) /\ (m.ns ≠ [] -> H.get 4 = lsO layR m.ns) /\ (m.ar ≠ [] -> H.get 5 = lsO layR m.ar) /\ (e = 0 -> H.get 0 ≠ none)
theorem zAg {B : Bl} {e p : Int} {H : Tr AObj} {k : Nat} {wr : List Nat} (h : msQ B zM e p) (he : e ≠ 0) : rmRes B (.ret (.tuple #[.agg #[.int .i64 0,.int .i64 0,.slice none 0 0,.slice none 0 0,.slice none 0 0,.slice none 0 0],.agg #[.int .i64 e,.int .i64 p]]) H k wr) :=
 ⟨zM,e,p,H,k,wr,h,rfl,fun h=>ab rfl h,fun h=>ab rfl h,fun h=>ab rfl h,fun h=>ab rfl h,fun h=>ab h he⟩
theorem zBt {σ : Nat -> Nat -> Prop} {b1 b2 b3 b4 c1 c2 c3 c4 : Nat} (h1 : σ b1 c1) (h2 : σ b2 c2) (h3 : σ b3 c3) (h4 : σ b4 c4) (id fl : Int) (q : List QuX) (an ns ar : List RcX) : RO Try.prog σ (.cells [.int .i64 id,.int .i64 fl,lsV b1 q,lsV b2 an,lsV b3 ns,lsV b4 ar] 25) (.cells [.int .i64 id,.int .i64 fl,lsV c1 q,lsV c2 an,lsV c3 ns,lsV c4 ar] 25) :=
 RO.cells _ [] _ _ (.cons _ _ _ _ (.int _ _) (.cons _ _ _ _ (.int _ _) (.cons _ _ _ _ (zWe h1 q) (.cons _ _ _ _ (zWe h2 an) (.cons _ _ _ _ (zWe h3 ns) (.cons _ _ _ _ (zWe h4 ar) .nil))))))
theorem zBw {α : Type} (y : α) (ys : List α) (x : α) (b : Nat) : sq b (ys.length + 1 + 1) U = lsV b (y :: (ys++[x])):=by
 show _ = Value.slice _ ((ys++[x]).length + 1) U
 rw [aB];rfl
theorem zAj {nt : Nat} {s : Fs} {K : Fs -> Prop} {id fl e p : Int} {q : List QuX} {an ns ar : List RcX} (hd : Nat.ble (nt + 1) (2 ^ 7) = true) (hs : Nat.ble 0 s.n = true) (h2 : s.T.get 2 = some (pt 0)) (h3 : s.T.get 3 = some (pt 1)) (k0 : s.H.get 0 = some (.cells [.int .i64 id,.int .i64 fl,lsV 3 q,lsV 4 an,lsV 5 ns,lsV 6 ar] 25)) (k1 : s.H.get 1 = some (.cells [.int .i64 e,.int .i64 p] 53))
  (l1 : s.H.get 3 = lsO layQ q) (l2 : s.H.get 4 = lsO layR an) (l3 : s.H.get 5 = lsO layR ns) (l4 : s.H.get 6 = lsO layR ar) (hD : s.df = [.call 55 [pt 1,pt 0] []]) (k : ∀ f,K (rmE id fl q an ns ar e p f)) : ∃ s2,RcM Try.prog 0 0 nt none s s2 /\ K s2 :=
 zAh (zAi [0,1,3,4,5,6] (d:=7) (d2:=3) (lv:=[(2,pt 0),(3,pt 1)]) (bs:=[(0,.cells [.int .i64 id,.int .i64 fl,lsV 2 q,lsV 3 an,lsV 4 ns,lsV 5 ar] 25),(1,.cells [.int .i64 e,.int .i64 p] 53)]) (bo:=[(2,lsO layQ q),(3,lsO layR an),(4,lsO layR ns),(5,lsO layR ar)]) (W:=[]) (m:=6) (df:=[.call 55 [pt 1,pt 0] []]) hd hs rfl (fun l e=>by cases e) (by decide) (by decide) rfl rfl (fun k _ h=>ab h (Nat.not_lt_zero _))
  ⟨⟨_,h2,.ptr _ _ _ rfl⟩,⟨_,h3,.ptr _ _ _ rfl⟩,tv⟩ ⟨⟨by decide,_,k0,by refine zBt ?_ ?_ ?_ ?_ _ _ _ _ _ _ <;> rfl⟩,⟨by decide,_,k1,.same rfl⟩,tv⟩ ⟨zAd layQ (by decide) l1,zAd layR (by decide) l2,zAd layR (by decide) l3,zAd layR (by decide) l4,tv⟩ (by rw [hD];exact (.fn _ _ _ _ _ _ _ (.cons _ _ _ _ (.ptr _ _ _ rfl) (.cons _ _ _ _ (.ptr _ _ _ rfl) .nil)) .nil .nil))) k
theorem zAv {nt : Nat} {s : Fs} {K : Fs -> Prop} {id fl e p : Int} {q : List QuX} {an ns ar : List RcX} (hd : Nat.ble (nt + 1) (2 ^ 7) = true) (hs : Nat.ble 0 s.n = true) (h2 : s.T.get 2 = some (pt 0)) (h3 : s.T.get 3 = some (pt 1)) (k0 : s.H.get 0 = some (.cells [.int .i64 id,.int .i64 fl,lsV 2 q,lsV 3 an,lsV 4 ns,lsV 5 ar] 25)) (k1 : s.H.get 1 = some (.cells [.int .i64 e,.int .i64 p] 53))
  (l1 : s.H.get 2 = lsO layQ q) (l2 : s.H.get 3 = lsO layR an) (l3 : s.H.get 4 = lsO layR ns) (l4 : s.H.get 5 = lsO layR ar) (hD : s.df = [.call 55 [pt 1,pt 0] []]) (k : ∀ f,K (rmE id fl q an ns ar e p f)) : ∃ s2,RcM Try.prog 0 0 nt none s s2 /\ K s2 :=
 zAh (zAi [0,1,2,3,4,5] (d:=7) (d2:=3) (lv:=[(2,pt 0),(3,pt 1)]) (bs:=[(0,.cells [.int .i64 id,.int .i64 fl,lsV 2 q,lsV 3 an,lsV 4 ns,lsV 5 ar] 25),(1,.cells [.int .i64 e,.int .i64 p] 53)]) (bo:=[(2,lsO layQ q),(3,lsO layR an),(4,lsO layR ns),(5,lsO layR ar)]) (W:=[]) (m:=6) (df:=[.call 55 [pt 1,pt 0] []]) hd hs rfl (fun l e=>by cases e) (by decide) (by decide) rfl rfl (fun k _ h=>ab h (Nat.not_lt_zero _))
  ⟨⟨_,h2,.ptr _ _ _ rfl⟩,⟨_,h3,.ptr _ _ _ rfl⟩,tv⟩ ⟨⟨by decide,_,k0,by refine zBt ?_ ?_ ?_ ?_ _ _ _ _ _ _ <;> rfl⟩,⟨by decide,_,k1,.same rfl⟩,tv⟩ ⟨zAd layQ (by decide) l1,zAd layR (by decide) l2,zAd layR (by decide) l3,zAd layR (by decide) l4,tv⟩ (by rw [hD];exact (.fn _ _ _ _ _ _ _ (.cons _ _ _ _ (.ptr _ _ _ rfl) (.cons _ _ _ _ (.ptr _ _ _ rfl) .nil)) .nil .nil))) k
theorem msRead_fn (B : Bl) (hB : B.length<=1000000) : ∃ r,FnS Try.prog 0 31 [trB B] .e 0 r /\ rmRes B r:=by
 have hszQ : (Try.prog.types[57]).size = 3:=by kernel_rfl
 have hbyQ : (Try.prog.types[57]).bytes = 32:=by kernel_rfl
 have hszR : (Try.prog.types[48]).size = 5:=by kernel_rfl
 have hbyR : (Try.prog.types[48]).bytes = 56:=by kernel_rfl
 refine zVs mixed tbRm2 [] Try.func31 (c:=bodyOf Try.f31) (by kernel_rfl) ?_
 refine ifK (fun g1=>?_) (fun g1=>?_)
 ·have g1 : 65535 < B.length:=by have g1 : ((B.length : Nat) : Int) > 65535:=oT g1;omega
  refine aI rfl (zAh (zAi [0,1,40,41,42,43] rfl rfl rfl (fun l e=>by cases e) (by decide) (by decide) rfl rfl (zAy rfl) (d:=7) (d2:=3) (lv:=[(2,pt 0),(3,pt 1)]) (bs:=[(0,.cells [.int .i64 0,.int .i64 0,lsV 2 ([] : List QuX),lsV 3 ([] : List RcX),lsV 4 ([] : List RcX),lsV 5 ([] : List RcX)] 25),(1,.cells [.int .i64 3,.int .i64 0] 53)]) (bo:=[(2,lsO layQ ([] : List QuX)),(3,lsO layR ([] : List RcX)),(4,lsO layR ([] : List RcX)),(5,lsO layR ([] : List RcX))]) (W:=[]) (m:=6) (df:=[.call 55 [pt 1,pt 0] []]) ⟨(sP rfl rfl),(sP rfl rfl),tv⟩ ⟨bpo rfl,bpo rfl,tv⟩ ⟨(fun o ho=>by cases ho),(fun o ho=>by cases ho),(fun o ho=>by cases ho),(fun o ho=>by cases ho),tv⟩ (.fn _ _ _ _ _ _ _ (.cons _ _ _ _ (.ptr _ _ _ rfl) (.cons _ _ _ _ (.ptr _ _ _ rfl) .nil)) .nil .nil)) (fun f=>?_))
  refine Eq.mpr (zBf 3 (by decide) 0 0 [] [] [] [] 0 _ f) ?_
  exact zAg (.long g1) (by decide)
 have g1 : B.length<=65535:=by have g1 : ¬ ((B.length : Nat) : Int) > 65535:=oF g1;omega
 refine ifK (fun g2=>?_) (fun g2=>?_)
 ·have g2 : B.length < 12:=by have g2 : ((B.length : Nat) : Int) < 12:=oT g2;omega
  refine aI rfl (zAh (zAi [0,1,40,41,42,43] rfl rfl rfl (fun l e=>by cases e) (by decide) (by decide) rfl rfl (zAy rfl) (d:=7) (d2:=3) (lv:=[(2,pt 0),(3,pt 1)]) (bs:=[(0,.cells [.int .i64 0,.int .i64 0,lsV 2 ([] : List QuX),lsV 3 ([] : List RcX),lsV 4 ([] : List RcX),lsV 5 ([] : List RcX)] 25),(1,.cells [.int .i64 4,.int .i64 (B.length : Nat)] 53)]) (bo:=[(2,lsO layQ ([] : List QuX)),(3,lsO layR ([] : List RcX)),(4,lsO layR ([] : List RcX)),(5,lsO layR ([] : List RcX))]) (W:=[]) (m:=6) (df:=[.call 55 [pt 1,pt 0] []]) ⟨(sP rfl rfl),(sP rfl rfl),tv⟩ ⟨bpo rfl,bpo rfl,tv⟩ ⟨(fun o ho=>by cases ho),(fun o ho=>by cases ho),(fun o ho=>by cases ho),(fun o ho=>by cases ho),tv⟩ (.fn _ _ _ _ _ _ _ (.cons _ _ _ _ (.ptr _ _ _ rfl) (.cons _ _ _ _ (.ptr _ _ _ rfl) .nil)) .nil .nil)) (fun f=>?_))
  refine Eq.mpr (zBf 4 (by decide) 0 0 [] [] [] [] _ _ f) ?_
  exact zAg (.short g2) (by decide)
 have g2 : 12<=B.length:=by have g2 : ¬ ((B.length : Nat) : Int) < 12:=oF g2;omega
 have hne : B ≠ []:=fun h=>by rw [h] at g2;exact ab g2 (by decide)
 refine LW.round ?_
 refine zAq tbRm2 [] 0 _ none mixed _ _ _ ?_
 refine eI (B,(0 : Int)) (aI ⟨rfl,hne,by show B.length<=_;omega,(show (0 : Int)<=0 by decide),by show 0 + 2<=B.length;omega⟩ ?_)
 refine LW.round ?_
 refine zAq tbRm2 [] 0 _ none mixed _ _ _ ?_
 refine eI (B,(2 : Int)) (aI ⟨rfl,hne,by show B.length<=_;omega,(show (0 : Int)<=2 by decide),by show 2 + 2<=B.length;omega⟩ ?_)
 refine LW.round ?_
 refine zAq tbRm2 [] 0 _ none mixed _ _ _ ?_
 refine eI (B,(4 : Int)) (aI ⟨rfl,hne,by show B.length<=_;omega,(show (0 : Int)<=4 by decide),by show 4 + 2<=B.length;omega⟩ ?_)
 refine LW.round ?_
 refine zAq tbRm2 [] 0 _ none mixed _ _ _ ?_
 refine eI (B,(6 : Int)) (aI ⟨rfl,hne,by show B.length<=_;omega,(show (0 : Int)<=6 by decide),by show 6 + 2<=B.length;omega⟩ ?_)
 refine LW.round ?_
 refine zAq tbRm2 [] 0 _ none mixed _ _ _ ?_
 refine eI (B,(8 : Int)) (aI ⟨rfl,hne,by show B.length<=_;omega,(show (0 : Int)<=8 by decide),by show 8 + 2<=B.length;omega⟩ ?_)
 refine LW.round ?_
 refine zAq tbRm2 [] 0 _ none mixed _ _ _ ?_
 refine eI (B,(10 : Int)) (aI ⟨rfl,hne,by show B.length<=_;omega,(show (0 : Int)<=10 by decide),by show 10 + 2<=B.length;omega⟩ ?_)
 refine LW.round ?_
 refine zAq tbRm2 [] 0 _ none mixed _ _ _ ?_
 refine aI (by kernel_rfl) ?_
 refine zAp (rmS1 B) (fun x=>numAt B 4 2 - x.1) (fun x=>x.1<=numAt B 4 2 /\ x.2.1.length = x.1 /\ mrQ B (numAt B 4 2) (x.2.1.map .inl) x.2.2) (0,[],12) ⟨aH _,rfl,.nil⟩ ?_ ?_
 ·exact zAi [0,1,2,40,41,42,43] rfl rfl rfl (fun l e=>by cases e) (by decide) (by decide) rfl rfl (zAy rfl) ⟨⟨_,rfl,zAe 8 rfl⟩,(sP rfl rfl),(sP rfl rfl),(sP rfl rfl),(sI rfl),(sI rfl),(sI rfl),tv⟩ ⟨bpo rfl,bpo rfl,bpo rfl,tv⟩ ⟨(fun o ho=>by cases ho),(fun o ho=>by cases ho),(fun o ho=>by cases ho),(fun o ho=>by cases ho),tv⟩ (.fn _ _ _ _ _ _ _ (.cons _ _ _ _ (.ptr _ _ _ rfl) (.cons _ _ _ _ (.ptr _ _ _ rfl) .nil)) .nil .nil)
 rintro ⟨i,q,at'⟩ f ⟨hi,hql,hm⟩
 have hi : i<=numAt B 4 2:=hi
 have hql : q.length = i:=hql
 have hm : mrQ B (numAt B 4 2) (q.map .inl) at':=hm
 have hn2 : numAt B 4 2 < 65536:=zKh B 4
 refine zAq tbRm2 [] 0 _ none mixed _ _ _ ?_
 refine ifK (fun h1=>?_) (fun h1=>?_)
 ·have hlt : i < numAt B 4 2:=by have h1 : ((i : Nat) : Int) < ((numAt B 4 2 : Nat) : Int):=oT h1;omega
  refine eI (B,at') (aI ⟨rfl,hne,by show B.length<=_;omega⟩ ?_)
  rintro ⟨x,nx,e,p⟩ hQ
  have hQ : queQ B at' (quT (x,nx,e,p)):=hQ
  refine ifK (fun h2=>?_) (fun h2=>?_)
  ·have he : e ≠ 0:=by have h2 : (e != 0) = true:=h2;simpa using h2
   have hb : mrBad B (numAt B 4 2) (q.map .inl) at' e p:=.inl ⟨by rw [aT];omega,x,nx,hQ⟩
   have ht : (q.map (Sum.inl (β:=RcX))).length < totB B:=by rw [aT];unfold totB;omega
   cases q with
   | nil =>
    refine aI (by kernel_rfl) ?_
    refine aI rfl (zAj (q:=([] : List QuX)) (an:=([] : List RcX)) (ns:=([] : List RcX)) (ar:=([] : List RcX)) rfl rfl rfl rfl rfl rfl rfl rfl rfl rfl rfl (fun f=>?_))
    refine aI rfl (zAv (q:=([] : List QuX)) (an:=([] : List RcX)) (ns:=([] : List RcX)) (ar:=([] : List RcX)) rfl rfl rfl rfl rfl rfl rfl rfl rfl rfl rfl (fun f=>?_))
    refine Eq.mpr (zBf e he _ _ _ _ _ _ p _ f) ?_
    exact zAg (.fault ⟨g2,g1⟩ hm ht hb he) he
   | cons q0 qs =>
    refine aI (by kernel_rfl) ?_
    refine aI rfl (zAj (q:=(q0 :: qs)) (an:=([] : List RcX)) (ns:=([] : List RcX)) (ar:=([] : List RcX)) rfl rfl rfl rfl rfl rfl rfl rfl rfl rfl rfl (fun f=>?_))
    refine aI rfl (zAv (q:=(q0 :: qs)) (an:=([] : List RcX)) (ns:=([] : List RcX)) (ar:=([] : List RcX)) rfl rfl rfl rfl rfl rfl rfl rfl rfl rfl rfl (fun f=>?_))
    refine Eq.mpr (zBf e he _ _ _ _ _ _ p _ f) ?_
    exact zAg (.fault ⟨g2,g1⟩ hm ht hb he) he
  have he : e = 0:=by have h2 : (e != 0) = false:=h2;simpa using h2
  subst he
  have hm2 : mrQ B (numAt B 4 2) ((q++[x]).map .inl) nx:=by
   rw [List.map_append]
   exact .q hm (by rw [aT];omega) hQ
  cases q with
  | nil =>
   refine ⟨(i + 1,[x],nx),⟨hlt,by rw [<- hql];rfl,hm2⟩,by show numAt B 4 2 - (i + 1) < numAt B 4 2 - i;omega,?_⟩
   exact zAi [0,1,2,10,4,5,6] rfl rfl rfl (fun l e=>by cases e) (by decide) (by decide) rfl rfl (zAy rfl) ⟨⟨_,rfl,zAe 8 rfl⟩,(sP rfl rfl),(sP rfl rfl),(sP rfl rfl),(sI rfl),(sI rfl),zAa rfl (by rw [wrapN (by omega) (by omega)];omega),tv⟩ ⟨⟨by decide,_,rfl,by show RO _ _ (.cells [.int .i64 _,.int .i64 _,lsV 10 [x],lsV 4 ([] : List RcX),lsV 5 ([] : List RcX),lsV 6 ([] : List RcX)] _) _;refine zBt (b1:=10) (b2:=4) (b3:=5) (b4:=6) (c1:=3) (c2:=4) (c3:=5) (c4:=6) ?_ ?_ ?_ ?_ _ _ [x] ([] : List RcX) ([] : List RcX) ([] : List RcX) <;> rfl⟩,bpo rfl,bpo rfl,tv⟩ ⟨(fun o ho=>⟨by decide,_,rfl,by cases ho;exact zAs rfl rfl⟩),(zAd layR (by decide) rfl),(zAd layR (by decide) rfl),(zAd layR (by decide) rfl),tv⟩ (.fn _ _ _ _ _ _ _ (.cons _ _ _ _ (.ptr _ _ _ rfl) (.cons _ _ _ _ (.ptr _ _ _ rfl) .nil)) .nil .nil)
  | cons y ys =>
   have hfl : (List.flatMap layQ.g (y :: ys)).length = (ys.length + 1) * 3:=zAf layQ.g 3 layQ.len (y :: ys)
   have hyl : ys.length + 1 = i:=hql
   refine aI (by rw [hszQ,hbyQ];simp only [bA,dT];exact ⟨⟨⟨⟨⟨⟨rfl,rfl⟩,bL (by rw [hfl];omega)⟩,rfl⟩,by omega⟩,by omega⟩,bL (by rw [hfl];show (ys.length + 1) * 3 + 1<=0 + (ys.length + 1) * 3 + 3;omega)⟩) ?_
   have ec : List.take ((ys.length + 1) * 3) (List.flatMap layQ.g (y :: ys))++layQ.g x = (y :: (ys++[x])).flatMap layQ.g:=by rw [aD (by rw [hfl];omega),<- bC,List.flatMap_append];simp
   refine ⟨(i + 1,y :: (ys++[x]),nx),⟨hlt,by show (y :: (ys++[x])).length = _;simp;omega,hm2⟩,by show numAt B 4 2 - (i + 1) < numAt B 4 2 - i;omega,?_⟩
   exact zAi [0,1,2,10,4,5,6] rfl rfl rfl (fun l e=>by cases e) (by decide) (by decide) rfl rfl (zAy rfl) ⟨⟨_,rfl,zAe 8 rfl⟩,(sP rfl rfl),(sP rfl rfl),(sP rfl rfl),(sI rfl),(sI rfl),zAa rfl (by rw [wrapN (by omega) (by omega)];omega),tv⟩ ⟨⟨by decide,_,rfl,by show RO _ _ (.cells [.int .i64 _,.int .i64 _,sq 10 (ys.length + 1 + 1) U,lsV 4 ([] : List RcX),lsV 5 ([] : List RcX),lsV 6 ([] : List RcX)] _) _;rw [zBw y ys x 10];refine zBt (b1:=10) (b2:=4) (b3:=5) (b4:=6) (c1:=3) (c2:=4) (c3:=5) (c4:=6) ?_ ?_ ?_ ?_ _ _ (y :: (ys++[x])) ([] : List RcX) ([] : List RcX) ([] : List RcX) <;> rfl⟩,bpo rfl,bpo rfl,tv⟩ ⟨(fun o ho=>⟨by decide,_,rfl,by cases ho;exact zAs (by rw [<- ec];rfl) (zAb layQ.g layQ.plain _)⟩),(zAd layR (by decide) rfl),(zAd layR (by decide) rfl),(zAd layR (by decide) rfl),tv⟩ (.fn _ _ _ _ _ _ _ (.cons _ _ _ _ (.ptr _ _ _ rfl) (.cons _ _ _ _ (.ptr _ _ _ rfl) .nil)) .nil .nil)
 have hiq : i = numAt B 4 2:=by have h1 : ¬ ((i : Nat) : Int) < ((numAt B 4 2 : Nat) : Int):=oF h1;omega
 subst hiq
 have hm : mrQ B (numAt B 4 2) (q.map (Sum.inl (β:=RcX))) at':=hm
 refine aI rfl (zAh (zAi [0,1,2,3,4,5,6] rfl rfl rfl (fun l e=>by cases e) (by decide) (by decide) rfl rfl (zAy rfl) (d:=7) (d2:=3) (lv:=[(0,trB B),(2,pt 0),(3,pt 1),(4,pt 2),(5,.int .i64 at')]) (bs:=[(0,.cells [.int .i64 (numAt B 0 2 : Nat),.int .i64 (numAt B 2 2 : Nat),lsV 3 q,lsV 4 ([] : List RcX),lsV 5 ([] : List RcX),lsV 6 ([] : List RcX)] 25),(1,.cells [.int .i64 0,.int .i64 0] 53),(2,.cells [.int .i64 (numAt B 0 2 : Nat),.int .i64 (numAt B 2 2 : Nat),.int .i64 (numAt B 4 2 : Nat),.int .i64 (numAt B 6 2 : Nat),.int .i64 (numAt B 8 2 : Nat),.int .i64 (numAt B 10 2 : Nat)] 87)]) (bo:=[(3,lsO layQ q),(4,lsO layR ([] : List RcX)),(5,lsO layR ([] : List RcX)),(6,lsO layR ([] : List RcX))]) (W:=[]) (m:=7) (df:=[.call 55 [pt 1,pt 0] []]) ⟨⟨_,rfl,zAe 8 rfl⟩,(sP rfl rfl),(sP rfl rfl),(sP rfl rfl),(sI rfl),tv⟩ ⟨⟨by decide,_,rfl,by refine zBt (b1:=3) (b2:=4) (b3:=5) (b4:=6) (c1:=3) (c2:=4) (c3:=5) (c4:=6) ?_ ?_ ?_ ?_ _ _ q ([] : List RcX) ([] : List RcX) ([] : List RcX) <;> rfl⟩,bpo rfl,bpo rfl,tv⟩ ⟨(zAd layQ (by decide) rfl),(zAd layR (by decide) rfl),(zAd layR (by decide) rfl),(zAd layR (by decide) rfl),tv⟩ (.fn _ _ _ _ _ _ _ (.cons _ _ _ _ (.ptr _ _ _ rfl) (.cons _ _ _ _ (.ptr _ _ _ rfl) .nil)) .nil .nil)) (fun f=>?_))
 refine aI (by kernel_rfl) ?_
 have hlq : q.length = numAt B 4 2:=hql
 refine LW.round ?_
 refine zAq tbRm2 [] 0 _ none mixed _ _ _ ?_
 refine zAp (fun (x : Nat × List RcX × Int)=>rmS2 B (numAt B 6 2) 0 q x.2.1 ([] : List RcX) ([] : List RcX) x.2.2 x.1) (fun x=>numAt B 6 2 - x.1) (fun x=>x.1<=numAt B 6 2 /\ x.2.1.length = x.1 /\ mrQ B (numAt B 4 2) (q.map (Sum.inl (β:=RcX))++x.2.1.map .inr) x.2.2) (0,[],at') ⟨aH _,rfl,by rw [List.map_nil,aF];exact hm⟩ ?_ ?_
 ·exact zAi [0,1,2,3,4,5,6] rfl rfl rfl (fun l e=>by cases e) (by decide) (by decide) rfl rfl (zAy rfl) ⟨⟨_,rfl,zAe 8 rfl⟩,(sP rfl rfl),(sP rfl rfl),(sP rfl rfl),(sI rfl),(sP rfl rfl),⟨_,rfl,.agg _ _ (.cons _ _ _ _ (.ptr _ _ _ rfl) (.cons _ _ _ _ (.ptr _ _ _ rfl) (.cons _ _ _ _ (.ptr _ _ _ rfl) .nil)))⟩,(sI rfl),(sI rfl),(sI rfl),tv⟩ ⟨⟨by decide,_,rfl,by refine zBt (b1:=3) (b2:=4) (b3:=5) (b4:=6) (c1:=3) (c2:=4) (c3:=5) (c4:=6) ?_ ?_ ?_ ?_ _ _ q ([] : List RcX) ([] : List RcX) ([] : List RcX) <;> rfl⟩,bpo rfl,bpo rfl,tv⟩ ⟨(zAd layQ (by decide) rfl),(zAd layR (by decide) rfl),(zAd layR (by decide) rfl),(zAd layR (by decide) rfl),tv⟩ (.fn _ _ _ _ _ _ _ (.cons _ _ _ _ (.ptr _ _ _ rfl) (.cons _ _ _ _ (.ptr _ _ _ rfl) .nil)) .nil .nil)
 rintro ⟨i,an,at'⟩ f ⟨hi,hql,hm⟩
 have hi : i<=numAt B 6 2:=hi
 have hql : an.length = i:=hql
 have hm : mrQ B (numAt B 4 2) (q.map (Sum.inl (β:=RcX))++an.map .inr) at':=hm
 have hnn : numAt B 6 2 < 65536:=zKh B 6
 have hpl : (q.map (Sum.inl (β:=RcX))).length = numAt B 4 2:=by simp only [aB,aT];omega
 refine zAq tbRm2 [] 0 _ none mixed _ _ _ ?_
 refine ifK (fun h1=>?_) (fun h1=>?_)
 ·have hlt : i < numAt B 6 2:=by have h1 : ((i : Nat) : Int) < ((numAt B 6 2 : Nat) : Int):=oT h1;omega
  refine eI (B,at') (aI ⟨rfl,hne,by show B.length<=_;omega⟩ ?_)
  rintro ⟨x,nx,e,p⟩ hQ
  have hQ : recQ B at' (rcT (x,nx,e,p)):=hQ
  have hpl2 : (q.map (Sum.inl (β:=RcX))++an.map (Sum.inr (α:=QuX))).length = numAt B 4 2 + i:=by rw [aB,hpl,aT,hql]
  refine ifK (fun h2=>?_) (fun h2=>?_)
  ·have he : e ≠ 0:=by have h2 : (e != 0) = true:=h2;simpa using h2
   have hb : mrBad B (numAt B 4 2) (q.map (Sum.inl (β:=RcX))++an.map .inr) at' e p:=.inr ⟨by rw [hpl2];omega,x,nx,hQ⟩
   have ht : (q.map (Sum.inl (β:=RcX))++an.map (Sum.inr (α:=QuX))).length < totB B:=by rw [hpl2];unfold totB;omega
   cases q with
   | nil =>
    cases an with
    | nil =>
     refine aI (by kernel_rfl) ?_
     refine aI rfl (zAj (q:=([] : List QuX)) (an:=([] : List RcX)) (ns:=([] : List RcX)) (ar:=([] : List RcX)) rfl rfl rfl rfl rfl rfl rfl rfl rfl rfl rfl (fun f=>?_))
     refine aI rfl (zAv (q:=([] : List QuX)) (an:=([] : List RcX)) (ns:=([] : List RcX)) (ar:=([] : List RcX)) rfl rfl rfl rfl rfl rfl rfl rfl rfl rfl rfl (fun f=>?_))
     refine Eq.mpr (zBf e he _ _ _ _ _ _ p _ f) ?_
     exact zAg (.fault ⟨g2,g1⟩ hm ht hb he) he
    | cons an0 ans =>
     refine aI (by kernel_rfl) ?_
     refine aI rfl (zAj (q:=([] : List QuX)) (an:=(an0 :: ans)) (ns:=([] : List RcX)) (ar:=([] : List RcX)) rfl rfl rfl rfl rfl rfl rfl rfl rfl rfl rfl (fun f=>?_))
     refine aI rfl (zAv (q:=([] : List QuX)) (an:=(an0 :: ans)) (ns:=([] : List RcX)) (ar:=([] : List RcX)) rfl rfl rfl rfl rfl rfl rfl rfl rfl rfl rfl (fun f=>?_))
     refine Eq.mpr (zBf e he _ _ _ _ _ _ p _ f) ?_
     exact zAg (.fault ⟨g2,g1⟩ hm ht hb he) he
   | cons q0 qs =>
    cases an with
    | nil =>
     refine aI (by kernel_rfl) ?_
     refine aI rfl (zAj (q:=(q0 :: qs)) (an:=([] : List RcX)) (ns:=([] : List RcX)) (ar:=([] : List RcX)) rfl rfl rfl rfl rfl rfl rfl rfl rfl rfl rfl (fun f=>?_))
     refine aI rfl (zAv (q:=(q0 :: qs)) (an:=([] : List RcX)) (ns:=([] : List RcX)) (ar:=([] : List RcX)) rfl rfl rfl rfl rfl rfl rfl rfl rfl rfl rfl (fun f=>?_))
     refine Eq.mpr (zBf e he _ _ _ _ _ _ p _ f) ?_
     exact zAg (.fault ⟨g2,g1⟩ hm ht hb he) he
    | cons an0 ans =>
     refine aI (by kernel_rfl) ?_
     refine aI rfl (zAj (q:=(q0 :: qs)) (an:=(an0 :: ans)) (ns:=([] : List RcX)) (ar:=([] : List RcX)) rfl rfl rfl rfl rfl rfl rfl rfl rfl rfl rfl (fun f=>?_))
     refine aI rfl (zAv (q:=(q0 :: qs)) (an:=(an0 :: ans)) (ns:=([] : List RcX)) (ar:=([] : List RcX)) rfl rfl rfl rfl rfl rfl rfl rfl rfl rfl rfl (fun f=>?_))
     refine Eq.mpr (zBf e he _ _ _ _ _ _ p _ f) ?_
     exact zAg (.fault ⟨g2,g1⟩ hm ht hb he) he
  have he : e = 0:=by have h2 : (e != 0) = false:=h2;simpa using h2
  subst he
  have hm2 : mrQ B (numAt B 4 2) (q.map (Sum.inl (β:=RcX))++(an++[x]).map .inr) nx:=by
   rw [List.map_append,<- aN]
   exact .r hm (by rw [hpl2];omega) hQ
  cases q with
  | nil =>
   cases an with
   | nil =>
    refine aI (by kernel_rfl) ?_
    refine ⟨(i + 1,[x],nx),⟨hlt,by rw [<- hql];rfl,hm2⟩,by show numAt B 6 2 - (i + 1) < numAt B 6 2 - i;omega,?_⟩
    exact zAi [0,1,2,3,10,5,6] rfl rfl rfl (fun l e=>by cases e) (by decide) (by decide) rfl rfl (zAy rfl) ⟨⟨_,rfl,zAe 8 rfl⟩,(sP rfl rfl),(sP rfl rfl),(sP rfl rfl),(sI rfl),(sP rfl rfl),⟨_,rfl,.agg _ _ (.cons _ _ _ _ (.ptr _ _ _ rfl) (.cons _ _ _ _ (.ptr _ _ _ rfl) (.cons _ _ _ _ (.ptr _ _ _ rfl) .nil)))⟩,(sI rfl),(sI rfl),zAa rfl (by rw [wrapN (by omega) (by omega)];omega),tv⟩ ⟨⟨by decide,_,rfl,by show RO _ _ (.cells [.int .i64 _,.int .i64 _,lsV 3 ([] : List QuX),lsV 10 [x],lsV 5 ([] : List RcX),lsV 6 ([] : List RcX)] _) _;refine zBt (b1:=3) (b2:=10) (b3:=5) (b4:=6) (c1:=3) (c2:=4) (c3:=5) (c4:=6) ?_ ?_ ?_ ?_ _ _ ([] : List QuX) [x] ([] : List RcX) ([] : List RcX) <;> rfl⟩,bpo rfl,bpo rfl,tv⟩ ⟨(zAd layQ (by decide) rfl),(fun o ho=>⟨by decide,_,rfl,by cases ho;exact zAs rfl rfl⟩),(zAd layR (by decide) rfl),(zAd layR (by decide) rfl),tv⟩ (.fn _ _ _ _ _ _ _ (.cons _ _ _ _ (.ptr _ _ _ rfl) (.cons _ _ _ _ (.ptr _ _ _ rfl) .nil)) .nil .nil)
   | cons y ys =>
    have hfl : (List.flatMap layR.g (y :: ys)).length = (ys.length + 1) * 5:=zAf layR.g 5 layR.len (y :: ys)
    have hyl : ys.length + 1 = i:=hql
    refine aI (by kernel_rfl) ?_
    refine aI (by rw [hszR,hbyR];simp only [bA,dT];exact ⟨⟨⟨⟨⟨⟨rfl,rfl⟩,bL (by rw [hfl];omega)⟩,rfl⟩,by omega⟩,by omega⟩,bL (by rw [hfl];show (ys.length + 1) * 5 + 1<=0 + (ys.length + 1) * 5 + 5;omega)⟩) ?_
    have ec : List.take ((ys.length + 1) * 5) (List.flatMap layR.g (y :: ys))++layR.g x = (y :: (ys++[x])).flatMap layR.g:=by rw [aD (by rw [hfl];omega),<- bC,List.flatMap_append];simp
    refine ⟨(i + 1,y :: (ys++[x]),nx),⟨hlt,by show (y :: (ys++[x])).length = _;simp;omega,hm2⟩,by show numAt B 6 2 - (i + 1) < numAt B 6 2 - i;omega,?_⟩
    exact zAi [0,1,2,3,10,5,6] rfl rfl rfl (fun l e=>by cases e) (by decide) (by decide) rfl rfl (zAy rfl) ⟨⟨_,rfl,zAe 8 rfl⟩,(sP rfl rfl),(sP rfl rfl),(sP rfl rfl),(sI rfl),(sP rfl rfl),⟨_,rfl,.agg _ _ (.cons _ _ _ _ (.ptr _ _ _ rfl) (.cons _ _ _ _ (.ptr _ _ _ rfl) (.cons _ _ _ _ (.ptr _ _ _ rfl) .nil)))⟩,(sI rfl),(sI rfl),zAa rfl (by rw [wrapN (by omega) (by omega)];omega),tv⟩ ⟨⟨by decide,_,rfl,by show RO _ _ (.cells [.int .i64 _,.int .i64 _,lsV 3 ([] : List QuX),sq 10 (ys.length + 1 + 1) U,lsV 5 ([] : List RcX),lsV 6 ([] : List RcX)] _) _;rw [zBw y ys x 10];refine zBt (b1:=3) (b2:=10) (b3:=5) (b4:=6) (c1:=3) (c2:=4) (c3:=5) (c4:=6) ?_ ?_ ?_ ?_ _ _ ([] : List QuX) (y :: (ys++[x])) ([] : List RcX) ([] : List RcX) <;> rfl⟩,bpo rfl,bpo rfl,tv⟩ ⟨(zAd layQ (by decide) rfl),(fun o ho=>⟨by decide,_,rfl,by cases ho;exact zAs (by rw [<- ec];rfl) (zAb layR.g layR.plain _)⟩),(zAd layR (by decide) rfl),(zAd layR (by decide) rfl),tv⟩ (.fn _ _ _ _ _ _ _ (.cons _ _ _ _ (.ptr _ _ _ rfl) (.cons _ _ _ _ (.ptr _ _ _ rfl) .nil)) .nil .nil)
  | cons q0 qs =>
   cases an with
   | nil =>
    refine aI (by kernel_rfl) ?_
    refine ⟨(i + 1,[x],nx),⟨hlt,by rw [<- hql];rfl,hm2⟩,by show numAt B 6 2 - (i + 1) < numAt B 6 2 - i;omega,?_⟩
    exact zAi [0,1,2,3,10,5,6] rfl rfl rfl (fun l e=>by cases e) (by decide) (by decide) rfl rfl (zAy rfl) ⟨⟨_,rfl,zAe 8 rfl⟩,(sP rfl rfl),(sP rfl rfl),(sP rfl rfl),(sI rfl),(sP rfl rfl),⟨_,rfl,.agg _ _ (.cons _ _ _ _ (.ptr _ _ _ rfl) (.cons _ _ _ _ (.ptr _ _ _ rfl) (.cons _ _ _ _ (.ptr _ _ _ rfl) .nil)))⟩,(sI rfl),(sI rfl),zAa rfl (by rw [wrapN (by omega) (by omega)];omega),tv⟩ ⟨⟨by decide,_,rfl,by show RO _ _ (.cells [.int .i64 _,.int .i64 _,lsV 3 (q0 :: qs),lsV 10 [x],lsV 5 ([] : List RcX),lsV 6 ([] : List RcX)] _) _;refine zBt (b1:=3) (b2:=10) (b3:=5) (b4:=6) (c1:=3) (c2:=4) (c3:=5) (c4:=6) ?_ ?_ ?_ ?_ _ _ (q0 :: qs) [x] ([] : List RcX) ([] : List RcX) <;> rfl⟩,bpo rfl,bpo rfl,tv⟩ ⟨(zAd layQ (by decide) rfl),(fun o ho=>⟨by decide,_,rfl,by cases ho;exact zAs rfl rfl⟩),(zAd layR (by decide) rfl),(zAd layR (by decide) rfl),tv⟩ (.fn _ _ _ _ _ _ _ (.cons _ _ _ _ (.ptr _ _ _ rfl) (.cons _ _ _ _ (.ptr _ _ _ rfl) .nil)) .nil .nil)
   | cons y ys =>
    have hfl : (List.flatMap layR.g (y :: ys)).length = (ys.length + 1) * 5:=zAf layR.g 5 layR.len (y :: ys)
    have hyl : ys.length + 1 = i:=hql
    refine aI (by kernel_rfl) ?_
    refine aI (by rw [hszR,hbyR];simp only [bA,dT];exact ⟨⟨⟨⟨⟨⟨rfl,rfl⟩,bL (by rw [hfl];omega)⟩,rfl⟩,by omega⟩,by omega⟩,bL (by rw [hfl];show (ys.length + 1) * 5 + 1<=0 + (ys.length + 1) * 5 + 5;omega)⟩) ?_
    have ec : List.take ((ys.length + 1) * 5) (List.flatMap layR.g (y :: ys))++layR.g x = (y :: (ys++[x])).flatMap layR.g:=by rw [aD (by rw [hfl];omega),<- bC,List.flatMap_append];simp
    refine ⟨(i + 1,y :: (ys++[x]),nx),⟨hlt,by show (y :: (ys++[x])).length = _;simp;omega,hm2⟩,by show numAt B 6 2 - (i + 1) < numAt B 6 2 - i;omega,?_⟩
    exact zAi [0,1,2,3,10,5,6] rfl rfl rfl (fun l e=>by cases e) (by decide) (by decide) rfl rfl (zAy rfl) ⟨⟨_,rfl,zAe 8 rfl⟩,(sP rfl rfl),(sP rfl rfl),(sP rfl rfl),(sI rfl),(sP rfl rfl),⟨_,rfl,.agg _ _ (.cons _ _ _ _ (.ptr _ _ _ rfl) (.cons _ _ _ _ (.ptr _ _ _ rfl) (.cons _ _ _ _ (.ptr _ _ _ rfl) .nil)))⟩,(sI rfl),(sI rfl),zAa rfl (by rw [wrapN (by omega) (by omega)];omega),tv⟩ ⟨⟨by decide,_,rfl,by show RO _ _ (.cells [.int .i64 _,.int .i64 _,lsV 3 (q0 :: qs),sq 10 (ys.length + 1 + 1) U,lsV 5 ([] : List RcX),lsV 6 ([] : List RcX)] _) _;rw [zBw y ys x 10];refine zBt (b1:=3) (b2:=10) (b3:=5) (b4:=6) (c1:=3) (c2:=4) (c3:=5) (c4:=6) ?_ ?_ ?_ ?_ _ _ (q0 :: qs) (y :: (ys++[x])) ([] : List RcX) ([] : List RcX) <;> rfl⟩,bpo rfl,bpo rfl,tv⟩ ⟨(zAd layQ (by decide) rfl),(fun o ho=>⟨by decide,_,rfl,by cases ho;exact zAs (by rw [<- ec];rfl) (zAb layR.g layR.plain _)⟩),(zAd layR (by decide) rfl),(zAd layR (by decide) rfl),tv⟩ (.fn _ _ _ _ _ _ _ (.cons _ _ _ _ (.ptr _ _ _ rfl) (.cons _ _ _ _ (.ptr _ _ _ rfl) .nil)) .nil .nil)
 have hiq : i = numAt B 6 2:=by have h1 : ¬ ((i : Nat) : Int) < ((numAt B 6 2 : Nat) : Int):=oF h1;omega
 subst hiq
 have hlan : an.length = numAt B 6 2:=hql
 refine aI rfl (zAh (zAi [0,1,2,3,4,5,6] rfl rfl rfl (fun l e=>by cases e) (by decide) (by decide) rfl rfl (zAy rfl) (d:=7) (d2:=3) (lv:=[(0,trB B),(2,pt 0),(3,pt 1),(4,pt 2),(5,.int .i64 at'),(73,.agg #[.pointer (some ⟨0,3,none⟩),.pointer (some ⟨0,4,none⟩),.pointer (some ⟨0,5,none⟩)]),(74,.int .i64 0)]) (bs:=[(0,.cells [.int .i64 (numAt B 0 2 : Nat),.int .i64 (numAt B 2 2 : Nat),lsV 3 q,lsV 4 an,lsV 5 ([] : List RcX),lsV 6 ([] : List RcX)] 25),(1,.cells [.int .i64 0,.int .i64 0] 53),(2,.cells [.int .i64 (numAt B 0 2 : Nat),.int .i64 (numAt B 2 2 : Nat),.int .i64 (numAt B 4 2 : Nat),.int .i64 (numAt B 6 2 : Nat),.int .i64 (numAt B 8 2 : Nat),.int .i64 (numAt B 10 2 : Nat)] 87)]) (bo:=[(3,lsO layQ q),(4,lsO layR an),(5,lsO layR ([] : List RcX)),(6,lsO layR ([] : List RcX))]) (W:=[]) (m:=7) (df:=[.call 55 [pt 1,pt 0] []]) ⟨⟨_,rfl,zAe 8 rfl⟩,(sP rfl rfl),(sP rfl rfl),(sP rfl rfl),(sI rfl),⟨_,rfl,.agg _ _ (.cons _ _ _ _ (.ptr _ _ _ rfl) (.cons _ _ _ _ (.ptr _ _ _ rfl) (.cons _ _ _ _ (.ptr _ _ _ rfl) .nil)))⟩,(sI rfl),tv⟩ ⟨⟨by decide,_,rfl,by refine zBt (b1:=3) (b2:=4) (b3:=5) (b4:=6) (c1:=3) (c2:=4) (c3:=5) (c4:=6) ?_ ?_ ?_ ?_ _ _ q an ([] : List RcX) ([] : List RcX) <;> rfl⟩,bpo rfl,bpo rfl,tv⟩ ⟨(zAd layQ (by decide) rfl),(zAd layR (by decide) rfl),(zAd layR (by decide) rfl),(zAd layR (by decide) rfl),tv⟩ (.fn _ _ _ _ _ _ _ (.cons _ _ _ _ (.ptr _ _ _ rfl) (.cons _ _ _ _ (.ptr _ _ _ rfl) .nil)) .nil .nil)) (fun f=>?_))
 refine LW.round ?_
 refine zAq tbRm2 [] 0 _ none mixed _ _ _ ?_
 refine zAp (fun (x : Nat × List RcX × Int)=>rmS2 B (numAt B 8 2) 1 q an x.2.1 ([] : List RcX) x.2.2 x.1) (fun x=>numAt B 8 2 - x.1) (fun x=>x.1<=numAt B 8 2 /\ x.2.1.length = x.1 /\ mrQ B (numAt B 4 2) ((q.map (Sum.inl (β:=RcX))++an.map (Sum.inr (α:=QuX)))++x.2.1.map .inr) x.2.2) (0,[],at') ⟨aH _,rfl,by rw [List.map_nil,aF];exact hm⟩ ?_ ?_
 ·exact zAi [0,1,2,3,4,5,6] rfl rfl rfl (fun l e=>by cases e) (by decide) (by decide) rfl rfl (zAy rfl) ⟨⟨_,rfl,zAe 8 rfl⟩,(sP rfl rfl),(sP rfl rfl),(sP rfl rfl),(sI rfl),(sP rfl rfl),⟨_,rfl,.agg _ _ (.cons _ _ _ _ (.ptr _ _ _ rfl) (.cons _ _ _ _ (.ptr _ _ _ rfl) (.cons _ _ _ _ (.ptr _ _ _ rfl) .nil)))⟩,(sI rfl),(sI rfl),(sI rfl),tv⟩ ⟨⟨by decide,_,rfl,by refine zBt (b1:=3) (b2:=4) (b3:=5) (b4:=6) (c1:=3) (c2:=4) (c3:=5) (c4:=6) ?_ ?_ ?_ ?_ _ _ q an ([] : List RcX) ([] : List RcX) <;> rfl⟩,bpo rfl,bpo rfl,tv⟩ ⟨(zAd layQ (by decide) rfl),(zAd layR (by decide) rfl),(zAd layR (by decide) rfl),(zAd layR (by decide) rfl),tv⟩ (.fn _ _ _ _ _ _ _ (.cons _ _ _ _ (.ptr _ _ _ rfl) (.cons _ _ _ _ (.ptr _ _ _ rfl) .nil)) .nil .nil)
 rintro ⟨i,ns,at'⟩ f ⟨hi,hql,hm⟩
 have hi : i<=numAt B 8 2:=hi
 have hql : ns.length = i:=hql
 have hm : mrQ B (numAt B 4 2) ((q.map (Sum.inl (β:=RcX))++an.map (Sum.inr (α:=QuX)))++ns.map .inr) at':=hm
 have hnn : numAt B 8 2 < 65536:=zKh B 8
 have hpl : ((q.map (Sum.inl (β:=RcX))++an.map (Sum.inr (α:=QuX)))).length = numAt B 4 2 + numAt B 6 2:=by simp only [aB,aT];omega
 refine zAq tbRm2 [] 0 _ none mixed _ _ _ ?_
 refine ifK (fun h1=>?_) (fun h1=>?_)
 ·have hlt : i < numAt B 8 2:=by have h1 : ((i : Nat) : Int) < ((numAt B 8 2 : Nat) : Int):=oT h1;omega
  refine eI (B,at') (aI ⟨rfl,hne,by show B.length<=_;omega⟩ ?_)
  rintro ⟨x,nx,e,p⟩ hQ
  have hQ : recQ B at' (rcT (x,nx,e,p)):=hQ
  have hpl2 : ((q.map (Sum.inl (β:=RcX))++an.map (Sum.inr (α:=QuX)))++ns.map (Sum.inr (α:=QuX))).length = numAt B 4 2 + numAt B 6 2 + i:=by rw [aB,hpl,aT,hql]
  refine ifK (fun h2=>?_) (fun h2=>?_)
  ·have he : e ≠ 0:=by have h2 : (e != 0) = true:=h2;simpa using h2
   have hb : mrBad B (numAt B 4 2) ((q.map (Sum.inl (β:=RcX))++an.map (Sum.inr (α:=QuX)))++ns.map .inr) at' e p:=.inr ⟨by rw [hpl2];omega,x,nx,hQ⟩
   have ht : ((q.map (Sum.inl (β:=RcX))++an.map (Sum.inr (α:=QuX)))++ns.map (Sum.inr (α:=QuX))).length < totB B:=by rw [hpl2];unfold totB;omega
   cases q with
   | nil =>
    cases an with
    | nil =>
     cases ns with
     | nil =>
      refine aI (by kernel_rfl) ?_
      refine aI rfl (zAj (q:=([] : List QuX)) (an:=([] : List RcX)) (ns:=([] : List RcX)) (ar:=([] : List RcX)) rfl rfl rfl rfl rfl rfl rfl rfl rfl rfl rfl (fun f=>?_))
      refine aI rfl (zAv (q:=([] : List QuX)) (an:=([] : List RcX)) (ns:=([] : List RcX)) (ar:=([] : List RcX)) rfl rfl rfl rfl rfl rfl rfl rfl rfl rfl rfl (fun f=>?_))
      refine Eq.mpr (zBf e he _ _ _ _ _ _ p _ f) ?_
      exact zAg (.fault ⟨g2,g1⟩ hm ht hb he) he
     | cons ns0 nss =>
      refine aI (by kernel_rfl) ?_
      refine aI rfl (zAj (q:=([] : List QuX)) (an:=([] : List RcX)) (ns:=(ns0 :: nss)) (ar:=([] : List RcX)) rfl rfl rfl rfl rfl rfl rfl rfl rfl rfl rfl (fun f=>?_))
      refine aI rfl (zAv (q:=([] : List QuX)) (an:=([] : List RcX)) (ns:=(ns0 :: nss)) (ar:=([] : List RcX)) rfl rfl rfl rfl rfl rfl rfl rfl rfl rfl rfl (fun f=>?_))
      refine Eq.mpr (zBf e he _ _ _ _ _ _ p _ f) ?_
      exact zAg (.fault ⟨g2,g1⟩ hm ht hb he) he
    | cons an0 ans =>
     cases ns with
     | nil =>
      refine aI (by kernel_rfl) ?_
      refine aI rfl (zAj (q:=([] : List QuX)) (an:=(an0 :: ans)) (ns:=([] : List RcX)) (ar:=([] : List RcX)) rfl rfl rfl rfl rfl rfl rfl rfl rfl rfl rfl (fun f=>?_))
      refine aI rfl (zAv (q:=([] : List QuX)) (an:=(an0 :: ans)) (ns:=([] : List RcX)) (ar:=([] : List RcX)) rfl rfl rfl rfl rfl rfl rfl rfl rfl rfl rfl (fun f=>?_))
      refine Eq.mpr (zBf e he _ _ _ _ _ _ p _ f) ?_
      exact zAg (.fault ⟨g2,g1⟩ hm ht hb he) he
     | cons ns0 nss =>
      refine aI (by kernel_rfl) ?_
      refine aI rfl (zAj (q:=([] : List QuX)) (an:=(an0 :: ans)) (ns:=(ns0 :: nss)) (ar:=([] : List RcX)) rfl rfl rfl rfl rfl rfl rfl rfl rfl rfl rfl (fun f=>?_))
      refine aI rfl (zAv (q:=([] : List QuX)) (an:=(an0 :: ans)) (ns:=(ns0 :: nss)) (ar:=([] : List RcX)) rfl rfl rfl rfl rfl rfl rfl rfl rfl rfl rfl (fun f=>?_))
      refine Eq.mpr (zBf e he _ _ _ _ _ _ p _ f) ?_
      exact zAg (.fault ⟨g2,g1⟩ hm ht hb he) he
   | cons q0 qs =>
    cases an with
    | nil =>
     cases ns with
     | nil =>
      refine aI (by kernel_rfl) ?_
      refine aI rfl (zAj (q:=(q0 :: qs)) (an:=([] : List RcX)) (ns:=([] : List RcX)) (ar:=([] : List RcX)) rfl rfl rfl rfl rfl rfl rfl rfl rfl rfl rfl (fun f=>?_))
      refine aI rfl (zAv (q:=(q0 :: qs)) (an:=([] : List RcX)) (ns:=([] : List RcX)) (ar:=([] : List RcX)) rfl rfl rfl rfl rfl rfl rfl rfl rfl rfl rfl (fun f=>?_))
      refine Eq.mpr (zBf e he _ _ _ _ _ _ p _ f) ?_
      exact zAg (.fault ⟨g2,g1⟩ hm ht hb he) he
     | cons ns0 nss =>
      refine aI (by kernel_rfl) ?_
      refine aI rfl (zAj (q:=(q0 :: qs)) (an:=([] : List RcX)) (ns:=(ns0 :: nss)) (ar:=([] : List RcX)) rfl rfl rfl rfl rfl rfl rfl rfl rfl rfl rfl (fun f=>?_))
      refine aI rfl (zAv (q:=(q0 :: qs)) (an:=([] : List RcX)) (ns:=(ns0 :: nss)) (ar:=([] : List RcX)) rfl rfl rfl rfl rfl rfl rfl rfl rfl rfl rfl (fun f=>?_))
      refine Eq.mpr (zBf e he _ _ _ _ _ _ p _ f) ?_
      exact zAg (.fault ⟨g2,g1⟩ hm ht hb he) he
    | cons an0 ans =>
     cases ns with
     | nil =>
      refine aI (by kernel_rfl) ?_
      refine aI rfl (zAj (q:=(q0 :: qs)) (an:=(an0 :: ans)) (ns:=([] : List RcX)) (ar:=([] : List RcX)) rfl rfl rfl rfl rfl rfl rfl rfl rfl rfl rfl (fun f=>?_))
      refine aI rfl (zAv (q:=(q0 :: qs)) (an:=(an0 :: ans)) (ns:=([] : List RcX)) (ar:=([] : List RcX)) rfl rfl rfl rfl rfl rfl rfl rfl rfl rfl rfl (fun f=>?_))
      refine Eq.mpr (zBf e he _ _ _ _ _ _ p _ f) ?_
      exact zAg (.fault ⟨g2,g1⟩ hm ht hb he) he
     | cons ns0 nss =>
      refine aI (by kernel_rfl) ?_
      refine aI rfl (zAj (q:=(q0 :: qs)) (an:=(an0 :: ans)) (ns:=(ns0 :: nss)) (ar:=([] : List RcX)) rfl rfl rfl rfl rfl rfl rfl rfl rfl rfl rfl (fun f=>?_))
      refine aI rfl (zAv (q:=(q0 :: qs)) (an:=(an0 :: ans)) (ns:=(ns0 :: nss)) (ar:=([] : List RcX)) rfl rfl rfl rfl rfl rfl rfl rfl rfl rfl rfl (fun f=>?_))
      refine Eq.mpr (zBf e he _ _ _ _ _ _ p _ f) ?_
      exact zAg (.fault ⟨g2,g1⟩ hm ht hb he) he
  have he : e = 0:=by have h2 : (e != 0) = false:=h2;simpa using h2
  subst he
  have hm2 : mrQ B (numAt B 4 2) ((q.map (Sum.inl (β:=RcX))++an.map (Sum.inr (α:=QuX)))++(ns++[x]).map .inr) nx:=by
   rw [List.map_append,<- aN]
   exact .r hm (by rw [hpl2];omega) hQ
  cases q with
  | nil =>
   cases an with
   | nil =>
    cases ns with
    | nil =>
     refine aI (by kernel_rfl) ?_
     refine ⟨(i + 1,[x],nx),⟨hlt,by rw [<- hql];rfl,hm2⟩,by show numAt B 8 2 - (i + 1) < numAt B 8 2 - i;omega,?_⟩
     exact zAi [0,1,2,3,4,10,6] rfl rfl rfl (fun l e=>by cases e) (by decide) (by decide) rfl rfl (zAy rfl) ⟨⟨_,rfl,zAe 8 rfl⟩,(sP rfl rfl),(sP rfl rfl),(sP rfl rfl),(sI rfl),(sP rfl rfl),⟨_,rfl,.agg _ _ (.cons _ _ _ _ (.ptr _ _ _ rfl) (.cons _ _ _ _ (.ptr _ _ _ rfl) (.cons _ _ _ _ (.ptr _ _ _ rfl) .nil)))⟩,(sI rfl),(sI rfl),zAa rfl (by rw [wrapN (by omega) (by omega)];omega),tv⟩ ⟨⟨by decide,_,rfl,by show RO _ _ (.cells [.int .i64 _,.int .i64 _,lsV 3 ([] : List QuX),lsV 4 ([] : List RcX),lsV 10 [x],lsV 6 ([] : List RcX)] _) _;refine zBt (b1:=3) (b2:=4) (b3:=10) (b4:=6) (c1:=3) (c2:=4) (c3:=5) (c4:=6) ?_ ?_ ?_ ?_ _ _ ([] : List QuX) ([] : List RcX) [x] ([] : List RcX) <;> rfl⟩,bpo rfl,bpo rfl,tv⟩ ⟨(zAd layQ (by decide) rfl),(zAd layR (by decide) rfl),(fun o ho=>⟨by decide,_,rfl,by cases ho;exact zAs rfl rfl⟩),(zAd layR (by decide) rfl),tv⟩ (.fn _ _ _ _ _ _ _ (.cons _ _ _ _ (.ptr _ _ _ rfl) (.cons _ _ _ _ (.ptr _ _ _ rfl) .nil)) .nil .nil)
    | cons y ys =>
     have hfl : (List.flatMap layR.g (y :: ys)).length = (ys.length + 1) * 5:=zAf layR.g 5 layR.len (y :: ys)
     have hyl : ys.length + 1 = i:=hql
     refine aI (by kernel_rfl) ?_
     refine aI (by rw [hszR,hbyR];simp only [bA,dT];exact ⟨⟨⟨⟨⟨⟨rfl,rfl⟩,bL (by rw [hfl];omega)⟩,rfl⟩,by omega⟩,by omega⟩,bL (by rw [hfl];show (ys.length + 1) * 5 + 1<=0 + (ys.length + 1) * 5 + 5;omega)⟩) ?_
     have ec : List.take ((ys.length + 1) * 5) (List.flatMap layR.g (y :: ys))++layR.g x = (y :: (ys++[x])).flatMap layR.g:=by rw [aD (by rw [hfl];omega),<- bC,List.flatMap_append];simp
     refine ⟨(i + 1,y :: (ys++[x]),nx),⟨hlt,by show (y :: (ys++[x])).length = _;simp;omega,hm2⟩,by show numAt B 8 2 - (i + 1) < numAt B 8 2 - i;omega,?_⟩
     exact zAi [0,1,2,3,4,10,6] rfl rfl rfl (fun l e=>by cases e) (by decide) (by decide) rfl rfl (zAy rfl) ⟨⟨_,rfl,zAe 8 rfl⟩,(sP rfl rfl),(sP rfl rfl),(sP rfl rfl),(sI rfl),(sP rfl rfl),⟨_,rfl,.agg _ _ (.cons _ _ _ _ (.ptr _ _ _ rfl) (.cons _ _ _ _ (.ptr _ _ _ rfl) (.cons _ _ _ _ (.ptr _ _ _ rfl) .nil)))⟩,(sI rfl),(sI rfl),zAa rfl (by rw [wrapN (by omega) (by omega)];omega),tv⟩ ⟨⟨by decide,_,rfl,by show RO _ _ (.cells [.int .i64 _,.int .i64 _,lsV 3 ([] : List QuX),lsV 4 ([] : List RcX),sq 10 (ys.length + 1 + 1) U,lsV 6 ([] : List RcX)] _) _;rw [zBw y ys x 10];refine zBt (b1:=3) (b2:=4) (b3:=10) (b4:=6) (c1:=3) (c2:=4) (c3:=5) (c4:=6) ?_ ?_ ?_ ?_ _ _ ([] : List QuX) ([] : List RcX) (y :: (ys++[x])) ([] : List RcX) <;> rfl⟩,bpo rfl,bpo rfl,tv⟩ ⟨(zAd layQ (by decide) rfl),(zAd layR (by decide) rfl),(fun o ho=>⟨by decide,_,rfl,by cases ho;exact zAs (by rw [<- ec];rfl) (zAb layR.g layR.plain _)⟩),(zAd layR (by decide) rfl),tv⟩ (.fn _ _ _ _ _ _ _ (.cons _ _ _ _ (.ptr _ _ _ rfl) (.cons _ _ _ _ (.ptr _ _ _ rfl) .nil)) .nil .nil)
   | cons an0 ans =>
    cases ns with
    | nil =>
     refine aI (by kernel_rfl) ?_
     refine ⟨(i + 1,[x],nx),⟨hlt,by rw [<- hql];rfl,hm2⟩,by show numAt B 8 2 - (i + 1) < numAt B 8 2 - i;omega,?_⟩
     exact zAi [0,1,2,3,4,10,6] rfl rfl rfl (fun l e=>by cases e) (by decide) (by decide) rfl rfl (zAy rfl) ⟨⟨_,rfl,zAe 8 rfl⟩,(sP rfl rfl),(sP rfl rfl),(sP rfl rfl),(sI rfl),(sP rfl rfl),⟨_,rfl,.agg _ _ (.cons _ _ _ _ (.ptr _ _ _ rfl) (.cons _ _ _ _ (.ptr _ _ _ rfl) (.cons _ _ _ _ (.ptr _ _ _ rfl) .nil)))⟩,(sI rfl),(sI rfl),zAa rfl (by rw [wrapN (by omega) (by omega)];omega),tv⟩ ⟨⟨by decide,_,rfl,by show RO _ _ (.cells [.int .i64 _,.int .i64 _,lsV 3 ([] : List QuX),lsV 4 (an0 :: ans),lsV 10 [x],lsV 6 ([] : List RcX)] _) _;refine zBt (b1:=3) (b2:=4) (b3:=10) (b4:=6) (c1:=3) (c2:=4) (c3:=5) (c4:=6) ?_ ?_ ?_ ?_ _ _ ([] : List QuX) (an0 :: ans) [x] ([] : List RcX) <;> rfl⟩,bpo rfl,bpo rfl,tv⟩ ⟨(zAd layQ (by decide) rfl),(zAd layR (by decide) rfl),(fun o ho=>⟨by decide,_,rfl,by cases ho;exact zAs rfl rfl⟩),(zAd layR (by decide) rfl),tv⟩ (.fn _ _ _ _ _ _ _ (.cons _ _ _ _ (.ptr _ _ _ rfl) (.cons _ _ _ _ (.ptr _ _ _ rfl) .nil)) .nil .nil)
    | cons y ys =>
     have hfl : (List.flatMap layR.g (y :: ys)).length = (ys.length + 1) * 5:=zAf layR.g 5 layR.len (y :: ys)
     have hyl : ys.length + 1 = i:=hql
     refine aI (by kernel_rfl) ?_
     refine aI (by rw [hszR,hbyR];simp only [bA,dT];exact ⟨⟨⟨⟨⟨⟨rfl,rfl⟩,bL (by rw [hfl];omega)⟩,rfl⟩,by omega⟩,by omega⟩,bL (by rw [hfl];show (ys.length + 1) * 5 + 1<=0 + (ys.length + 1) * 5 + 5;omega)⟩) ?_
     have ec : List.take ((ys.length + 1) * 5) (List.flatMap layR.g (y :: ys))++layR.g x = (y :: (ys++[x])).flatMap layR.g:=by rw [aD (by rw [hfl];omega),<- bC,List.flatMap_append];simp
     refine ⟨(i + 1,y :: (ys++[x]),nx),⟨hlt,by show (y :: (ys++[x])).length = _;simp;omega,hm2⟩,by show numAt B 8 2 - (i + 1) < numAt B 8 2 - i;omega,?_⟩
     exact zAi [0,1,2,3,4,10,6] rfl rfl rfl (fun l e=>by cases e) (by decide) (by decide) rfl rfl (zAy rfl) ⟨⟨_,rfl,zAe 8 rfl⟩,(sP rfl rfl),(sP rfl rfl),(sP rfl rfl),(sI rfl),(sP rfl rfl),⟨_,rfl,.agg _ _ (.cons _ _ _ _ (.ptr _ _ _ rfl) (.cons _ _ _ _ (.ptr _ _ _ rfl) (.cons _ _ _ _ (.ptr _ _ _ rfl) .nil)))⟩,(sI rfl),(sI rfl),zAa rfl (by rw [wrapN (by omega) (by omega)];omega),tv⟩ ⟨⟨by decide,_,rfl,by show RO _ _ (.cells [.int .i64 _,.int .i64 _,lsV 3 ([] : List QuX),lsV 4 (an0 :: ans),sq 10 (ys.length + 1 + 1) U,lsV 6 ([] : List RcX)] _) _;rw [zBw y ys x 10];refine zBt (b1:=3) (b2:=4) (b3:=10) (b4:=6) (c1:=3) (c2:=4) (c3:=5) (c4:=6) ?_ ?_ ?_ ?_ _ _ ([] : List QuX) (an0 :: ans) (y :: (ys++[x])) ([] : List RcX) <;> rfl⟩,bpo rfl,bpo rfl,tv⟩ ⟨(zAd layQ (by decide) rfl),(zAd layR (by decide) rfl),(fun o ho=>⟨by decide,_,rfl,by cases ho;exact zAs (by rw [<- ec];rfl) (zAb layR.g layR.plain _)⟩),(zAd layR (by decide) rfl),tv⟩ (.fn _ _ _ _ _ _ _ (.cons _ _ _ _ (.ptr _ _ _ rfl) (.cons _ _ _ _ (.ptr _ _ _ rfl) .nil)) .nil .nil)
  | cons q0 qs =>
   cases an with
   | nil =>
    cases ns with
    | nil =>
     refine aI (by kernel_rfl) ?_
     refine ⟨(i + 1,[x],nx),⟨hlt,by rw [<- hql];rfl,hm2⟩,by show numAt B 8 2 - (i + 1) < numAt B 8 2 - i;omega,?_⟩
     exact zAi [0,1,2,3,4,10,6] rfl rfl rfl (fun l e=>by cases e) (by decide) (by decide) rfl rfl (zAy rfl) ⟨⟨_,rfl,zAe 8 rfl⟩,(sP rfl rfl),(sP rfl rfl),(sP rfl rfl),(sI rfl),(sP rfl rfl),⟨_,rfl,.agg _ _ (.cons _ _ _ _ (.ptr _ _ _ rfl) (.cons _ _ _ _ (.ptr _ _ _ rfl) (.cons _ _ _ _ (.ptr _ _ _ rfl) .nil)))⟩,(sI rfl),(sI rfl),zAa rfl (by rw [wrapN (by omega) (by omega)];omega),tv⟩ ⟨⟨by decide,_,rfl,by show RO _ _ (.cells [.int .i64 _,.int .i64 _,lsV 3 (q0 :: qs),lsV 4 ([] : List RcX),lsV 10 [x],lsV 6 ([] : List RcX)] _) _;refine zBt (b1:=3) (b2:=4) (b3:=10) (b4:=6) (c1:=3) (c2:=4) (c3:=5) (c4:=6) ?_ ?_ ?_ ?_ _ _ (q0 :: qs) ([] : List RcX) [x] ([] : List RcX) <;> rfl⟩,bpo rfl,bpo rfl,tv⟩ ⟨(zAd layQ (by decide) rfl),(zAd layR (by decide) rfl),(fun o ho=>⟨by decide,_,rfl,by cases ho;exact zAs rfl rfl⟩),(zAd layR (by decide) rfl),tv⟩ (.fn _ _ _ _ _ _ _ (.cons _ _ _ _ (.ptr _ _ _ rfl) (.cons _ _ _ _ (.ptr _ _ _ rfl) .nil)) .nil .nil)
    | cons y ys =>
     have hfl : (List.flatMap layR.g (y :: ys)).length = (ys.length + 1) * 5:=zAf layR.g 5 layR.len (y :: ys)
     have hyl : ys.length + 1 = i:=hql
     refine aI (by kernel_rfl) ?_
     refine aI (by rw [hszR,hbyR];simp only [bA,dT];exact ⟨⟨⟨⟨⟨⟨rfl,rfl⟩,bL (by rw [hfl];omega)⟩,rfl⟩,by omega⟩,by omega⟩,bL (by rw [hfl];show (ys.length + 1) * 5 + 1<=0 + (ys.length + 1) * 5 + 5;omega)⟩) ?_
     have ec : List.take ((ys.length + 1) * 5) (List.flatMap layR.g (y :: ys))++layR.g x = (y :: (ys++[x])).flatMap layR.g:=by rw [aD (by rw [hfl];omega),<- bC,List.flatMap_append];simp
     refine ⟨(i + 1,y :: (ys++[x]),nx),⟨hlt,by show (y :: (ys++[x])).length = _;simp;omega,hm2⟩,by show numAt B 8 2 - (i + 1) < numAt B 8 2 - i;omega,?_⟩
     exact zAi [0,1,2,3,4,10,6] rfl rfl rfl (fun l e=>by cases e) (by decide) (by decide) rfl rfl (zAy rfl) ⟨⟨_,rfl,zAe 8 rfl⟩,(sP rfl rfl),(sP rfl rfl),(sP rfl rfl),(sI rfl),(sP rfl rfl),⟨_,rfl,.agg _ _ (.cons _ _ _ _ (.ptr _ _ _ rfl) (.cons _ _ _ _ (.ptr _ _ _ rfl) (.cons _ _ _ _ (.ptr _ _ _ rfl) .nil)))⟩,(sI rfl),(sI rfl),zAa rfl (by rw [wrapN (by omega) (by omega)];omega),tv⟩ ⟨⟨by decide,_,rfl,by show RO _ _ (.cells [.int .i64 _,.int .i64 _,lsV 3 (q0 :: qs),lsV 4 ([] : List RcX),sq 10 (ys.length + 1 + 1) U,lsV 6 ([] : List RcX)] _) _;rw [zBw y ys x 10];refine zBt (b1:=3) (b2:=4) (b3:=10) (b4:=6) (c1:=3) (c2:=4) (c3:=5) (c4:=6) ?_ ?_ ?_ ?_ _ _ (q0 :: qs) ([] : List RcX) (y :: (ys++[x])) ([] : List RcX) <;> rfl⟩,bpo rfl,bpo rfl,tv⟩ ⟨(zAd layQ (by decide) rfl),(zAd layR (by decide) rfl),(fun o ho=>⟨by decide,_,rfl,by cases ho;exact zAs (by rw [<- ec];rfl) (zAb layR.g layR.plain _)⟩),(zAd layR (by decide) rfl),tv⟩ (.fn _ _ _ _ _ _ _ (.cons _ _ _ _ (.ptr _ _ _ rfl) (.cons _ _ _ _ (.ptr _ _ _ rfl) .nil)) .nil .nil)
   | cons an0 ans =>
    cases ns with
    | nil =>
     refine aI (by kernel_rfl) ?_
     refine ⟨(i + 1,[x],nx),⟨hlt,by rw [<- hql];rfl,hm2⟩,by show numAt B 8 2 - (i + 1) < numAt B 8 2 - i;omega,?_⟩
     exact zAi [0,1,2,3,4,10,6] rfl rfl rfl (fun l e=>by cases e) (by decide) (by decide) rfl rfl (zAy rfl) ⟨⟨_,rfl,zAe 8 rfl⟩,(sP rfl rfl),(sP rfl rfl),(sP rfl rfl),(sI rfl),(sP rfl rfl),⟨_,rfl,.agg _ _ (.cons _ _ _ _ (.ptr _ _ _ rfl) (.cons _ _ _ _ (.ptr _ _ _ rfl) (.cons _ _ _ _ (.ptr _ _ _ rfl) .nil)))⟩,(sI rfl),(sI rfl),zAa rfl (by rw [wrapN (by omega) (by omega)];omega),tv⟩ ⟨⟨by decide,_,rfl,by show RO _ _ (.cells [.int .i64 _,.int .i64 _,lsV 3 (q0 :: qs),lsV 4 (an0 :: ans),lsV 10 [x],lsV 6 ([] : List RcX)] _) _;refine zBt (b1:=3) (b2:=4) (b3:=10) (b4:=6) (c1:=3) (c2:=4) (c3:=5) (c4:=6) ?_ ?_ ?_ ?_ _ _ (q0 :: qs) (an0 :: ans) [x] ([] : List RcX) <;> rfl⟩,bpo rfl,bpo rfl,tv⟩ ⟨(zAd layQ (by decide) rfl),(zAd layR (by decide) rfl),(fun o ho=>⟨by decide,_,rfl,by cases ho;exact zAs rfl rfl⟩),(zAd layR (by decide) rfl),tv⟩ (.fn _ _ _ _ _ _ _ (.cons _ _ _ _ (.ptr _ _ _ rfl) (.cons _ _ _ _ (.ptr _ _ _ rfl) .nil)) .nil .nil)
    | cons y ys =>
     have hfl : (List.flatMap layR.g (y :: ys)).length = (ys.length + 1) * 5:=zAf layR.g 5 layR.len (y :: ys)
     have hyl : ys.length + 1 = i:=hql
     refine aI (by kernel_rfl) ?_
     refine aI (by rw [hszR,hbyR];simp only [bA,dT];exact ⟨⟨⟨⟨⟨⟨rfl,rfl⟩,bL (by rw [hfl];omega)⟩,rfl⟩,by omega⟩,by omega⟩,bL (by rw [hfl];show (ys.length + 1) * 5 + 1<=0 + (ys.length + 1) * 5 + 5;omega)⟩) ?_
     have ec : List.take ((ys.length + 1) * 5) (List.flatMap layR.g (y :: ys))++layR.g x = (y :: (ys++[x])).flatMap layR.g:=by rw [aD (by rw [hfl];omega),<- bC,List.flatMap_append];simp
     refine ⟨(i + 1,y :: (ys++[x]),nx),⟨hlt,by show (y :: (ys++[x])).length = _;simp;omega,hm2⟩,by show numAt B 8 2 - (i + 1) < numAt B 8 2 - i;omega,?_⟩
     exact zAi [0,1,2,3,4,10,6] rfl rfl rfl (fun l e=>by cases e) (by decide) (by decide) rfl rfl (zAy rfl) ⟨⟨_,rfl,zAe 8 rfl⟩,(sP rfl rfl),(sP rfl rfl),(sP rfl rfl),(sI rfl),(sP rfl rfl),⟨_,rfl,.agg _ _ (.cons _ _ _ _ (.ptr _ _ _ rfl) (.cons _ _ _ _ (.ptr _ _ _ rfl) (.cons _ _ _ _ (.ptr _ _ _ rfl) .nil)))⟩,(sI rfl),(sI rfl),zAa rfl (by rw [wrapN (by omega) (by omega)];omega),tv⟩ ⟨⟨by decide,_,rfl,by show RO _ _ (.cells [.int .i64 _,.int .i64 _,lsV 3 (q0 :: qs),lsV 4 (an0 :: ans),sq 10 (ys.length + 1 + 1) U,lsV 6 ([] : List RcX)] _) _;rw [zBw y ys x 10];refine zBt (b1:=3) (b2:=4) (b3:=10) (b4:=6) (c1:=3) (c2:=4) (c3:=5) (c4:=6) ?_ ?_ ?_ ?_ _ _ (q0 :: qs) (an0 :: ans) (y :: (ys++[x])) ([] : List RcX) <;> rfl⟩,bpo rfl,bpo rfl,tv⟩ ⟨(zAd layQ (by decide) rfl),(zAd layR (by decide) rfl),(fun o ho=>⟨by decide,_,rfl,by cases ho;exact zAs (by rw [<- ec];rfl) (zAb layR.g layR.plain _)⟩),(zAd layR (by decide) rfl),tv⟩ (.fn _ _ _ _ _ _ _ (.cons _ _ _ _ (.ptr _ _ _ rfl) (.cons _ _ _ _ (.ptr _ _ _ rfl) .nil)) .nil .nil)
 have hiq : i = numAt B 8 2:=by have h1 : ¬ ((i : Nat) : Int) < ((numAt B 8 2 : Nat) : Int):=oF h1;omega
 subst hiq
 have hlns : ns.length = numAt B 8 2:=hql
 refine aI rfl (zAh (zAi [0,1,2,3,4,5,6] rfl rfl rfl (fun l e=>by cases e) (by decide) (by decide) rfl rfl (zAy rfl) (d:=7) (d2:=3) (lv:=[(0,trB B),(2,pt 0),(3,pt 1),(4,pt 2),(5,.int .i64 at'),(73,.agg #[.pointer (some ⟨0,3,none⟩),.pointer (some ⟨0,4,none⟩),.pointer (some ⟨0,5,none⟩)]),(74,.int .i64 1)]) (bs:=[(0,.cells [.int .i64 (numAt B 0 2 : Nat),.int .i64 (numAt B 2 2 : Nat),lsV 3 q,lsV 4 an,lsV 5 ns,lsV 6 ([] : List RcX)] 25),(1,.cells [.int .i64 0,.int .i64 0] 53),(2,.cells [.int .i64 (numAt B 0 2 : Nat),.int .i64 (numAt B 2 2 : Nat),.int .i64 (numAt B 4 2 : Nat),.int .i64 (numAt B 6 2 : Nat),.int .i64 (numAt B 8 2 : Nat),.int .i64 (numAt B 10 2 : Nat)] 87)]) (bo:=[(3,lsO layQ q),(4,lsO layR an),(5,lsO layR ns),(6,lsO layR ([] : List RcX))]) (W:=[]) (m:=7) (df:=[.call 55 [pt 1,pt 0] []]) ⟨⟨_,rfl,zAe 8 rfl⟩,(sP rfl rfl),(sP rfl rfl),(sP rfl rfl),(sI rfl),⟨_,rfl,.agg _ _ (.cons _ _ _ _ (.ptr _ _ _ rfl) (.cons _ _ _ _ (.ptr _ _ _ rfl) (.cons _ _ _ _ (.ptr _ _ _ rfl) .nil)))⟩,(sI rfl),tv⟩ ⟨⟨by decide,_,rfl,by refine zBt (b1:=3) (b2:=4) (b3:=5) (b4:=6) (c1:=3) (c2:=4) (c3:=5) (c4:=6) ?_ ?_ ?_ ?_ _ _ q an ns ([] : List RcX) <;> rfl⟩,bpo rfl,bpo rfl,tv⟩ ⟨(zAd layQ (by decide) rfl),(zAd layR (by decide) rfl),(zAd layR (by decide) rfl),(zAd layR (by decide) rfl),tv⟩ (.fn _ _ _ _ _ _ _ (.cons _ _ _ _ (.ptr _ _ _ rfl) (.cons _ _ _ _ (.ptr _ _ _ rfl) .nil)) .nil .nil)) (fun f=>?_))
 refine LW.round ?_
 refine zAq tbRm2 [] 0 _ none mixed _ _ _ ?_
 refine zAp (fun (x : Nat × List RcX × Int)=>rmS2 B (numAt B 10 2) 2 q an ns x.2.1 x.2.2 x.1) (fun x=>numAt B 10 2 - x.1) (fun x=>x.1<=numAt B 10 2 /\ x.2.1.length = x.1 /\ mrQ B (numAt B 4 2) (((q.map (Sum.inl (β:=RcX))++an.map (Sum.inr (α:=QuX)))++ns.map (Sum.inr (α:=QuX)))++x.2.1.map .inr) x.2.2) (0,[],at') ⟨aH _,rfl,by rw [List.map_nil,aF];exact hm⟩ ?_ ?_
 ·exact zAi [0,1,2,3,4,5,6] rfl rfl rfl (fun l e=>by cases e) (by decide) (by decide) rfl rfl (zAy rfl) ⟨⟨_,rfl,zAe 8 rfl⟩,(sP rfl rfl),(sP rfl rfl),(sP rfl rfl),(sI rfl),(sP rfl rfl),⟨_,rfl,.agg _ _ (.cons _ _ _ _ (.ptr _ _ _ rfl) (.cons _ _ _ _ (.ptr _ _ _ rfl) (.cons _ _ _ _ (.ptr _ _ _ rfl) .nil)))⟩,(sI rfl),(sI rfl),(sI rfl),tv⟩ ⟨⟨by decide,_,rfl,by refine zBt (b1:=3) (b2:=4) (b3:=5) (b4:=6) (c1:=3) (c2:=4) (c3:=5) (c4:=6) ?_ ?_ ?_ ?_ _ _ q an ns ([] : List RcX) <;> rfl⟩,bpo rfl,bpo rfl,tv⟩ ⟨(zAd layQ (by decide) rfl),(zAd layR (by decide) rfl),(zAd layR (by decide) rfl),(zAd layR (by decide) rfl),tv⟩ (.fn _ _ _ _ _ _ _ (.cons _ _ _ _ (.ptr _ _ _ rfl) (.cons _ _ _ _ (.ptr _ _ _ rfl) .nil)) .nil .nil)
 rintro ⟨i,ar,at'⟩ f ⟨hi,hql,hm⟩
 have hi : i<=numAt B 10 2:=hi
 have hql : ar.length = i:=hql
 have hm : mrQ B (numAt B 4 2) (((q.map (Sum.inl (β:=RcX))++an.map (Sum.inr (α:=QuX)))++ns.map (Sum.inr (α:=QuX)))++ar.map .inr) at':=hm
 have hnn : numAt B 10 2 < 65536:=zKh B 10
 have hpl : (((q.map (Sum.inl (β:=RcX))++an.map (Sum.inr (α:=QuX)))++ns.map (Sum.inr (α:=QuX)))).length = numAt B 4 2 + numAt B 6 2 + numAt B 8 2:=by simp only [aB,aT];omega
 refine zAq tbRm2 [] 0 _ none mixed _ _ _ ?_
 refine ifK (fun h1=>?_) (fun h1=>?_)
 ·have hlt : i < numAt B 10 2:=by have h1 : ((i : Nat) : Int) < ((numAt B 10 2 : Nat) : Int):=oT h1;omega
  refine eI (B,at') (aI ⟨rfl,hne,by show B.length<=_;omega⟩ ?_)
  rintro ⟨x,nx,e,p⟩ hQ
  have hQ : recQ B at' (rcT (x,nx,e,p)):=hQ
  have hpl2 : (((q.map (Sum.inl (β:=RcX))++an.map (Sum.inr (α:=QuX)))++ns.map (Sum.inr (α:=QuX)))++ar.map (Sum.inr (α:=QuX))).length = numAt B 4 2 + numAt B 6 2 + numAt B 8 2 + i:=by rw [aB,hpl,aT,hql]
  refine ifK (fun h2=>?_) (fun h2=>?_)
  ·have he : e ≠ 0:=by have h2 : (e != 0) = true:=h2;simpa using h2
   have hb : mrBad B (numAt B 4 2) (((q.map (Sum.inl (β:=RcX))++an.map (Sum.inr (α:=QuX)))++ns.map (Sum.inr (α:=QuX)))++ar.map .inr) at' e p:=.inr ⟨by rw [hpl2];omega,x,nx,hQ⟩
   have ht : (((q.map (Sum.inl (β:=RcX))++an.map (Sum.inr (α:=QuX)))++ns.map (Sum.inr (α:=QuX)))++ar.map (Sum.inr (α:=QuX))).length < totB B:=by rw [hpl2];unfold totB;omega
   cases q with
   | nil =>
    cases an with
    | nil =>
     cases ns with
     | nil =>
      cases ar with
      | nil =>
       refine aI (by kernel_rfl) ?_
       refine aI rfl (zAj (q:=([] : List QuX)) (an:=([] : List RcX)) (ns:=([] : List RcX)) (ar:=([] : List RcX)) rfl rfl rfl rfl rfl rfl rfl rfl rfl rfl rfl (fun f=>?_))
       refine aI rfl (zAv (q:=([] : List QuX)) (an:=([] : List RcX)) (ns:=([] : List RcX)) (ar:=([] : List RcX)) rfl rfl rfl rfl rfl rfl rfl rfl rfl rfl rfl (fun f=>?_))
       refine Eq.mpr (zBf e he _ _ _ _ _ _ p _ f) ?_
       exact zAg (.fault ⟨g2,g1⟩ hm ht hb he) he
      | cons ar0 ars =>
       refine aI (by kernel_rfl) ?_
       refine aI rfl (zAj (q:=([] : List QuX)) (an:=([] : List RcX)) (ns:=([] : List RcX)) (ar:=(ar0 :: ars)) rfl rfl rfl rfl rfl rfl rfl rfl rfl rfl rfl (fun f=>?_))
       refine aI rfl (zAv (q:=([] : List QuX)) (an:=([] : List RcX)) (ns:=([] : List RcX)) (ar:=(ar0 :: ars)) rfl rfl rfl rfl rfl rfl rfl rfl rfl rfl rfl (fun f=>?_))
       refine Eq.mpr (zBf e he _ _ _ _ _ _ p _ f) ?_
       exact zAg (.fault ⟨g2,g1⟩ hm ht hb he) he
     | cons ns0 nss =>
      cases ar with
      | nil =>
       refine aI (by kernel_rfl) ?_
       refine aI rfl (zAj (q:=([] : List QuX)) (an:=([] : List RcX)) (ns:=(ns0 :: nss)) (ar:=([] : List RcX)) rfl rfl rfl rfl rfl rfl rfl rfl rfl rfl rfl (fun f=>?_))
       refine aI rfl (zAv (q:=([] : List QuX)) (an:=([] : List RcX)) (ns:=(ns0 :: nss)) (ar:=([] : List RcX)) rfl rfl rfl rfl rfl rfl rfl rfl rfl rfl rfl (fun f=>?_))
       refine Eq.mpr (zBf e he _ _ _ _ _ _ p _ f) ?_
       exact zAg (.fault ⟨g2,g1⟩ hm ht hb he) he
      | cons ar0 ars =>
       refine aI (by kernel_rfl) ?_
       refine aI rfl (zAj (q:=([] : List QuX)) (an:=([] : List RcX)) (ns:=(ns0 :: nss)) (ar:=(ar0 :: ars)) rfl rfl rfl rfl rfl rfl rfl rfl rfl rfl rfl (fun f=>?_))
       refine aI rfl (zAv (q:=([] : List QuX)) (an:=([] : List RcX)) (ns:=(ns0 :: nss)) (ar:=(ar0 :: ars)) rfl rfl rfl rfl rfl rfl rfl rfl rfl rfl rfl (fun f=>?_))
       refine Eq.mpr (zBf e he _ _ _ _ _ _ p _ f) ?_
       exact zAg (.fault ⟨g2,g1⟩ hm ht hb he) he
    | cons an0 ans =>
     cases ns with
     | nil =>
      cases ar with
      | nil =>
       refine aI (by kernel_rfl) ?_
       refine aI rfl (zAj (q:=([] : List QuX)) (an:=(an0 :: ans)) (ns:=([] : List RcX)) (ar:=([] : List RcX)) rfl rfl rfl rfl rfl rfl rfl rfl rfl rfl rfl (fun f=>?_))
       refine aI rfl (zAv (q:=([] : List QuX)) (an:=(an0 :: ans)) (ns:=([] : List RcX)) (ar:=([] : List RcX)) rfl rfl rfl rfl rfl rfl rfl rfl rfl rfl rfl (fun f=>?_))
       refine Eq.mpr (zBf e he _ _ _ _ _ _ p _ f) ?_
       exact zAg (.fault ⟨g2,g1⟩ hm ht hb he) he
      | cons ar0 ars =>
       refine aI (by kernel_rfl) ?_
       refine aI rfl (zAj (q:=([] : List QuX)) (an:=(an0 :: ans)) (ns:=([] : List RcX)) (ar:=(ar0 :: ars)) rfl rfl rfl rfl rfl rfl rfl rfl rfl rfl rfl (fun f=>?_))
       refine aI rfl (zAv (q:=([] : List QuX)) (an:=(an0 :: ans)) (ns:=([] : List RcX)) (ar:=(ar0 :: ars)) rfl rfl rfl rfl rfl rfl rfl rfl rfl rfl rfl (fun f=>?_))
       refine Eq.mpr (zBf e he _ _ _ _ _ _ p _ f) ?_
       exact zAg (.fault ⟨g2,g1⟩ hm ht hb he) he
     | cons ns0 nss =>
      cases ar with
      | nil =>
       refine aI (by kernel_rfl) ?_
       refine aI rfl (zAj (q:=([] : List QuX)) (an:=(an0 :: ans)) (ns:=(ns0 :: nss)) (ar:=([] : List RcX)) rfl rfl rfl rfl rfl rfl rfl rfl rfl rfl rfl (fun f=>?_))
       refine aI rfl (zAv (q:=([] : List QuX)) (an:=(an0 :: ans)) (ns:=(ns0 :: nss)) (ar:=([] : List RcX)) rfl rfl rfl rfl rfl rfl rfl rfl rfl rfl rfl (fun f=>?_))
       refine Eq.mpr (zBf e he _ _ _ _ _ _ p _ f) ?_
       exact zAg (.fault ⟨g2,g1⟩ hm ht hb he) he
      | cons ar0 ars =>
       refine aI (by kernel_rfl) ?_
       refine aI rfl (zAj (q:=([] : List QuX)) (an:=(an0 :: ans)) (ns:=(ns0 :: nss)) (ar:=(ar0 :: ars)) rfl rfl rfl rfl rfl rfl rfl rfl rfl rfl rfl (fun f=>?_))
       refine aI rfl (zAv (q:=([] : List QuX)) (an:=(an0 :: ans)) (ns:=(ns0 :: nss)) (ar:=(ar0 :: ars)) rfl rfl rfl rfl rfl rfl rfl rfl rfl rfl rfl (fun f=>?_))
       refine Eq.mpr (zBf e he _ _ _ _ _ _ p _ f) ?_
       exact zAg (.fault ⟨g2,g1⟩ hm ht hb he) he
   | cons q0 qs =>
    cases an with
    | nil =>
     cases ns with
     | nil =>
      cases ar with
      | nil =>
       refine aI (by kernel_rfl) ?_
       refine aI rfl (zAj (q:=(q0 :: qs)) (an:=([] : List RcX)) (ns:=([] : List RcX)) (ar:=([] : List RcX)) rfl rfl rfl rfl rfl rfl rfl rfl rfl rfl rfl (fun f=>?_))
       refine aI rfl (zAv (q:=(q0 :: qs)) (an:=([] : List RcX)) (ns:=([] : List RcX)) (ar:=([] : List RcX)) rfl rfl rfl rfl rfl rfl rfl rfl rfl rfl rfl (fun f=>?_))
       refine Eq.mpr (zBf e he _ _ _ _ _ _ p _ f) ?_
       exact zAg (.fault ⟨g2,g1⟩ hm ht hb he) he
      | cons ar0 ars =>
       refine aI (by kernel_rfl) ?_
       refine aI rfl (zAj (q:=(q0 :: qs)) (an:=([] : List RcX)) (ns:=([] : List RcX)) (ar:=(ar0 :: ars)) rfl rfl rfl rfl rfl rfl rfl rfl rfl rfl rfl (fun f=>?_))
       refine aI rfl (zAv (q:=(q0 :: qs)) (an:=([] : List RcX)) (ns:=([] : List RcX)) (ar:=(ar0 :: ars)) rfl rfl rfl rfl rfl rfl rfl rfl rfl rfl rfl (fun f=>?_))
       refine Eq.mpr (zBf e he _ _ _ _ _ _ p _ f) ?_
       exact zAg (.fault ⟨g2,g1⟩ hm ht hb he) he
     | cons ns0 nss =>
      cases ar with
      | nil =>
       refine aI (by kernel_rfl) ?_
       refine aI rfl (zAj (q:=(q0 :: qs)) (an:=([] : List RcX)) (ns:=(ns0 :: nss)) (ar:=([] : List RcX)) rfl rfl rfl rfl rfl rfl rfl rfl rfl rfl rfl (fun f=>?_))
       refine aI rfl (zAv (q:=(q0 :: qs)) (an:=([] : List RcX)) (ns:=(ns0 :: nss)) (ar:=([] : List RcX)) rfl rfl rfl rfl rfl rfl rfl rfl rfl rfl rfl (fun f=>?_))
       refine Eq.mpr (zBf e he _ _ _ _ _ _ p _ f) ?_
       exact zAg (.fault ⟨g2,g1⟩ hm ht hb he) he
      | cons ar0 ars =>
       refine aI (by kernel_rfl) ?_
       refine aI rfl (zAj (q:=(q0 :: qs)) (an:=([] : List RcX)) (ns:=(ns0 :: nss)) (ar:=(ar0 :: ars)) rfl rfl rfl rfl rfl rfl rfl rfl rfl rfl rfl (fun f=>?_))
       refine aI rfl (zAv (q:=(q0 :: qs)) (an:=([] : List RcX)) (ns:=(ns0 :: nss)) (ar:=(ar0 :: ars)) rfl rfl rfl rfl rfl rfl rfl rfl rfl rfl rfl (fun f=>?_))
       refine Eq.mpr (zBf e he _ _ _ _ _ _ p _ f) ?_
       exact zAg (.fault ⟨g2,g1⟩ hm ht hb he) he
    | cons an0 ans =>
     cases ns with
     | nil =>
      cases ar with
      | nil =>
       refine aI (by kernel_rfl) ?_
       refine aI rfl (zAj (q:=(q0 :: qs)) (an:=(an0 :: ans)) (ns:=([] : List RcX)) (ar:=([] : List RcX)) rfl rfl rfl rfl rfl rfl rfl rfl rfl rfl rfl (fun f=>?_))
       refine aI rfl (zAv (q:=(q0 :: qs)) (an:=(an0 :: ans)) (ns:=([] : List RcX)) (ar:=([] : List RcX)) rfl rfl rfl rfl rfl rfl rfl rfl rfl rfl rfl (fun f=>?_))
       refine Eq.mpr (zBf e he _ _ _ _ _ _ p _ f) ?_
       exact zAg (.fault ⟨g2,g1⟩ hm ht hb he) he
      | cons ar0 ars =>
       refine aI (by kernel_rfl) ?_
       refine aI rfl (zAj (q:=(q0 :: qs)) (an:=(an0 :: ans)) (ns:=([] : List RcX)) (ar:=(ar0 :: ars)) rfl rfl rfl rfl rfl rfl rfl rfl rfl rfl rfl (fun f=>?_))
       refine aI rfl (zAv (q:=(q0 :: qs)) (an:=(an0 :: ans)) (ns:=([] : List RcX)) (ar:=(ar0 :: ars)) rfl rfl rfl rfl rfl rfl rfl rfl rfl rfl rfl (fun f=>?_))
       refine Eq.mpr (zBf e he _ _ _ _ _ _ p _ f) ?_
       exact zAg (.fault ⟨g2,g1⟩ hm ht hb he) he
     | cons ns0 nss =>
      cases ar with
      | nil =>
       refine aI (by kernel_rfl) ?_
       refine aI rfl (zAj (q:=(q0 :: qs)) (an:=(an0 :: ans)) (ns:=(ns0 :: nss)) (ar:=([] : List RcX)) rfl rfl rfl rfl rfl rfl rfl rfl rfl rfl rfl (fun f=>?_))
       refine aI rfl (zAv (q:=(q0 :: qs)) (an:=(an0 :: ans)) (ns:=(ns0 :: nss)) (ar:=([] : List RcX)) rfl rfl rfl rfl rfl rfl rfl rfl rfl rfl rfl (fun f=>?_))
       refine Eq.mpr (zBf e he _ _ _ _ _ _ p _ f) ?_
       exact zAg (.fault ⟨g2,g1⟩ hm ht hb he) he
      | cons ar0 ars =>
       refine aI (by kernel_rfl) ?_
       refine aI rfl (zAj (q:=(q0 :: qs)) (an:=(an0 :: ans)) (ns:=(ns0 :: nss)) (ar:=(ar0 :: ars)) rfl rfl rfl rfl rfl rfl rfl rfl rfl rfl rfl (fun f=>?_))
       refine aI rfl (zAv (q:=(q0 :: qs)) (an:=(an0 :: ans)) (ns:=(ns0 :: nss)) (ar:=(ar0 :: ars)) rfl rfl rfl rfl rfl rfl rfl rfl rfl rfl rfl (fun f=>?_))
       refine Eq.mpr (zBf e he _ _ _ _ _ _ p _ f) ?_
       exact zAg (.fault ⟨g2,g1⟩ hm ht hb he) he
  have he : e = 0:=by have h2 : (e != 0) = false:=h2;simpa using h2
  subst he
  have hm2 : mrQ B (numAt B 4 2) (((q.map (Sum.inl (β:=RcX))++an.map (Sum.inr (α:=QuX)))++ns.map (Sum.inr (α:=QuX)))++(ar++[x]).map .inr) nx:=by
   rw [List.map_append,<- aN]
   exact .r hm (by rw [hpl2];omega) hQ
  cases q with
  | nil =>
   cases an with
   | nil =>
    cases ns with
    | nil =>
     cases ar with
     | nil =>
      refine aI (by kernel_rfl) ?_
      refine ⟨(i + 1,[x],nx),⟨hlt,by rw [<- hql];rfl,hm2⟩,by show numAt B 10 2 - (i + 1) < numAt B 10 2 - i;omega,?_⟩
      exact zAi [0,1,2,3,4,5,10] rfl rfl rfl (fun l e=>by cases e) (by decide) (by decide) rfl rfl (zAy rfl) ⟨⟨_,rfl,zAe 8 rfl⟩,(sP rfl rfl),(sP rfl rfl),(sP rfl rfl),(sI rfl),(sP rfl rfl),⟨_,rfl,.agg _ _ (.cons _ _ _ _ (.ptr _ _ _ rfl) (.cons _ _ _ _ (.ptr _ _ _ rfl) (.cons _ _ _ _ (.ptr _ _ _ rfl) .nil)))⟩,(sI rfl),(sI rfl),zAa rfl (by rw [wrapN (by omega) (by omega)];omega),tv⟩ ⟨⟨by decide,_,rfl,by show RO _ _ (.cells [.int .i64 _,.int .i64 _,lsV 3 ([] : List QuX),lsV 4 ([] : List RcX),lsV 5 ([] : List RcX),lsV 10 [x]] _) _;refine zBt (b1:=3) (b2:=4) (b3:=5) (b4:=10) (c1:=3) (c2:=4) (c3:=5) (c4:=6) ?_ ?_ ?_ ?_ _ _ ([] : List QuX) ([] : List RcX) ([] : List RcX) [x] <;> rfl⟩,bpo rfl,bpo rfl,tv⟩ ⟨(zAd layQ (by decide) rfl),(zAd layR (by decide) rfl),(zAd layR (by decide) rfl),(fun o ho=>⟨by decide,_,rfl,by cases ho;exact zAs rfl rfl⟩),tv⟩ (.fn _ _ _ _ _ _ _ (.cons _ _ _ _ (.ptr _ _ _ rfl) (.cons _ _ _ _ (.ptr _ _ _ rfl) .nil)) .nil .nil)
     | cons y ys =>
      have hfl : (List.flatMap layR.g (y :: ys)).length = (ys.length + 1) * 5:=zAf layR.g 5 layR.len (y :: ys)
      have hyl : ys.length + 1 = i:=hql
      refine aI (by kernel_rfl) ?_
      refine aI (by rw [hszR,hbyR];simp only [bA,dT];exact ⟨⟨⟨⟨⟨⟨rfl,rfl⟩,bL (by rw [hfl];omega)⟩,rfl⟩,by omega⟩,by omega⟩,bL (by rw [hfl];show (ys.length + 1) * 5 + 1<=0 + (ys.length + 1) * 5 + 5;omega)⟩) ?_
      have ec : List.take ((ys.length + 1) * 5) (List.flatMap layR.g (y :: ys))++layR.g x = (y :: (ys++[x])).flatMap layR.g:=by rw [aD (by rw [hfl];omega),<- bC,List.flatMap_append];simp
      refine ⟨(i + 1,y :: (ys++[x]),nx),⟨hlt,by show (y :: (ys++[x])).length = _;simp;omega,hm2⟩,by show numAt B 10 2 - (i + 1) < numAt B 10 2 - i;omega,?_⟩
      exact zAi [0,1,2,3,4,5,10] rfl rfl rfl (fun l e=>by cases e) (by decide) (by decide) rfl rfl (zAy rfl) ⟨⟨_,rfl,zAe 8 rfl⟩,(sP rfl rfl),(sP rfl rfl),(sP rfl rfl),(sI rfl),(sP rfl rfl),⟨_,rfl,.agg _ _ (.cons _ _ _ _ (.ptr _ _ _ rfl) (.cons _ _ _ _ (.ptr _ _ _ rfl) (.cons _ _ _ _ (.ptr _ _ _ rfl) .nil)))⟩,(sI rfl),(sI rfl),zAa rfl (by rw [wrapN (by omega) (by omega)];omega),tv⟩ ⟨⟨by decide,_,rfl,by show RO _ _ (.cells [.int .i64 _,.int .i64 _,lsV 3 ([] : List QuX),lsV 4 ([] : List RcX),lsV 5 ([] : List RcX),sq 10 (ys.length + 1 + 1) U] _) _;rw [zBw y ys x 10];refine zBt (b1:=3) (b2:=4) (b3:=5) (b4:=10) (c1:=3) (c2:=4) (c3:=5) (c4:=6) ?_ ?_ ?_ ?_ _ _ ([] : List QuX) ([] : List RcX) ([] : List RcX) (y :: (ys++[x])) <;> rfl⟩,bpo rfl,bpo rfl,tv⟩ ⟨(zAd layQ (by decide) rfl),(zAd layR (by decide) rfl),(zAd layR (by decide) rfl),(fun o ho=>⟨by decide,_,rfl,by cases ho;exact zAs (by rw [<- ec];rfl) (zAb layR.g layR.plain _)⟩),tv⟩ (.fn _ _ _ _ _ _ _ (.cons _ _ _ _ (.ptr _ _ _ rfl) (.cons _ _ _ _ (.ptr _ _ _ rfl) .nil)) .nil .nil)
    | cons ns0 nss =>
     cases ar with
     | nil =>
      refine aI (by kernel_rfl) ?_
      refine ⟨(i + 1,[x],nx),⟨hlt,by rw [<- hql];rfl,hm2⟩,by show numAt B 10 2 - (i + 1) < numAt B 10 2 - i;omega,?_⟩
      exact zAi [0,1,2,3,4,5,10] rfl rfl rfl (fun l e=>by cases e) (by decide) (by decide) rfl rfl (zAy rfl) ⟨⟨_,rfl,zAe 8 rfl⟩,(sP rfl rfl),(sP rfl rfl),(sP rfl rfl),(sI rfl),(sP rfl rfl),⟨_,rfl,.agg _ _ (.cons _ _ _ _ (.ptr _ _ _ rfl) (.cons _ _ _ _ (.ptr _ _ _ rfl) (.cons _ _ _ _ (.ptr _ _ _ rfl) .nil)))⟩,(sI rfl),(sI rfl),zAa rfl (by rw [wrapN (by omega) (by omega)];omega),tv⟩ ⟨⟨by decide,_,rfl,by show RO _ _ (.cells [.int .i64 _,.int .i64 _,lsV 3 ([] : List QuX),lsV 4 ([] : List RcX),lsV 5 (ns0 :: nss),lsV 10 [x]] _) _;refine zBt (b1:=3) (b2:=4) (b3:=5) (b4:=10) (c1:=3) (c2:=4) (c3:=5) (c4:=6) ?_ ?_ ?_ ?_ _ _ ([] : List QuX) ([] : List RcX) (ns0 :: nss) [x] <;> rfl⟩,bpo rfl,bpo rfl,tv⟩ ⟨(zAd layQ (by decide) rfl),(zAd layR (by decide) rfl),(zAd layR (by decide) rfl),(fun o ho=>⟨by decide,_,rfl,by cases ho;exact zAs rfl rfl⟩),tv⟩ (.fn _ _ _ _ _ _ _ (.cons _ _ _ _ (.ptr _ _ _ rfl) (.cons _ _ _ _ (.ptr _ _ _ rfl) .nil)) .nil .nil)
     | cons y ys =>
      have hfl : (List.flatMap layR.g (y :: ys)).length = (ys.length + 1) * 5:=zAf layR.g 5 layR.len (y :: ys)
      have hyl : ys.length + 1 = i:=hql
      refine aI (by kernel_rfl) ?_
      refine aI (by rw [hszR,hbyR];simp only [bA,dT];exact ⟨⟨⟨⟨⟨⟨rfl,rfl⟩,bL (by rw [hfl];omega)⟩,rfl⟩,by omega⟩,by omega⟩,bL (by rw [hfl];show (ys.length + 1) * 5 + 1<=0 + (ys.length + 1) * 5 + 5;omega)⟩) ?_
      have ec : List.take ((ys.length + 1) * 5) (List.flatMap layR.g (y :: ys))++layR.g x = (y :: (ys++[x])).flatMap layR.g:=by rw [aD (by rw [hfl];omega),<- bC,List.flatMap_append];simp
      refine ⟨(i + 1,y :: (ys++[x]),nx),⟨hlt,by show (y :: (ys++[x])).length = _;simp;omega,hm2⟩,by show numAt B 10 2 - (i + 1) < numAt B 10 2 - i;omega,?_⟩
      exact zAi [0,1,2,3,4,5,10] rfl rfl rfl (fun l e=>by cases e) (by decide) (by decide) rfl rfl (zAy rfl) ⟨⟨_,rfl,zAe 8 rfl⟩,(sP rfl rfl),(sP rfl rfl),(sP rfl rfl),(sI rfl),(sP rfl rfl),⟨_,rfl,.agg _ _ (.cons _ _ _ _ (.ptr _ _ _ rfl) (.cons _ _ _ _ (.ptr _ _ _ rfl) (.cons _ _ _ _ (.ptr _ _ _ rfl) .nil)))⟩,(sI rfl),(sI rfl),zAa rfl (by rw [wrapN (by omega) (by omega)];omega),tv⟩ ⟨⟨by decide,_,rfl,by show RO _ _ (.cells [.int .i64 _,.int .i64 _,lsV 3 ([] : List QuX),lsV 4 ([] : List RcX),lsV 5 (ns0 :: nss),sq 10 (ys.length + 1 + 1) U] _) _;rw [zBw y ys x 10];refine zBt (b1:=3) (b2:=4) (b3:=5) (b4:=10) (c1:=3) (c2:=4) (c3:=5) (c4:=6) ?_ ?_ ?_ ?_ _ _ ([] : List QuX) ([] : List RcX) (ns0 :: nss) (y :: (ys++[x])) <;> rfl⟩,bpo rfl,bpo rfl,tv⟩ ⟨(zAd layQ (by decide) rfl),(zAd layR (by decide) rfl),(zAd layR (by decide) rfl),(fun o ho=>⟨by decide,_,rfl,by cases ho;exact zAs (by rw [<- ec];rfl) (zAb layR.g layR.plain _)⟩),tv⟩ (.fn _ _ _ _ _ _ _ (.cons _ _ _ _ (.ptr _ _ _ rfl) (.cons _ _ _ _ (.ptr _ _ _ rfl) .nil)) .nil .nil)
   | cons an0 ans =>
    cases ns with
    | nil =>
     cases ar with
     | nil =>
      refine aI (by kernel_rfl) ?_
      refine ⟨(i + 1,[x],nx),⟨hlt,by rw [<- hql];rfl,hm2⟩,by show numAt B 10 2 - (i + 1) < numAt B 10 2 - i;omega,?_⟩
      exact zAi [0,1,2,3,4,5,10] rfl rfl rfl (fun l e=>by cases e) (by decide) (by decide) rfl rfl (zAy rfl) ⟨⟨_,rfl,zAe 8 rfl⟩,(sP rfl rfl),(sP rfl rfl),(sP rfl rfl),(sI rfl),(sP rfl rfl),⟨_,rfl,.agg _ _ (.cons _ _ _ _ (.ptr _ _ _ rfl) (.cons _ _ _ _ (.ptr _ _ _ rfl) (.cons _ _ _ _ (.ptr _ _ _ rfl) .nil)))⟩,(sI rfl),(sI rfl),zAa rfl (by rw [wrapN (by omega) (by omega)];omega),tv⟩ ⟨⟨by decide,_,rfl,by show RO _ _ (.cells [.int .i64 _,.int .i64 _,lsV 3 ([] : List QuX),lsV 4 (an0 :: ans),lsV 5 ([] : List RcX),lsV 10 [x]] _) _;refine zBt (b1:=3) (b2:=4) (b3:=5) (b4:=10) (c1:=3) (c2:=4) (c3:=5) (c4:=6) ?_ ?_ ?_ ?_ _ _ ([] : List QuX) (an0 :: ans) ([] : List RcX) [x] <;> rfl⟩,bpo rfl,bpo rfl,tv⟩ ⟨(zAd layQ (by decide) rfl),(zAd layR (by decide) rfl),(zAd layR (by decide) rfl),(fun o ho=>⟨by decide,_,rfl,by cases ho;exact zAs rfl rfl⟩),tv⟩ (.fn _ _ _ _ _ _ _ (.cons _ _ _ _ (.ptr _ _ _ rfl) (.cons _ _ _ _ (.ptr _ _ _ rfl) .nil)) .nil .nil)
     | cons y ys =>
      have hfl : (List.flatMap layR.g (y :: ys)).length = (ys.length + 1) * 5:=zAf layR.g 5 layR.len (y :: ys)
      have hyl : ys.length + 1 = i:=hql
      refine aI (by kernel_rfl) ?_
      refine aI (by rw [hszR,hbyR];simp only [bA,dT];exact ⟨⟨⟨⟨⟨⟨rfl,rfl⟩,bL (by rw [hfl];omega)⟩,rfl⟩,by omega⟩,by omega⟩,bL (by rw [hfl];show (ys.length + 1) * 5 + 1<=0 + (ys.length + 1) * 5 + 5;omega)⟩) ?_
      have ec : List.take ((ys.length + 1) * 5) (List.flatMap layR.g (y :: ys))++layR.g x = (y :: (ys++[x])).flatMap layR.g:=by rw [aD (by rw [hfl];omega),<- bC,List.flatMap_append];simp
      refine ⟨(i + 1,y :: (ys++[x]),nx),⟨hlt,by show (y :: (ys++[x])).length = _;simp;omega,hm2⟩,by show numAt B 10 2 - (i + 1) < numAt B 10 2 - i;omega,?_⟩
      exact zAi [0,1,2,3,4,5,10] rfl rfl rfl (fun l e=>by cases e) (by decide) (by decide) rfl rfl (zAy rfl) ⟨⟨_,rfl,zAe 8 rfl⟩,(sP rfl rfl),(sP rfl rfl),(sP rfl rfl),(sI rfl),(sP rfl rfl),⟨_,rfl,.agg _ _ (.cons _ _ _ _ (.ptr _ _ _ rfl) (.cons _ _ _ _ (.ptr _ _ _ rfl) (.cons _ _ _ _ (.ptr _ _ _ rfl) .nil)))⟩,(sI rfl),(sI rfl),zAa rfl (by rw [wrapN (by omega) (by omega)];omega),tv⟩ ⟨⟨by decide,_,rfl,by show RO _ _ (.cells [.int .i64 _,.int .i64 _,lsV 3 ([] : List QuX),lsV 4 (an0 :: ans),lsV 5 ([] : List RcX),sq 10 (ys.length + 1 + 1) U] _) _;rw [zBw y ys x 10];refine zBt (b1:=3) (b2:=4) (b3:=5) (b4:=10) (c1:=3) (c2:=4) (c3:=5) (c4:=6) ?_ ?_ ?_ ?_ _ _ ([] : List QuX) (an0 :: ans) ([] : List RcX) (y :: (ys++[x])) <;> rfl⟩,bpo rfl,bpo rfl,tv⟩ ⟨(zAd layQ (by decide) rfl),(zAd layR (by decide) rfl),(zAd layR (by decide) rfl),(fun o ho=>⟨by decide,_,rfl,by cases ho;exact zAs (by rw [<- ec];rfl) (zAb layR.g layR.plain _)⟩),tv⟩ (.fn _ _ _ _ _ _ _ (.cons _ _ _ _ (.ptr _ _ _ rfl) (.cons _ _ _ _ (.ptr _ _ _ rfl) .nil)) .nil .nil)
    | cons ns0 nss =>
     cases ar with
     | nil =>
      refine aI (by kernel_rfl) ?_
      refine ⟨(i + 1,[x],nx),⟨hlt,by rw [<- hql];rfl,hm2⟩,by show numAt B 10 2 - (i + 1) < numAt B 10 2 - i;omega,?_⟩
      exact zAi [0,1,2,3,4,5,10] rfl rfl rfl (fun l e=>by cases e) (by decide) (by decide) rfl rfl (zAy rfl) ⟨⟨_,rfl,zAe 8 rfl⟩,(sP rfl rfl),(sP rfl rfl),(sP rfl rfl),(sI rfl),(sP rfl rfl),⟨_,rfl,.agg _ _ (.cons _ _ _ _ (.ptr _ _ _ rfl) (.cons _ _ _ _ (.ptr _ _ _ rfl) (.cons _ _ _ _ (.ptr _ _ _ rfl) .nil)))⟩,(sI rfl),(sI rfl),zAa rfl (by rw [wrapN (by omega) (by omega)];omega),tv⟩ ⟨⟨by decide,_,rfl,by show RO _ _ (.cells [.int .i64 _,.int .i64 _,lsV 3 ([] : List QuX),lsV 4 (an0 :: ans),lsV 5 (ns0 :: nss),lsV 10 [x]] _) _;refine zBt (b1:=3) (b2:=4) (b3:=5) (b4:=10) (c1:=3) (c2:=4) (c3:=5) (c4:=6) ?_ ?_ ?_ ?_ _ _ ([] : List QuX) (an0 :: ans) (ns0 :: nss) [x] <;> rfl⟩,bpo rfl,bpo rfl,tv⟩ ⟨(zAd layQ (by decide) rfl),(zAd layR (by decide) rfl),(zAd layR (by decide) rfl),(fun o ho=>⟨by decide,_,rfl,by cases ho;exact zAs rfl rfl⟩),tv⟩ (.fn _ _ _ _ _ _ _ (.cons _ _ _ _ (.ptr _ _ _ rfl) (.cons _ _ _ _ (.ptr _ _ _ rfl) .nil)) .nil .nil)
     | cons y ys =>
      have hfl : (List.flatMap layR.g (y :: ys)).length = (ys.length + 1) * 5:=zAf layR.g 5 layR.len (y :: ys)
      have hyl : ys.length + 1 = i:=hql
      refine aI (by kernel_rfl) ?_
      refine aI (by rw [hszR,hbyR];simp only [bA,dT];exact ⟨⟨⟨⟨⟨⟨rfl,rfl⟩,bL (by rw [hfl];omega)⟩,rfl⟩,by omega⟩,by omega⟩,bL (by rw [hfl];show (ys.length + 1) * 5 + 1<=0 + (ys.length + 1) * 5 + 5;omega)⟩) ?_
      have ec : List.take ((ys.length + 1) * 5) (List.flatMap layR.g (y :: ys))++layR.g x = (y :: (ys++[x])).flatMap layR.g:=by rw [aD (by rw [hfl];omega),<- bC,List.flatMap_append];simp
      refine ⟨(i + 1,y :: (ys++[x]),nx),⟨hlt,by show (y :: (ys++[x])).length = _;simp;omega,hm2⟩,by show numAt B 10 2 - (i + 1) < numAt B 10 2 - i;omega,?_⟩
      exact zAi [0,1,2,3,4,5,10] rfl rfl rfl (fun l e=>by cases e) (by decide) (by decide) rfl rfl (zAy rfl) ⟨⟨_,rfl,zAe 8 rfl⟩,(sP rfl rfl),(sP rfl rfl),(sP rfl rfl),(sI rfl),(sP rfl rfl),⟨_,rfl,.agg _ _ (.cons _ _ _ _ (.ptr _ _ _ rfl) (.cons _ _ _ _ (.ptr _ _ _ rfl) (.cons _ _ _ _ (.ptr _ _ _ rfl) .nil)))⟩,(sI rfl),(sI rfl),zAa rfl (by rw [wrapN (by omega) (by omega)];omega),tv⟩ ⟨⟨by decide,_,rfl,by show RO _ _ (.cells [.int .i64 _,.int .i64 _,lsV 3 ([] : List QuX),lsV 4 (an0 :: ans),lsV 5 (ns0 :: nss),sq 10 (ys.length + 1 + 1) U] _) _;rw [zBw y ys x 10];refine zBt (b1:=3) (b2:=4) (b3:=5) (b4:=10) (c1:=3) (c2:=4) (c3:=5) (c4:=6) ?_ ?_ ?_ ?_ _ _ ([] : List QuX) (an0 :: ans) (ns0 :: nss) (y :: (ys++[x])) <;> rfl⟩,bpo rfl,bpo rfl,tv⟩ ⟨(zAd layQ (by decide) rfl),(zAd layR (by decide) rfl),(zAd layR (by decide) rfl),(fun o ho=>⟨by decide,_,rfl,by cases ho;exact zAs (by rw [<- ec];rfl) (zAb layR.g layR.plain _)⟩),tv⟩ (.fn _ _ _ _ _ _ _ (.cons _ _ _ _ (.ptr _ _ _ rfl) (.cons _ _ _ _ (.ptr _ _ _ rfl) .nil)) .nil .nil)
  | cons q0 qs =>
   cases an with
   | nil =>
    cases ns with
    | nil =>
     cases ar with
     | nil =>
      refine aI (by kernel_rfl) ?_
      refine ⟨(i + 1,[x],nx),⟨hlt,by rw [<- hql];rfl,hm2⟩,by show numAt B 10 2 - (i + 1) < numAt B 10 2 - i;omega,?_⟩
      exact zAi [0,1,2,3,4,5,10] rfl rfl rfl (fun l e=>by cases e) (by decide) (by decide) rfl rfl (zAy rfl) ⟨⟨_,rfl,zAe 8 rfl⟩,(sP rfl rfl),(sP rfl rfl),(sP rfl rfl),(sI rfl),(sP rfl rfl),⟨_,rfl,.agg _ _ (.cons _ _ _ _ (.ptr _ _ _ rfl) (.cons _ _ _ _ (.ptr _ _ _ rfl) (.cons _ _ _ _ (.ptr _ _ _ rfl) .nil)))⟩,(sI rfl),(sI rfl),zAa rfl (by rw [wrapN (by omega) (by omega)];omega),tv⟩ ⟨⟨by decide,_,rfl,by show RO _ _ (.cells [.int .i64 _,.int .i64 _,lsV 3 (q0 :: qs),lsV 4 ([] : List RcX),lsV 5 ([] : List RcX),lsV 10 [x]] _) _;refine zBt (b1:=3) (b2:=4) (b3:=5) (b4:=10) (c1:=3) (c2:=4) (c3:=5) (c4:=6) ?_ ?_ ?_ ?_ _ _ (q0 :: qs) ([] : List RcX) ([] : List RcX) [x] <;> rfl⟩,bpo rfl,bpo rfl,tv⟩ ⟨(zAd layQ (by decide) rfl),(zAd layR (by decide) rfl),(zAd layR (by decide) rfl),(fun o ho=>⟨by decide,_,rfl,by cases ho;exact zAs rfl rfl⟩),tv⟩ (.fn _ _ _ _ _ _ _ (.cons _ _ _ _ (.ptr _ _ _ rfl) (.cons _ _ _ _ (.ptr _ _ _ rfl) .nil)) .nil .nil)
     | cons y ys =>
      have hfl : (List.flatMap layR.g (y :: ys)).length = (ys.length + 1) * 5:=zAf layR.g 5 layR.len (y :: ys)
      have hyl : ys.length + 1 = i:=hql
      refine aI (by kernel_rfl) ?_
      refine aI (by rw [hszR,hbyR];simp only [bA,dT];exact ⟨⟨⟨⟨⟨⟨rfl,rfl⟩,bL (by rw [hfl];omega)⟩,rfl⟩,by omega⟩,by omega⟩,bL (by rw [hfl];show (ys.length + 1) * 5 + 1<=0 + (ys.length + 1) * 5 + 5;omega)⟩) ?_
      have ec : List.take ((ys.length + 1) * 5) (List.flatMap layR.g (y :: ys))++layR.g x = (y :: (ys++[x])).flatMap layR.g:=by rw [aD (by rw [hfl];omega),<- bC,List.flatMap_append];simp
      refine ⟨(i + 1,y :: (ys++[x]),nx),⟨hlt,by show (y :: (ys++[x])).length = _;simp;omega,hm2⟩,by show numAt B 10 2 - (i + 1) < numAt B 10 2 - i;omega,?_⟩
      exact zAi [0,1,2,3,4,5,10] rfl rfl rfl (fun l e=>by cases e) (by decide) (by decide) rfl rfl (zAy rfl) ⟨⟨_,rfl,zAe 8 rfl⟩,(sP rfl rfl),(sP rfl rfl),(sP rfl rfl),(sI rfl),(sP rfl rfl),⟨_,rfl,.agg _ _ (.cons _ _ _ _ (.ptr _ _ _ rfl) (.cons _ _ _ _ (.ptr _ _ _ rfl) (.cons _ _ _ _ (.ptr _ _ _ rfl) .nil)))⟩,(sI rfl),(sI rfl),zAa rfl (by rw [wrapN (by omega) (by omega)];omega),tv⟩ ⟨⟨by decide,_,rfl,by show RO _ _ (.cells [.int .i64 _,.int .i64 _,lsV 3 (q0 :: qs),lsV 4 ([] : List RcX),lsV 5 ([] : List RcX),sq 10 (ys.length + 1 + 1) U] _) _;rw [zBw y ys x 10];refine zBt (b1:=3) (b2:=4) (b3:=5) (b4:=10) (c1:=3) (c2:=4) (c3:=5) (c4:=6) ?_ ?_ ?_ ?_ _ _ (q0 :: qs) ([] : List RcX) ([] : List RcX) (y :: (ys++[x])) <;> rfl⟩,bpo rfl,bpo rfl,tv⟩ ⟨(zAd layQ (by decide) rfl),(zAd layR (by decide) rfl),(zAd layR (by decide) rfl),(fun o ho=>⟨by decide,_,rfl,by cases ho;exact zAs (by rw [<- ec];rfl) (zAb layR.g layR.plain _)⟩),tv⟩ (.fn _ _ _ _ _ _ _ (.cons _ _ _ _ (.ptr _ _ _ rfl) (.cons _ _ _ _ (.ptr _ _ _ rfl) .nil)) .nil .nil)
    | cons ns0 nss =>
     cases ar with
     | nil =>
      refine aI (by kernel_rfl) ?_
      refine ⟨(i + 1,[x],nx),⟨hlt,by rw [<- hql];rfl,hm2⟩,by show numAt B 10 2 - (i + 1) < numAt B 10 2 - i;omega,?_⟩
      exact zAi [0,1,2,3,4,5,10] rfl rfl rfl (fun l e=>by cases e) (by decide) (by decide) rfl rfl (zAy rfl) ⟨⟨_,rfl,zAe 8 rfl⟩,(sP rfl rfl),(sP rfl rfl),(sP rfl rfl),(sI rfl),(sP rfl rfl),⟨_,rfl,.agg _ _ (.cons _ _ _ _ (.ptr _ _ _ rfl) (.cons _ _ _ _ (.ptr _ _ _ rfl) (.cons _ _ _ _ (.ptr _ _ _ rfl) .nil)))⟩,(sI rfl),(sI rfl),zAa rfl (by rw [wrapN (by omega) (by omega)];omega),tv⟩ ⟨⟨by decide,_,rfl,by show RO _ _ (.cells [.int .i64 _,.int .i64 _,lsV 3 (q0 :: qs),lsV 4 ([] : List RcX),lsV 5 (ns0 :: nss),lsV 10 [x]] _) _;refine zBt (b1:=3) (b2:=4) (b3:=5) (b4:=10) (c1:=3) (c2:=4) (c3:=5) (c4:=6) ?_ ?_ ?_ ?_ _ _ (q0 :: qs) ([] : List RcX) (ns0 :: nss) [x] <;> rfl⟩,bpo rfl,bpo rfl,tv⟩ ⟨(zAd layQ (by decide) rfl),(zAd layR (by decide) rfl),(zAd layR (by decide) rfl),(fun o ho=>⟨by decide,_,rfl,by cases ho;exact zAs rfl rfl⟩),tv⟩ (.fn _ _ _ _ _ _ _ (.cons _ _ _ _ (.ptr _ _ _ rfl) (.cons _ _ _ _ (.ptr _ _ _ rfl) .nil)) .nil .nil)
     | cons y ys =>
      have hfl : (List.flatMap layR.g (y :: ys)).length = (ys.length + 1) * 5:=zAf layR.g 5 layR.len (y :: ys)
      have hyl : ys.length + 1 = i:=hql
      refine aI (by kernel_rfl) ?_
      refine aI (by rw [hszR,hbyR];simp only [bA,dT];exact ⟨⟨⟨⟨⟨⟨rfl,rfl⟩,bL (by rw [hfl];omega)⟩,rfl⟩,by omega⟩,by omega⟩,bL (by rw [hfl];show (ys.length + 1) * 5 + 1<=0 + (ys.length + 1) * 5 + 5;omega)⟩) ?_
      have ec : List.take ((ys.length + 1) * 5) (List.flatMap layR.g (y :: ys))++layR.g x = (y :: (ys++[x])).flatMap layR.g:=by rw [aD (by rw [hfl];omega),<- bC,List.flatMap_append];simp
      refine ⟨(i + 1,y :: (ys++[x]),nx),⟨hlt,by show (y :: (ys++[x])).length = _;simp;omega,hm2⟩,by show numAt B 10 2 - (i + 1) < numAt B 10 2 - i;omega,?_⟩
      exact zAi [0,1,2,3,4,5,10] rfl rfl rfl (fun l e=>by cases e) (by decide) (by decide) rfl rfl (zAy rfl) ⟨⟨_,rfl,zAe 8 rfl⟩,(sP rfl rfl),(sP rfl rfl),(sP rfl rfl),(sI rfl),(sP rfl rfl),⟨_,rfl,.agg _ _ (.cons _ _ _ _ (.ptr _ _ _ rfl) (.cons _ _ _ _ (.ptr _ _ _ rfl) (.cons _ _ _ _ (.ptr _ _ _ rfl) .nil)))⟩,(sI rfl),(sI rfl),zAa rfl (by rw [wrapN (by omega) (by omega)];omega),tv⟩ ⟨⟨by decide,_,rfl,by show RO _ _ (.cells [.int .i64 _,.int .i64 _,lsV 3 (q0 :: qs),lsV 4 ([] : List RcX),lsV 5 (ns0 :: nss),sq 10 (ys.length + 1 + 1) U] _) _;rw [zBw y ys x 10];refine zBt (b1:=3) (b2:=4) (b3:=5) (b4:=10) (c1:=3) (c2:=4) (c3:=5) (c4:=6) ?_ ?_ ?_ ?_ _ _ (q0 :: qs) ([] : List RcX) (ns0 :: nss) (y :: (ys++[x])) <;> rfl⟩,bpo rfl,bpo rfl,tv⟩ ⟨(zAd layQ (by decide) rfl),(zAd layR (by decide) rfl),(zAd layR (by decide) rfl),(fun o ho=>⟨by decide,_,rfl,by cases ho;exact zAs (by rw [<- ec];rfl) (zAb layR.g layR.plain _)⟩),tv⟩ (.fn _ _ _ _ _ _ _ (.cons _ _ _ _ (.ptr _ _ _ rfl) (.cons _ _ _ _ (.ptr _ _ _ rfl) .nil)) .nil .nil)
   | cons an0 ans =>
    cases ns with
    | nil =>
     cases ar with
     | nil =>
      refine aI (by kernel_rfl) ?_
      refine ⟨(i + 1,[x],nx),⟨hlt,by rw [<- hql];rfl,hm2⟩,by show numAt B 10 2 - (i + 1) < numAt B 10 2 - i;omega,?_⟩
      exact zAi [0,1,2,3,4,5,10] rfl rfl rfl (fun l e=>by cases e) (by decide) (by decide) rfl rfl (zAy rfl) ⟨⟨_,rfl,zAe 8 rfl⟩,(sP rfl rfl),(sP rfl rfl),(sP rfl rfl),(sI rfl),(sP rfl rfl),⟨_,rfl,.agg _ _ (.cons _ _ _ _ (.ptr _ _ _ rfl) (.cons _ _ _ _ (.ptr _ _ _ rfl) (.cons _ _ _ _ (.ptr _ _ _ rfl) .nil)))⟩,(sI rfl),(sI rfl),zAa rfl (by rw [wrapN (by omega) (by omega)];omega),tv⟩ ⟨⟨by decide,_,rfl,by show RO _ _ (.cells [.int .i64 _,.int .i64 _,lsV 3 (q0 :: qs),lsV 4 (an0 :: ans),lsV 5 ([] : List RcX),lsV 10 [x]] _) _;refine zBt (b1:=3) (b2:=4) (b3:=5) (b4:=10) (c1:=3) (c2:=4) (c3:=5) (c4:=6) ?_ ?_ ?_ ?_ _ _ (q0 :: qs) (an0 :: ans) ([] : List RcX) [x] <;> rfl⟩,bpo rfl,bpo rfl,tv⟩ ⟨(zAd layQ (by decide) rfl),(zAd layR (by decide) rfl),(zAd layR (by decide) rfl),(fun o ho=>⟨by decide,_,rfl,by cases ho;exact zAs rfl rfl⟩),tv⟩ (.fn _ _ _ _ _ _ _ (.cons _ _ _ _ (.ptr _ _ _ rfl) (.cons _ _ _ _ (.ptr _ _ _ rfl) .nil)) .nil .nil)
     | cons y ys =>
      have hfl : (List.flatMap layR.g (y :: ys)).length = (ys.length + 1) * 5:=zAf layR.g 5 layR.len (y :: ys)
      have hyl : ys.length + 1 = i:=hql
      refine aI (by kernel_rfl) ?_
      refine aI (by rw [hszR,hbyR];simp only [bA,dT];exact ⟨⟨⟨⟨⟨⟨rfl,rfl⟩,bL (by rw [hfl];omega)⟩,rfl⟩,by omega⟩,by omega⟩,bL (by rw [hfl];show (ys.length + 1) * 5 + 1<=0 + (ys.length + 1) * 5 + 5;omega)⟩) ?_
      have ec : List.take ((ys.length + 1) * 5) (List.flatMap layR.g (y :: ys))++layR.g x = (y :: (ys++[x])).flatMap layR.g:=by rw [aD (by rw [hfl];omega),<- bC,List.flatMap_append];simp
      refine ⟨(i + 1,y :: (ys++[x]),nx),⟨hlt,by show (y :: (ys++[x])).length = _;simp;omega,hm2⟩,by show numAt B 10 2 - (i + 1) < numAt B 10 2 - i;omega,?_⟩
      exact zAi [0,1,2,3,4,5,10] rfl rfl rfl (fun l e=>by cases e) (by decide) (by decide) rfl rfl (zAy rfl) ⟨⟨_,rfl,zAe 8 rfl⟩,(sP rfl rfl),(sP rfl rfl),(sP rfl rfl),(sI rfl),(sP rfl rfl),⟨_,rfl,.agg _ _ (.cons _ _ _ _ (.ptr _ _ _ rfl) (.cons _ _ _ _ (.ptr _ _ _ rfl) (.cons _ _ _ _ (.ptr _ _ _ rfl) .nil)))⟩,(sI rfl),(sI rfl),zAa rfl (by rw [wrapN (by omega) (by omega)];omega),tv⟩ ⟨⟨by decide,_,rfl,by show RO _ _ (.cells [.int .i64 _,.int .i64 _,lsV 3 (q0 :: qs),lsV 4 (an0 :: ans),lsV 5 ([] : List RcX),sq 10 (ys.length + 1 + 1) U] _) _;rw [zBw y ys x 10];refine zBt (b1:=3) (b2:=4) (b3:=5) (b4:=10) (c1:=3) (c2:=4) (c3:=5) (c4:=6) ?_ ?_ ?_ ?_ _ _ (q0 :: qs) (an0 :: ans) ([] : List RcX) (y :: (ys++[x])) <;> rfl⟩,bpo rfl,bpo rfl,tv⟩ ⟨(zAd layQ (by decide) rfl),(zAd layR (by decide) rfl),(zAd layR (by decide) rfl),(fun o ho=>⟨by decide,_,rfl,by cases ho;exact zAs (by rw [<- ec];rfl) (zAb layR.g layR.plain _)⟩),tv⟩ (.fn _ _ _ _ _ _ _ (.cons _ _ _ _ (.ptr _ _ _ rfl) (.cons _ _ _ _ (.ptr _ _ _ rfl) .nil)) .nil .nil)
    | cons ns0 nss =>
     cases ar with
     | nil =>
      refine aI (by kernel_rfl) ?_
      refine ⟨(i + 1,[x],nx),⟨hlt,by rw [<- hql];rfl,hm2⟩,by show numAt B 10 2 - (i + 1) < numAt B 10 2 - i;omega,?_⟩
      exact zAi [0,1,2,3,4,5,10] rfl rfl rfl (fun l e=>by cases e) (by decide) (by decide) rfl rfl (zAy rfl) ⟨⟨_,rfl,zAe 8 rfl⟩,(sP rfl rfl),(sP rfl rfl),(sP rfl rfl),(sI rfl),(sP rfl rfl),⟨_,rfl,.agg _ _ (.cons _ _ _ _ (.ptr _ _ _ rfl) (.cons _ _ _ _ (.ptr _ _ _ rfl) (.cons _ _ _ _ (.ptr _ _ _ rfl) .nil)))⟩,(sI rfl),(sI rfl),zAa rfl (by rw [wrapN (by omega) (by omega)];omega),tv⟩ ⟨⟨by decide,_,rfl,by show RO _ _ (.cells [.int .i64 _,.int .i64 _,lsV 3 (q0 :: qs),lsV 4 (an0 :: ans),lsV 5 (ns0 :: nss),lsV 10 [x]] _) _;refine zBt (b1:=3) (b2:=4) (b3:=5) (b4:=10) (c1:=3) (c2:=4) (c3:=5) (c4:=6) ?_ ?_ ?_ ?_ _ _ (q0 :: qs) (an0 :: ans) (ns0 :: nss) [x] <;> rfl⟩,bpo rfl,bpo rfl,tv⟩ ⟨(zAd layQ (by decide) rfl),(zAd layR (by decide) rfl),(zAd layR (by decide) rfl),(fun o ho=>⟨by decide,_,rfl,by cases ho;exact zAs rfl rfl⟩),tv⟩ (.fn _ _ _ _ _ _ _ (.cons _ _ _ _ (.ptr _ _ _ rfl) (.cons _ _ _ _ (.ptr _ _ _ rfl) .nil)) .nil .nil)
     | cons y ys =>
      have hfl : (List.flatMap layR.g (y :: ys)).length = (ys.length + 1) * 5:=zAf layR.g 5 layR.len (y :: ys)
      have hyl : ys.length + 1 = i:=hql
      refine aI (by kernel_rfl) ?_
      refine aI (by rw [hszR,hbyR];simp only [bA,dT];exact ⟨⟨⟨⟨⟨⟨rfl,rfl⟩,bL (by rw [hfl];omega)⟩,rfl⟩,by omega⟩,by omega⟩,bL (by rw [hfl];show (ys.length + 1) * 5 + 1<=0 + (ys.length + 1) * 5 + 5;omega)⟩) ?_
      have ec : List.take ((ys.length + 1) * 5) (List.flatMap layR.g (y :: ys))++layR.g x = (y :: (ys++[x])).flatMap layR.g:=by rw [aD (by rw [hfl];omega),<- bC,List.flatMap_append];simp
      refine ⟨(i + 1,y :: (ys++[x]),nx),⟨hlt,by show (y :: (ys++[x])).length = _;simp;omega,hm2⟩,by show numAt B 10 2 - (i + 1) < numAt B 10 2 - i;omega,?_⟩
      exact zAi [0,1,2,3,4,5,10] rfl rfl rfl (fun l e=>by cases e) (by decide) (by decide) rfl rfl (zAy rfl) ⟨⟨_,rfl,zAe 8 rfl⟩,(sP rfl rfl),(sP rfl rfl),(sP rfl rfl),(sI rfl),(sP rfl rfl),⟨_,rfl,.agg _ _ (.cons _ _ _ _ (.ptr _ _ _ rfl) (.cons _ _ _ _ (.ptr _ _ _ rfl) (.cons _ _ _ _ (.ptr _ _ _ rfl) .nil)))⟩,(sI rfl),(sI rfl),zAa rfl (by rw [wrapN (by omega) (by omega)];omega),tv⟩ ⟨⟨by decide,_,rfl,by show RO _ _ (.cells [.int .i64 _,.int .i64 _,lsV 3 (q0 :: qs),lsV 4 (an0 :: ans),lsV 5 (ns0 :: nss),sq 10 (ys.length + 1 + 1) U] _) _;rw [zBw y ys x 10];refine zBt (b1:=3) (b2:=4) (b3:=5) (b4:=10) (c1:=3) (c2:=4) (c3:=5) (c4:=6) ?_ ?_ ?_ ?_ _ _ (q0 :: qs) (an0 :: ans) (ns0 :: nss) (y :: (ys++[x])) <;> rfl⟩,bpo rfl,bpo rfl,tv⟩ ⟨(zAd layQ (by decide) rfl),(zAd layR (by decide) rfl),(zAd layR (by decide) rfl),(fun o ho=>⟨by decide,_,rfl,by cases ho;exact zAs (by rw [<- ec];rfl) (zAb layR.g layR.plain _)⟩),tv⟩ (.fn _ _ _ _ _ _ _ (.cons _ _ _ _ (.ptr _ _ _ rfl) (.cons _ _ _ _ (.ptr _ _ _ rfl) .nil)) .nil .nil)
 have hiq : i = numAt B 10 2:=by have h1 : ¬ ((i : Nat) : Int) < ((numAt B 10 2 : Nat) : Int):=oF h1;omega
 subst hiq
 have hlar : ar.length = numAt B 10 2:=hql
 refine aI rfl (zAh (zAi [0,1,2,3,4,5,6] rfl rfl rfl (fun l e=>by cases e) (by decide) (by decide) rfl rfl (zAy rfl) (d:=7) (d2:=3) (lv:=[(0,trB B),(2,pt 0),(3,pt 1),(4,pt 2),(5,.int .i64 at'),(73,.agg #[.pointer (some ⟨0,3,none⟩),.pointer (some ⟨0,4,none⟩),.pointer (some ⟨0,5,none⟩)]),(74,.int .i64 2)]) (bs:=[(0,.cells [.int .i64 (numAt B 0 2 : Nat),.int .i64 (numAt B 2 2 : Nat),lsV 3 q,lsV 4 an,lsV 5 ns,lsV 6 ar] 25),(1,.cells [.int .i64 0,.int .i64 0] 53),(2,.cells [.int .i64 (numAt B 0 2 : Nat),.int .i64 (numAt B 2 2 : Nat),.int .i64 (numAt B 4 2 : Nat),.int .i64 (numAt B 6 2 : Nat),.int .i64 (numAt B 8 2 : Nat),.int .i64 (numAt B 10 2 : Nat)] 87)]) (bo:=[(3,lsO layQ q),(4,lsO layR an),(5,lsO layR ns),(6,lsO layR ar)]) (W:=[]) (m:=7) (df:=[.call 55 [pt 1,pt 0] []]) ⟨⟨_,rfl,zAe 8 rfl⟩,(sP rfl rfl),(sP rfl rfl),(sP rfl rfl),(sI rfl),⟨_,rfl,.agg _ _ (.cons _ _ _ _ (.ptr _ _ _ rfl) (.cons _ _ _ _ (.ptr _ _ _ rfl) (.cons _ _ _ _ (.ptr _ _ _ rfl) .nil)))⟩,(sI rfl),tv⟩ ⟨⟨by decide,_,rfl,by refine zBt (b1:=3) (b2:=4) (b3:=5) (b4:=6) (c1:=3) (c2:=4) (c3:=5) (c4:=6) ?_ ?_ ?_ ?_ _ _ q an ns ar <;> rfl⟩,bpo rfl,bpo rfl,tv⟩ ⟨(zAd layQ (by decide) rfl),(zAd layR (by decide) rfl),(zAd layR (by decide) rfl),(zAd layR (by decide) rfl),tv⟩ (.fn _ _ _ _ _ _ _ (.cons _ _ _ _ (.ptr _ _ _ rfl) (.cons _ _ _ _ (.ptr _ _ _ rfl) .nil)) .nil .nil)) (fun f=>?_))
 refine LW.round ?_
 refine zAq tbRm2 [] 0 _ none mixed _ _ _ ?_
 have hfin : mrQ B (numAt B 4 2) (MsT.mk (numAt B 0 2 : Nat) (numAt B 2 2 : Nat) q an ns ar).items at':=by
  have e : (MsT.mk (numAt B 0 2 : Nat) (numAt B 2 2 : Nat) q an ns ar).items = (((q.map (Sum.inl (β:=RcX))++an.map (Sum.inr (α:=QuX)))++ns.map (Sum.inr (α:=QuX)))++ar.map (Sum.inr (α:=QuX))):=by unfold MsT.items;simp
  rw [e];exact hm
 have hfit : MsFit B (MsT.mk (numAt B 0 2 : Nat) (numAt B 2 2 : Nat) q an ns ar):=⟨rfl,rfl,hlq,hlan,hlns,hlar⟩
 refine ifK (fun h3=>?_) (fun h3=>?_)
 ·have h3 : at' ≠ ((B.length : Nat) : Int):=by have h3 : (at' != ((B.length : Nat) : Int)) = true:=h3;simpa using h3
  have hres : msQ B zM 4 at':=.rest ⟨g2,g1⟩ hfin hfit.tot h3
  cases q with
  | nil =>
   cases an with
   | nil =>
    cases ns with
    | nil =>
     cases ar with
     | nil =>
      refine aI rfl (zAj (q:=([] : List QuX)) (an:=([] : List RcX)) (ns:=([] : List RcX)) (ar:=([] : List RcX)) rfl rfl rfl rfl rfl rfl rfl rfl rfl rfl rfl (fun f=>?_))
      refine Eq.mpr (zBf 4 (by decide) _ _ _ _ _ _ at' _ f) ?_
      exact zAg hres (by decide)
     | cons ar0 ars =>
      refine aI rfl (zAj (q:=([] : List QuX)) (an:=([] : List RcX)) (ns:=([] : List RcX)) (ar:=(ar0 :: ars)) rfl rfl rfl rfl rfl rfl rfl rfl rfl rfl rfl (fun f=>?_))
      refine Eq.mpr (zBf 4 (by decide) _ _ _ _ _ _ at' _ f) ?_
      exact zAg hres (by decide)
    | cons ns0 nss =>
     cases ar with
     | nil =>
      refine aI rfl (zAj (q:=([] : List QuX)) (an:=([] : List RcX)) (ns:=(ns0 :: nss)) (ar:=([] : List RcX)) rfl rfl rfl rfl rfl rfl rfl rfl rfl rfl rfl (fun f=>?_))
      refine Eq.mpr (zBf 4 (by decide) _ _ _ _ _ _ at' _ f) ?_
      exact zAg hres (by decide)
     | cons ar0 ars =>
      refine aI rfl (zAj (q:=([] : List QuX)) (an:=([] : List RcX)) (ns:=(ns0 :: nss)) (ar:=(ar0 :: ars)) rfl rfl rfl rfl rfl rfl rfl rfl rfl rfl rfl (fun f=>?_))
      refine Eq.mpr (zBf 4 (by decide) _ _ _ _ _ _ at' _ f) ?_
      exact zAg hres (by decide)
   | cons an0 ans =>
    cases ns with
    | nil =>
     cases ar with
     | nil =>
      refine aI rfl (zAj (q:=([] : List QuX)) (an:=(an0 :: ans)) (ns:=([] : List RcX)) (ar:=([] : List RcX)) rfl rfl rfl rfl rfl rfl rfl rfl rfl rfl rfl (fun f=>?_))
      refine Eq.mpr (zBf 4 (by decide) _ _ _ _ _ _ at' _ f) ?_
      exact zAg hres (by decide)
     | cons ar0 ars =>
      refine aI rfl (zAj (q:=([] : List QuX)) (an:=(an0 :: ans)) (ns:=([] : List RcX)) (ar:=(ar0 :: ars)) rfl rfl rfl rfl rfl rfl rfl rfl rfl rfl rfl (fun f=>?_))
      refine Eq.mpr (zBf 4 (by decide) _ _ _ _ _ _ at' _ f) ?_
      exact zAg hres (by decide)
    | cons ns0 nss =>
     cases ar with
     | nil =>
      refine aI rfl (zAj (q:=([] : List QuX)) (an:=(an0 :: ans)) (ns:=(ns0 :: nss)) (ar:=([] : List RcX)) rfl rfl rfl rfl rfl rfl rfl rfl rfl rfl rfl (fun f=>?_))
      refine Eq.mpr (zBf 4 (by decide) _ _ _ _ _ _ at' _ f) ?_
      exact zAg hres (by decide)
     | cons ar0 ars =>
      refine aI rfl (zAj (q:=([] : List QuX)) (an:=(an0 :: ans)) (ns:=(ns0 :: nss)) (ar:=(ar0 :: ars)) rfl rfl rfl rfl rfl rfl rfl rfl rfl rfl rfl (fun f=>?_))
      refine Eq.mpr (zBf 4 (by decide) _ _ _ _ _ _ at' _ f) ?_
      exact zAg hres (by decide)
  | cons q0 qs =>
   cases an with
   | nil =>
    cases ns with
    | nil =>
     cases ar with
     | nil =>
      refine aI rfl (zAj (q:=(q0 :: qs)) (an:=([] : List RcX)) (ns:=([] : List RcX)) (ar:=([] : List RcX)) rfl rfl rfl rfl rfl rfl rfl rfl rfl rfl rfl (fun f=>?_))
      refine Eq.mpr (zBf 4 (by decide) _ _ _ _ _ _ at' _ f) ?_
      exact zAg hres (by decide)
     | cons ar0 ars =>
      refine aI rfl (zAj (q:=(q0 :: qs)) (an:=([] : List RcX)) (ns:=([] : List RcX)) (ar:=(ar0 :: ars)) rfl rfl rfl rfl rfl rfl rfl rfl rfl rfl rfl (fun f=>?_))
      refine Eq.mpr (zBf 4 (by decide) _ _ _ _ _ _ at' _ f) ?_
      exact zAg hres (by decide)
    | cons ns0 nss =>
     cases ar with
     | nil =>
      refine aI rfl (zAj (q:=(q0 :: qs)) (an:=([] : List RcX)) (ns:=(ns0 :: nss)) (ar:=([] : List RcX)) rfl rfl rfl rfl rfl rfl rfl rfl rfl rfl rfl (fun f=>?_))
      refine Eq.mpr (zBf 4 (by decide) _ _ _ _ _ _ at' _ f) ?_
      exact zAg hres (by decide)
     | cons ar0 ars =>
      refine aI rfl (zAj (q:=(q0 :: qs)) (an:=([] : List RcX)) (ns:=(ns0 :: nss)) (ar:=(ar0 :: ars)) rfl rfl rfl rfl rfl rfl rfl rfl rfl rfl rfl (fun f=>?_))
      refine Eq.mpr (zBf 4 (by decide) _ _ _ _ _ _ at' _ f) ?_
      exact zAg hres (by decide)
   | cons an0 ans =>
    cases ns with
    | nil =>
     cases ar with
     | nil =>
      refine aI rfl (zAj (q:=(q0 :: qs)) (an:=(an0 :: ans)) (ns:=([] : List RcX)) (ar:=([] : List RcX)) rfl rfl rfl rfl rfl rfl rfl rfl rfl rfl rfl (fun f=>?_))
      refine Eq.mpr (zBf 4 (by decide) _ _ _ _ _ _ at' _ f) ?_
      exact zAg hres (by decide)
     | cons ar0 ars =>
      refine aI rfl (zAj (q:=(q0 :: qs)) (an:=(an0 :: ans)) (ns:=([] : List RcX)) (ar:=(ar0 :: ars)) rfl rfl rfl rfl rfl rfl rfl rfl rfl rfl rfl (fun f=>?_))
      refine Eq.mpr (zBf 4 (by decide) _ _ _ _ _ _ at' _ f) ?_
      exact zAg hres (by decide)
    | cons ns0 nss =>
     cases ar with
     | nil =>
      refine aI rfl (zAj (q:=(q0 :: qs)) (an:=(an0 :: ans)) (ns:=(ns0 :: nss)) (ar:=([] : List RcX)) rfl rfl rfl rfl rfl rfl rfl rfl rfl rfl rfl (fun f=>?_))
      refine Eq.mpr (zBf 4 (by decide) _ _ _ _ _ _ at' _ f) ?_
      exact zAg hres (by decide)
     | cons ar0 ars =>
      refine aI rfl (zAj (q:=(q0 :: qs)) (an:=(an0 :: ans)) (ns:=(ns0 :: nss)) (ar:=(ar0 :: ars)) rfl rfl rfl rfl rfl rfl rfl rfl rfl rfl rfl (fun f=>?_))
      refine Eq.mpr (zBf 4 (by decide) _ _ _ _ _ _ at' _ f) ?_
      exact zAg hres (by decide)
 have h3 : at' = ((B.length : Nat) : Int):=by have h3 : (at' != ((B.length : Nat) : Int)) = false:=h3;simpa using h3
 subst h3
 have hres : msQ B (MsT.mk (numAt B 0 2 : Nat) (numAt B 2 2 : Nat) q an ns ar) 0 0:=.fine ⟨g2,g1⟩ hfin hfit
 cases q with
 | nil =>
  cases an with
  | nil =>
   cases ns with
   | nil =>
    cases ar with
    | nil =>
     refine aI rfl (zAj (q:=([] : List QuX)) (an:=([] : List RcX)) (ns:=([] : List RcX)) (ar:=([] : List RcX)) rfl rfl rfl rfl rfl rfl rfl rfl rfl rfl rfl (fun f=>?_))
     refine Eq.mpr (zGp _ _ _ _ _ _ _ f) ?_
     exact ⟨_,0,0,_,_,_,hres,rfl,fun _=>zGr _ _ _ _ _ _ f,fun _=>zGs _ _ _ _ _ _ f,fun _=>zGt _ _ _ _ _ _ f,fun _=>zGu _ _ _ _ _ _ f,fun _=>zGq _ _ _ _ _ _ f⟩
    | cons ar0 ars =>
     refine aI rfl (zAj (q:=([] : List QuX)) (an:=([] : List RcX)) (ns:=([] : List RcX)) (ar:=(ar0 :: ars)) rfl rfl rfl rfl rfl rfl rfl rfl rfl rfl rfl (fun f=>?_))
     refine Eq.mpr (zGp _ _ _ _ _ _ _ f) ?_
     exact ⟨_,0,0,_,_,_,hres,rfl,fun _=>zGr _ _ _ _ _ _ f,fun _=>zGs _ _ _ _ _ _ f,fun _=>zGt _ _ _ _ _ _ f,fun _=>zGu _ _ _ _ _ _ f,fun _=>zGq _ _ _ _ _ _ f⟩
   | cons ns0 nss =>
    cases ar with
    | nil =>
     refine aI rfl (zAj (q:=([] : List QuX)) (an:=([] : List RcX)) (ns:=(ns0 :: nss)) (ar:=([] : List RcX)) rfl rfl rfl rfl rfl rfl rfl rfl rfl rfl rfl (fun f=>?_))
     refine Eq.mpr (zGp _ _ _ _ _ _ _ f) ?_
     exact ⟨_,0,0,_,_,_,hres,rfl,fun _=>zGr _ _ _ _ _ _ f,fun _=>zGs _ _ _ _ _ _ f,fun _=>zGt _ _ _ _ _ _ f,fun _=>zGu _ _ _ _ _ _ f,fun _=>zGq _ _ _ _ _ _ f⟩
    | cons ar0 ars =>
     refine aI rfl (zAj (q:=([] : List QuX)) (an:=([] : List RcX)) (ns:=(ns0 :: nss)) (ar:=(ar0 :: ars)) rfl rfl rfl rfl rfl rfl rfl rfl rfl rfl rfl (fun f=>?_))
     refine Eq.mpr (zGp _ _ _ _ _ _ _ f) ?_
     exact ⟨_,0,0,_,_,_,hres,rfl,fun _=>zGr _ _ _ _ _ _ f,fun _=>zGs _ _ _ _ _ _ f,fun _=>zGt _ _ _ _ _ _ f,fun _=>zGu _ _ _ _ _ _ f,fun _=>zGq _ _ _ _ _ _ f⟩
  | cons an0 ans =>
   cases ns with
   | nil =>
    cases ar with
    | nil =>
     refine aI rfl (zAj (q:=([] : List QuX)) (an:=(an0 :: ans)) (ns:=([] : List RcX)) (ar:=([] : List RcX)) rfl rfl rfl rfl rfl rfl rfl rfl rfl rfl rfl (fun f=>?_))
     refine Eq.mpr (zGp _ _ _ _ _ _ _ f) ?_
     exact ⟨_,0,0,_,_,_,hres,rfl,fun _=>zGr _ _ _ _ _ _ f,fun _=>zGs _ _ _ _ _ _ f,fun _=>zGt _ _ _ _ _ _ f,fun _=>zGu _ _ _ _ _ _ f,fun _=>zGq _ _ _ _ _ _ f⟩
    | cons ar0 ars =>
     refine aI rfl (zAj (q:=([] : List QuX)) (an:=(an0 :: ans)) (ns:=([] : List RcX)) (ar:=(ar0 :: ars)) rfl rfl rfl rfl rfl rfl rfl rfl rfl rfl rfl (fun f=>?_))
     refine Eq.mpr (zGp _ _ _ _ _ _ _ f) ?_
     exact ⟨_,0,0,_,_,_,hres,rfl,fun _=>zGr _ _ _ _ _ _ f,fun _=>zGs _ _ _ _ _ _ f,fun _=>zGt _ _ _ _ _ _ f,fun _=>zGu _ _ _ _ _ _ f,fun _=>zGq _ _ _ _ _ _ f⟩
   | cons ns0 nss =>
    cases ar with
    | nil =>
     refine aI rfl (zAj (q:=([] : List QuX)) (an:=(an0 :: ans)) (ns:=(ns0 :: nss)) (ar:=([] : List RcX)) rfl rfl rfl rfl rfl rfl rfl rfl rfl rfl rfl (fun f=>?_))
     refine Eq.mpr (zGp _ _ _ _ _ _ _ f) ?_
     exact ⟨_,0,0,_,_,_,hres,rfl,fun _=>zGr _ _ _ _ _ _ f,fun _=>zGs _ _ _ _ _ _ f,fun _=>zGt _ _ _ _ _ _ f,fun _=>zGu _ _ _ _ _ _ f,fun _=>zGq _ _ _ _ _ _ f⟩
    | cons ar0 ars =>
     refine aI rfl (zAj (q:=([] : List QuX)) (an:=(an0 :: ans)) (ns:=(ns0 :: nss)) (ar:=(ar0 :: ars)) rfl rfl rfl rfl rfl rfl rfl rfl rfl rfl rfl (fun f=>?_))
     refine Eq.mpr (zGp _ _ _ _ _ _ _ f) ?_
     exact ⟨_,0,0,_,_,_,hres,rfl,fun _=>zGr _ _ _ _ _ _ f,fun _=>zGs _ _ _ _ _ _ f,fun _=>zGt _ _ _ _ _ _ f,fun _=>zGu _ _ _ _ _ _ f,fun _=>zGq _ _ _ _ _ _ f⟩
 | cons q0 qs =>
  cases an with
  | nil =>
   cases ns with
   | nil =>
    cases ar with
    | nil =>
     refine aI rfl (zAj (q:=(q0 :: qs)) (an:=([] : List RcX)) (ns:=([] : List RcX)) (ar:=([] : List RcX)) rfl rfl rfl rfl rfl rfl rfl rfl rfl rfl rfl (fun f=>?_))
     refine Eq.mpr (zGp _ _ _ _ _ _ _ f) ?_
     exact ⟨_,0,0,_,_,_,hres,rfl,fun _=>zGr _ _ _ _ _ _ f,fun _=>zGs _ _ _ _ _ _ f,fun _=>zGt _ _ _ _ _ _ f,fun _=>zGu _ _ _ _ _ _ f,fun _=>zGq _ _ _ _ _ _ f⟩
    | cons ar0 ars =>
     refine aI rfl (zAj (q:=(q0 :: qs)) (an:=([] : List RcX)) (ns:=([] : List RcX)) (ar:=(ar0 :: ars)) rfl rfl rfl rfl rfl rfl rfl rfl rfl rfl rfl (fun f=>?_))
     refine Eq.mpr (zGp _ _ _ _ _ _ _ f) ?_
     exact ⟨_,0,0,_,_,_,hres,rfl,fun _=>zGr _ _ _ _ _ _ f,fun _=>zGs _ _ _ _ _ _ f,fun _=>zGt _ _ _ _ _ _ f,fun _=>zGu _ _ _ _ _ _ f,fun _=>zGq _ _ _ _ _ _ f⟩
   | cons ns0 nss =>
    cases ar with
    | nil =>
     refine aI rfl (zAj (q:=(q0 :: qs)) (an:=([] : List RcX)) (ns:=(ns0 :: nss)) (ar:=([] : List RcX)) rfl rfl rfl rfl rfl rfl rfl rfl rfl rfl rfl (fun f=>?_))
     refine Eq.mpr (zGp _ _ _ _ _ _ _ f) ?_
     exact ⟨_,0,0,_,_,_,hres,rfl,fun _=>zGr _ _ _ _ _ _ f,fun _=>zGs _ _ _ _ _ _ f,fun _=>zGt _ _ _ _ _ _ f,fun _=>zGu _ _ _ _ _ _ f,fun _=>zGq _ _ _ _ _ _ f⟩
    | cons ar0 ars =>
     refine aI rfl (zAj (q:=(q0 :: qs)) (an:=([] : List RcX)) (ns:=(ns0 :: nss)) (ar:=(ar0 :: ars)) rfl rfl rfl rfl rfl rfl rfl rfl rfl rfl rfl (fun f=>?_))
     refine Eq.mpr (zGp _ _ _ _ _ _ _ f) ?_
     exact ⟨_,0,0,_,_,_,hres,rfl,fun _=>zGr _ _ _ _ _ _ f,fun _=>zGs _ _ _ _ _ _ f,fun _=>zGt _ _ _ _ _ _ f,fun _=>zGu _ _ _ _ _ _ f,fun _=>zGq _ _ _ _ _ _ f⟩
  | cons an0 ans =>
   cases ns with
   | nil =>
    cases ar with
    | nil =>
     refine aI rfl (zAj (q:=(q0 :: qs)) (an:=(an0 :: ans)) (ns:=([] : List RcX)) (ar:=([] : List RcX)) rfl rfl rfl rfl rfl rfl rfl rfl rfl rfl rfl (fun f=>?_))
     refine Eq.mpr (zGp _ _ _ _ _ _ _ f) ?_
     exact ⟨_,0,0,_,_,_,hres,rfl,fun _=>zGr _ _ _ _ _ _ f,fun _=>zGs _ _ _ _ _ _ f,fun _=>zGt _ _ _ _ _ _ f,fun _=>zGu _ _ _ _ _ _ f,fun _=>zGq _ _ _ _ _ _ f⟩
    | cons ar0 ars =>
     refine aI rfl (zAj (q:=(q0 :: qs)) (an:=(an0 :: ans)) (ns:=([] : List RcX)) (ar:=(ar0 :: ars)) rfl rfl rfl rfl rfl rfl rfl rfl rfl rfl rfl (fun f=>?_))
     refine Eq.mpr (zGp _ _ _ _ _ _ _ f) ?_
     exact ⟨_,0,0,_,_,_,hres,rfl,fun _=>zGr _ _ _ _ _ _ f,fun _=>zGs _ _ _ _ _ _ f,fun _=>zGt _ _ _ _ _ _ f,fun _=>zGu _ _ _ _ _ _ f,fun _=>zGq _ _ _ _ _ _ f⟩
   | cons ns0 nss =>
    cases ar with
    | nil =>
     refine aI rfl (zAj (q:=(q0 :: qs)) (an:=(an0 :: ans)) (ns:=(ns0 :: nss)) (ar:=([] : List RcX)) rfl rfl rfl rfl rfl rfl rfl rfl rfl rfl rfl (fun f=>?_))
     refine Eq.mpr (zGp _ _ _ _ _ _ _ f) ?_
     exact ⟨_,0,0,_,_,_,hres,rfl,fun _=>zGr _ _ _ _ _ _ f,fun _=>zGs _ _ _ _ _ _ f,fun _=>zGt _ _ _ _ _ _ f,fun _=>zGu _ _ _ _ _ _ f,fun _=>zGq _ _ _ _ _ _ f⟩
    | cons ar0 ars =>
     refine aI rfl (zAj (q:=(q0 :: qs)) (an:=(an0 :: ans)) (ns:=(ns0 :: nss)) (ar:=(ar0 :: ars)) rfl rfl rfl rfl rfl rfl rfl rfl rfl rfl rfl (fun f=>?_))
     refine Eq.mpr (zGp _ _ _ _ _ _ _ f) ?_
     exact ⟨_,0,0,_,_,_,hres,rfl,fun _=>zGr _ _ _ _ _ _ f,fun _=>zGs _ _ _ _ _ _ f,fun _=>zGt _ _ _ _ _ _ f,fun _=>zGu _ _ _ _ _ _ f,fun _=>zGq _ _ _ _ _ _ f⟩
end
section
open Go Go.RowKit
theorem zPi {dp : Prop} {α : Type} {L : Lay α} {H : Tr AObj} {b : Nat} {l : List α} (hz : (Try.prog.info? L.t).map (·.size) = some L.k) (hb : b < JJ) (h : l ≠ [] -> H.get b = lsO L l) : FrzP dp Try.prog 0 H (lsV b l) (treeV L.k l.length (l.flatMap L.g)):=by
 cases l with
 | nil=>exact .one _ _ (.nil _)
 | cons x l=>exact OwnR.frz (e0:=L.t) hz (.inr ⟨b,rfl,hb,aZ _ _,h (aZ _ _)⟩)
def msgV (m : MsT) (e p : Int) : Value:=.tuple #[m.v,.agg #[.int .i64 e,.int .i64 p]]
theorem read_call {f : FuncId} {B : Bl} {v : Value} {H : Tr AObj} (hv : LtL layBy H v B) (hf : ∃ r,FnS Try.prog 0 f [trB B] .e 0 r /\ rmRes B r) (n : Nat) : ∃ u,CallOK Try.prog 0 f [v] H n (.ret u H n []) /\ ∃ m e p,msQ B m e p /\ u = msgV m e p:=by
 obtain ⟨r,hF,m,e,p,H',k,wr,hq,rfl,h2,h3,h4,h5,_⟩:=hf
 refine ⟨msgV m e p,?_,m,e,p,hq,rfl⟩
 refine zEm hF (.cons _ _ _ _ (LtL.frz (by kernel_rfl) hv) .nil) (.tuple _ _ (.cons _ _ _ _ (.agg _ _ (.cons _ _ _ _ (.one _ _ (.plain _ rfl)) (.cons _ _ _ _ (.one _ _ (.plain _ rfl)) (.cons _ _ _ _ (zPi (by kernel_rfl) (by decide) h2) (.cons _ _ _ _ (zPi (by kernel_rfl) (by decide) h3) (.cons _ _ _ _ (zPi (by kernel_rfl) (by decide) h4) (.cons _ _ _ _ (zPi (by kernel_rfl) (by decide) h5) .nil))))))) (.cons _ _ _ _ (.one _ _ (.plain _ rfl)) .nil)))
noncomputable def cq_msRead (f : FuncId) (hf : ∀ B : Bl,B.length<=1000000 -> ∃ r,FnS Try.prog 0 f [trB B] .e 0 r /\ rmRes B r) : CtQ Try.prog :=
 { f:=f,X:=Bl × Value,pre:=fun x a H _=>a = [x.2] /\ LtL layBy H x.2 x.1 /\ x.1.length<=1000000,Q:=fun x v=>∃ m e p,msQ x.1 m e p /\ v = msgV m e p,
   ok:=fun ⟨B,v⟩ a H n ⟨h1,h2,h3⟩=>by
    subst h1
    exact read_call h2 (hf B h3) n,
   uniq:=fun ⟨B,v⟩ ⟨C,u⟩ a H m ⟨h1,h2,_⟩ ⟨k1,k2,_⟩=>by
    rw [h1] at k1
    simp only [aQ,and_true] at k1
    have k1 : v = u:=k1
    subst k1
    rw [show B = C from LtL.uniq h2 k2] }
noncomputable def zXp : Ct Try.prog 0:=(cq_msRead 31 msRead_fn).ctY (MsT × Int × Int) (fun y=>msgV y.1 y.2.1 y.2.2) (fun (x : Bl × Value) y=>msQ x.1 y.1 y.2.1 y.2.2) (fun _ _ ⟨m,e,p,hq,h⟩=>⟨(m,e,p),h,hq⟩)
end
section
open Go Go.Joins Go.ChangeShapes Go.WideShapes Go.RowKit Go.Deep
section
variable {H : Type} {enc : TypeId × Value -> H} {w : World} {base : Nat} {spare : Nat -> Bool} {held : Bool}
theorem trod_o1 {n : Nat} {c : Value} {y : DataW H × List MemPlace} (h : DataW.trod enc Try.prog w base spare held n 4 [c] = some y) : ∃ x : Bool,c = .bool x:=by
 obtain ⟨a,e,_⟩:=DataW.trod_bool Try.underlying4 h
 simp only [aQ,and_true] at e
 exact ⟨a,e⟩
end
end
end Go.Proofs.Ytknpgjeclmadkaa
