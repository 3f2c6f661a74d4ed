/- DERIVED. Parts. -/
import Derived.SizedLaws
import Derived.Test.YtknpgjeclmadkaaZ14
import Derived.Test.YtknpgjeclmadkaaZ15
import Derived.Test.YtknpgjeclmadkaaZ17
import Derived.Test.YtknpgjeclmadkaaZ20
set_option maxRecDepth 1000000
set_option maxHeartbeats 32000000
namespace Go.Proofs.Ytknpgjeclmadkaa
section
open Go Go.Joins Go.ChangeShapes Go.WideShapes Go.RowKit Go.Deep
section
variable {H : Type} {enc : TypeId × Value -> H} {P : Program} {w : World} {base : Nat} {spare : Nat -> Bool} {held : Bool}
theorem zNg : ∀ (n : Nat) (t : TypeId) (ts : List TypeId) (m : Nat) (cs : List Value) (x : DataW H × List MemPlace),flatOK P n t ts = true -> DataW.trod enc P w base spare held m t cs = some x -> cs.length = ts.length -> ∀ (i : Nat) (u : TypeId) (v : Value),ts[i]? = some u -> cs[i]? = some v -> ∃ k y,DataW.trod enc P w base spare held k u [v] = some y /\ ∀ n ∈ y.1.weights P u,n ∈ x.1.weights P t
 | 0,_,_,_,_,_,h,_,_,_,_,_,_,_=>by cases h
 | n + 1,t,ts,m,cs,x,h,hx,hlen,i,u,v,hu,hv=>by
  unfold flatOK at h
  split at h
  ·rename_i fs hs
   simp only [bA] at h
   obtain ⟨⟨h1,h2⟩,h3⟩:=h
   obtain ⟨xs,n',_,hxe,hl,hxl,hf⟩:=DataW.trod_struct hs hx
   have hi : i < ts.length:=(gS.1 hu).1
   have h3:=aG.1 h3 i (List.mem_range.2 hi)
   obtain ⟨f,hfm,h4⟩:=List.any_eq_true.1 h3
   simp only [bA] at h4
   have ha:=aE h4.1
   have hb : i < f.offset + P.cellsOf f.type:=aE h4.2
   obtain ⟨j,hj⟩:=List.getElem?_of_mem hfm
   have hj' : fs[j]? = some f:=by rw [<- Array.getElem?_toList];exact hj
   have hjl : j < xs.length:=by rw [hxl];exact (gA.1 hj').1
   have hg:=hf j f hj'
   rw [gG hjl] at hg
   have hk:=aG.1 h2 f hfm
   obtain ⟨k,y,r1,r2⟩:=zNg n f.type _ n' _ _ hk hg (by simp only [aU,aM,hlen]) (i - f.offset) u v
    (by rw [List.getElem?_take_of_lt (by omega),List.getElem?_drop,show f.offset + (i - f.offset) = i by omega];exact hu)
    (by rw [List.getElem?_take_of_lt (by omega),List.getElem?_drop,show f.offset + (i - f.offset) = i by omega];exact hv)
   refine ⟨k,y,r1,fun q hq=>?_⟩
   rw [hxe]
   show q ∈ DataW.weights P t (.agg (xs.map (·.1)))
   unfold DataW.weights
   simp only [hs]
   exact DataW.weights_mem_each (j:=j) (t:=f.type) (d:=(xs[j]'hjl).1) (by rw [List.getElem?_map,hj];rfl) (by rw [List.getElem?_map,gG hjl];rfl) q (r2 q hq)
  split at h
  ·rename_i u'
   have := aA h
   subst this
   have hc : cs.length = 1:=hlen
   match cs,hc with
   | [c],_ =>
    cases i with
    | zero =>
     simp only [List.getElem?_cons_zero,aP] at hu hv
     subst hu;subst hv
     exact ⟨m,x,hx,fun q hq=>hq⟩
    | succ i=>simp at hu
  cases h
theorem zNq {r : Reach} {b0 : Nat} {t : TypeId} {fs : Array Field} {ts : List TypeId} {v : Value} {d : DataW H} {p : List MemPlace} (hs : P.underlying t = some (.struct fs)) (ht : flatOK P 8 t ts = true) (hC : P.cellsOf t = ts.length) (hct : P.cellTypes P.depth t = some ts)
  (hv : Value.okWide P w r b0 t v) (h : DataW.Trod enc P w base spare held t v d p) :
  ∃ cs : List Value,v = .agg ⟨cs⟩ /\ cs.length = ts.length /\ ∀ (i : Nat) (u : TypeId) (c : Value),ts[i]? = some u -> cs[i]? = some c -> Cell.okWide P w r b0 u c /\ ∃ k y,DataW.trod enc P w base spare held k u [c] = some y /\ ∀ n ∈ y.1.weights P u,n ∈ d.weights P t:=by
 simp only [Value.okWide,hs] at hv
 obtain ⟨⟨cs⟩,rfl,hsz,ts',h1,_,h2⟩:=hv
 rw [hct] at h1
 cases h1
 obtain ⟨fuel,hf⟩:=h
 have hl : cs.length = ts.length:=by rw [<- hC];exact hsz
 refine ⟨cs,rfl,hl,fun i u c hu hc=>⟨?_,?_⟩⟩
 ·have hi : i < ts.length:=(gS.1 hu).1
  obtain ⟨u',h3,h4⟩:=h2 i c (by simpa using hc)
  rw [Nat.mod_eq_of_lt hi,hu] at h3
  cases h3
  exact h4
 exact zNg 8 t ts fuel cs _ ht hf hl i u c hu hc
theorem vr_len {E : Env} {b o n c len cap : Nat} {a : Option Addr} (h : VR E (.slice (some ⟨b,o,none⟩) n c) (.slice a len cap)) : n<=len:=by
 cases h <;> first | exact aJ _ | exact aH _
theorem zEe {α : Type} (L : Lay α) {r : Reach} {b0 : Nat} {t e : TypeId} {v : Value} {fuel R : Nat} {x : DataW H × List MemPlace} (ht : P.underlying t = some (.slice e)) (hC : P.cellsOf e = L.k)
  (hopen : ∀ n cs y,DataW.trod enc P w base spare held n e cs = some y -> ∃ x,cs = L.g x) (hv : Cell.okWide P w r b0 t v) (h : DataW.trod enc P w base spare held fuel t [v] = some x) (hpos : 0 < w.heap.size) (hw : ∀ n ∈ x.1.weights P t,n<=R) :
  ∃ y : WinL α,y.good L w /\ y.l.length * P.bytesOf e<=R /\ ∀ (E : Env) (k : Nat),E.dom k -> E.ρ k = y.b -> E.sh k = y.off -> VR E (y.sl k) v:=by
 obtain ⟨y,h1,h2⟩:=open_winl L ht hC hopen hv h hpos
 refine ⟨y,h1,?_,h2⟩
 have hvr:=h2 ⟨fun _=>True,fun _=>y.b,fun _=>0,fun _=>0,fun _=>y.off,fun _=>False,fun _=>none⟩ 0 trivial rfl rfl
 rcases open_slice ht h with ⟨h0,_⟩ | ⟨a,len,cap,m,n,D,Pl,hcs,_,_,_,_,hx,_⟩
 ·simp only [aQ,and_true] at h0
  subst h0
  have : y.l.length = 0:=Nat.le_zero.1 (vr_len (b:=0) (o:=0) (c:=y.c) hvr)
  rw [this,Nat.zero_mul];exact aH _
 simp only [aQ,and_true] at hcs
 subst hcs
 have hle : y.l.length<=len:=vr_len (b:=0) (o:=0) (c:=y.c) hvr
 have hq:=hw ((len + (m - len)) * P.bytesOf e) (by
  rw [hx]
  show _ ∈ DataW.weights P t (.slice _ _)
  unfold DataW.weights
  simp only [ht,aT,List.length_range]
  exact List.mem_cons_self ..)
 exact aW (Nat.mul_le_mul_right _ (by omega)) hq
end
section
variable {H : Type} {enc : TypeId × Value -> H} {w : World} {base : Nat} {spare : Nat -> Bool} {held : Bool}
theorem bytes_q : Try.prog.bytesOf 57 = 32:=by kernel_rfl
theorem zSt : Try.prog.bytesOf 48 = 56:=by kernel_rfl
theorem weigh {ts : List TypeId} {ds : List (DataW H)} (h : (DataW.weightsEach Try.prog ts ds).all (·<=reachBytes) = true) {j : Nat} {t : TypeId} {d : DataW H} (ht : ts[j]? = some t) (hd : ds[j]? = some d) : ∀ n ∈ d.weights Try.prog t,n<=reachBytes:=fun n hn=>by
 have := aG.1 h n (DataW.weights_mem_each ht hd n hn)
 exact oT this
end
end
section
open Go Go.Joins Go.ChangeShapes Go.WideShapes Go.RowKit Go.Deep
theorem zEj {α : Type} (L : Lay α) {w : World} {y : WinL α} (hg : y.good L w) {v : Value} (h : ∀ (E : Env) (k : Nat),E.dom k -> E.ρ k = y.b -> E.sh k = y.off -> VR E (y.sl k) v) : VR (Env.all w) (treeV L.k y.l.length (y.l.flatMap L.g)) v:=by
 obtain ⟨g1,g2,g3,g4⟩:=hg
 have hvr : VR ⟨fun _=>True,fun _=>y.b,fun _=>0,fun _=>0,fun _=>y.off,fun _=>False,fun _=>none⟩ (.slice (some ⟨0,0,none⟩) y.l.length y.c) v:=h ⟨fun _=>True,fun _=>y.b,fun _=>0,fun _=>0,fun _=>y.off,fun _=>False,fun _=>none⟩ 0 trivial rfl rfl
 have hlen:=zAf L.g L.k L.len y.l
 have hpl:=zAb L.g L.plain y.l
 have cell : ∀ j,j < (y.l.flatMap L.g).length -> fzc (Env.all w).fz y.b (y.off + j) = some ((y.l.flatMap L.g).getD j undef):=fun j hj=>by
  have := g2 j _ (gG hj)
  rw [List.getD_eq_getElem?_getD,gG hj,Option.getD_some,<- this]
  unfold fzc World.cell? Env.all
  rfl
 have dv : ∀ (j : Nat) (u : Value),(y.l.flatMap L.g)[j]? = some u -> DV (Env.all w).fz u ((y.l.flatMap L.g).getD j undef):=fun j u hj=>by
  rw [List.getD_eq_getElem?_getD,hj,Option.getD_some]
  exact .plain _ (aG.1 hpl u (List.mem_of_getElem? hj))
 have hmx : maxLen = 9223372036854775807:=by decide
 obtain ⟨_,⟨_,rfl⟩ | ⟨hU,_⟩ | ⟨h0,_,a',_,rfl⟩⟩:=hvr.slice_inv
 ·exact .deep _ _ _ _ _ _ _ (.tree L.k _ y.c y.b y.off _ _ (fun j=>(y.l.flatMap L.g).getD j undef) hlen g3 g4 (.inl rfl) cell dv)
 ·have : U = 1180591620717411303424:=rfl
  omega
 rw [h0]
 have hn : y.l = []:=List.eq_nil_of_length_eq_zero h0
 rw [hn]
 exact .deep _ _ _ _ _ _ _ (.tree L.k 0 0 0 0 [] _ (fun _=>undef) (by simp) (aJ _) (aH _) (.inr ⟨rfl,fun _=>rfl⟩) (fun j hj=>by simp at hj) (fun j u hj=>by simp at hj))
end
section
open Go Go.Joins Go.ChangeShapes Go.WideShapes Go.RowKit Go.Deep
section
variable {H : Type} {enc : TypeId × Value -> H} {w : World} {base : Nat} {spare : Nat -> Bool} {held : Bool}
theorem open_msT {r : Reach} {b0 : Nat} (hpos : 0 < w.heap.size) (cs : List Value) (hl : cs.length = 6) (h : ∀ (i : Nat) (u : TypeId) (c : Value),msTypes[i]? = some u -> cs[i]? = some c -> Cell.okWide Try.prog w r b0 u c /\ ∃ k y,DataW.trod enc Try.prog w base spare held k u [c] = some y /\ ∀ n ∈ y.1.weights Try.prog u,n<=reachBytes) :
  ∃ m : MsT,m.fit 4398046511104 /\ VL (Env.all w) m.cs cs:=by
 match cs,hl with
 | [c0,c1,c2,c3,c4,c5],_ =>
  obtain ⟨_,_,_,h0,_⟩:=h 0 _ _ rfl rfl
  obtain ⟨_,_,_,h1,_⟩:=h 1 _ _ rfl rfl
  obtain ⟨o2,_,_,h2,w2⟩:=h 2 _ _ rfl rfl
  obtain ⟨o3,_,_,h3,w3⟩:=h 3 _ _ rfl rfl
  obtain ⟨o4,_,_,h4,w4⟩:=h 4 _ _ rfl rfl
  obtain ⟨o5,_,_,h5,w5⟩:=h 5 _ _ rfl rfl
  obtain ⟨x0,rfl⟩:=zDp h0
  obtain ⟨x1,rfl⟩:=zDp h1
  obtain ⟨q,g2,s2,e2⟩:=zEe layQ Try.underlying22 (by kernel_rfl) (fun _ _ _ hy=>trod_qu hy) o2 h2 hpos w2
  obtain ⟨an,g3,s3,e3⟩:=zEe layR Try.underlying23 (by kernel_rfl) (fun _ _ _ hy=>zUu hy) o3 h3 hpos w3
  obtain ⟨ns,g4,s4,e4⟩:=zEe layR Try.underlying23 (by kernel_rfl) (fun _ _ _ hy=>zUu hy) o4 h4 hpos w4
  obtain ⟨ar,g5,s5,e5⟩:=zEe layR Try.underlying23 (by kernel_rfl) (fun _ _ _ hy=>zUu hy) o5 h5 hpos w5
  have hR : reachBytes = 140737488351232:=by decide
  have s2 : q.l.length * 32<=reachBytes:=bytes_q ▸ s2
  have s3 : an.l.length * 56<=reachBytes:=zSt ▸ s3
  have s4 : ns.l.length * 56<=reachBytes:=zSt ▸ s4
  have s5 : ar.l.length * 56<=reachBytes:=zSt ▸ s5
  exact ⟨⟨x0,x1,q.l,an.l,ns.l,ar.l⟩,⟨by show q.l.length<=_;omega,by show an.l.length<=_;omega,by show ns.l.length<=_;omega,by show ar.l.length<=_;omega⟩,
   .cons _ _ _ _ (.int _ _) (.cons _ _ _ _ (.int _ _) (.cons _ _ _ _ (zEj layQ g2 e2) (.cons _ _ _ _ (zEj layR g3 e3) (.cons _ _ _ _ (zEj layR g4 e4) (.cons _ _ _ _ (zEj layR g5 e5) .nil)))))⟩
theorem open_msgT {r : Reach} {b0 : Nat} {v : Value} {d : DataW H} {p : List MemPlace} (hpos : 0 < w.heap.size) (hv : Value.okWide Try.prog w r b0 25 v) (h : DataW.Trod enc Try.prog w base spare held 25 v d p) (hw : ∀ n ∈ d.weights Try.prog 25,n<=reachBytes) :
  ∃ m : MsT,m.fit 4398046511104 /\ VR (Env.all w) m.v v:=by
 obtain ⟨cs,rfl,hl,hf⟩:=zNq (ts:=msTypes) Try.underlying25 (by kernel_rfl) (by kernel_rfl) (by kernel_rfl) hv h
 obtain ⟨m,h1,h2⟩:=open_msT hpos cs hl (fun i u c hu hc=>by
  obtain ⟨q1,k,y,q2,q3⟩:=hf i u c hu hc
  exact ⟨q1,k,y,q2,fun n hn=>hw n (q3 n hn)⟩)
 exact ⟨m,h1,.agg _ _ h2⟩
end
theorem MsT.few {m : MsT} {n : Int} {k : Nat} (hk : n<=k) (hf : m.fit 4398046511104) {y : Int} (h : m.big n y = false) : m.q.length + m.an.length + m.ns.length + m.ar.length<=k:=by
 obtain ⟨h1,h2,h3,h4⟩:=hf
 unfold MsT.big at h
 have h:=(Bool.or_eq_false_iff.1 h).1
 have h:=oF h
 unfold MsT.len at h
 rw [wrapM (x:=(m.q.length : Int) + (m.an.length : Int)) (by omega) (by omega)] at h
 rw [wrapM (x:=(m.q.length : Int) + (m.an.length : Int) + (m.ns.length : Int)) (by omega) (by omega)] at h
 rw [wrapM (by omega) (by omega)] at h
 omega
theorem MsT.few_fit {m : MsT} {n : Int} {k : Nat} (hk : n<=k) (hf : m.fit 4398046511104) {y : Int} (h : m.big n y = false) : m.fit k:=by
 have := MsT.few hk hf h
 exact ⟨by omega,by omega,by omega,by omega⟩
theorem MsT.small_ar {m : MsT} {n : Int} {y : Int} (h : m.big n y = false) : ∀ x ∈ m.ar,(x.n.data.toList.length : Int)<=y /\ (x.d.data.toList.length : Int)<=y:=fun x hx=>by
 unfold MsT.big at h
 simp only [Bool.or_eq_false_iff] at h
 have := h.2.2.2.2
 have := List.any_eq_false.1 this x hx
 unfold bigR at this
 simp only [Bool.or_eq_true,dT,not_or,Array.length_toList] at this ⊢
 omega
end
section
open Go Go.RowKit
def bigO (y : Int) (o : OpX) : Bool:=decide ((o.d.size : Int) > y)
noncomputable def tbEp0 : Tb Try.prog 0:=tbOf mixed []
theorem bigE_tr (e : EdX) (n y : Int) (hl : e.o.length<=9223372036854775807) : ∃ r,FnS Try.prog 0 9 [e.v,.int .i64 n,.int .i64 y] .e 0 r /\ ∃ H m wr,r = .ret (.bool (e.o.any (bigO y) || decide ((e.o.length : Int) > n))) H m wr:=by
 refine zBo mixed tbEp0 [] Try.func9 (c:=bodyOf Try.f9) (by kernel_rfl) ?_
 refine zAp (fun (i : Nat) f=>⟨slots 6 [(1,.int .i64 n),(2,.int .i64 y),(3,.pointer (some ⟨0,0,none⟩)),(7,.int .i64 (i : Nat))] f,heap 1 [(0,.cells e.cs 28)],1,[],[]⟩) (fun i=>e.o.length - i) (fun i=>i<=e.o.length /\ e.o.any (bigO y) = (e.o.drop i).any (bigO y)) 0 ⟨aH _,rfl⟩ (rcq [0] ⟨(sI rfl),(sI rfl),(sP rfl rfl),(sI rfl),tv⟩ ⟨⟨by decide,_,rfl,RO.clos rfl⟩,tv⟩ .nil) ?_
 rintro i f ⟨hi,heq⟩
 refine zAq tbEp0 [] 0 _ none mixed _ _ _ ?_
 refine ifK (fun h1=>?_) (fun h1=>?_)
 ·have h1 : i < e.o.length:=by have h1 : ((i : Nat) : Int) < (e.o.length : Int):=oT h1;omega
  have hst : (e.o.drop i).any (bigO y) = (bigO y e.o[i] || (e.o.drop (i + 1)).any (bigO y)):=by rw [bD h1];rfl
  rw [hst] at heq
  refine ifK (fun _=>?_) (fun h2=>ab h2 (by simp [inI];omega))
  refine eI e.o[i].c (eI e.o[i].d (aI (zBa layO h1) ?_))
  refine ifK (fun h2=>?_) (fun h2=>?_)
  ·have q : e.o.any (bigO y) = true:=by rw [heq];unfold bigO;rw [show decide ((e.o[i].d.size : Int) > y) = true from h2];rfl
   refine aI rfl (zAh (rcq [] (d:=6) (d2:=0) (lv:=[(6,.bool true)]) (bs:=[]) (W:=[]) (m:=0) (df:=[]) ⟨⟨_,rfl,zAu 8 rfl⟩,tv⟩ trivial .nil) (fun f=>?_))
   rw [q];exact ⟨_,_,_,rfl⟩
  refine ⟨i + 1,⟨h1,?_⟩,by show e.o.length - (i + 1) < e.o.length - i;omega,rcq [0] ⟨(sI rfl),(sI rfl),(sP rfl rfl),zAa rfl (by rw [wrapN (by omega) (by omega)];omega),tv⟩ ⟨⟨by decide,_,rfl,RO.clos rfl⟩,tv⟩ .nil⟩
  rw [heq];unfold bigO;rw [show decide ((e.o[i].d.size : Int) > y) = false from h2];rfl
 have h1 : ¬ i < e.o.length:=by have h1 : ¬ ((i : Nat) : Int) < (e.o.length : Int):=oF h1;omega
 have q : e.o.any (bigO y) = false:=by rw [heq,bE (by omega)];rfl
 refine aI rfl (zAh (rcq [0] (d:=6) (d2:=1) (lv:=[(1,.int .i64 n),(3,.pointer (some ⟨0,0,none⟩))]) (bs:=[(0,.cells e.cs 28)]) (W:=[]) (m:=1) (df:=[]) ⟨(sI rfl),(sP rfl rfl),tv⟩ ⟨⟨by decide,_,rfl,RO.clos rfl⟩,tv⟩ .nil) (fun f=>?_))
 rw [q];exact ⟨_,_,_,rfl⟩
noncomputable def ct_bigET : Ct Try.prog 0:=CtR.tree 9 (EdX × Int × Int) (fun x=>[x.1.v,.int .i64 x.2.1,.int .i64 x.2.2]) (fun x=>x.1.o.length<=9223372036854775807) (fun x=>.bool (x.1.o.any (bigO x.2.2) || decide ((x.1.o.length : Int) > x.2.1))) (fun a b h=>by simp only [aQ,Value.int.injEq,true_and,and_true] at h;exact Prod.ext (EdX.v_inj h.1) (Prod.ext h.2.1 h.2.2)) (fun _=>rfl)
 (fun x hl=>by obtain ⟨r,hF,H,m,wr,rfl⟩:=bigE_tr x.1 x.2.1 x.2.2 hl;exact ⟨_,_,_,_,hF,.one _ _ (.plain _ rfl)⟩)
def okC (o : OpX) : Bool:=decide (o.c >= 0)&&decide (o.c<=65535)
def sumO : List OpX -> Nat
 | []=>0
 | o :: l=>sumO l + (4 + o.d.size)
theorem zBy {l : List OpX} {i : Nat} (h : i < l.length) : sumO (l.take (i + 1)) = sumO (l.take i) + (4 + l[i].d.size):=by
 induction l generalizing i with
 | nil=>cases h
 | cons o l ih =>
  cases i with
  | zero=>rfl
  | succ i =>
   have h' : i < l.length:=by simpa using h
   have := ih (i:=i) h'
   show sumO (l.take (i + 1)) + _ = (sumO (l.take i) + _) + _
   rw [this]
   show _ = sumO (l.take i) + (4 + o.d.size) + (4 + (l[i]'h').d.size)
   omega
theorem sumO_le {B : Nat} : ∀ {l : List OpX},(∀ o ∈ l,o.d.size<=B) -> sumO l<=l.length * (4 + B)
 | [],_=>aH _
 | o :: l,h=>by
  have h1:=sumO_le (l:=l) fun x hx=>h x (List.mem_cons_of_mem _ hx)
  have h2:=h o (List.mem_cons_self ..)
  show sumO l + _<=(l.length + 1) * (4 + B)
  rw [Nat.add_mul];omega
def fineE (e : EdX) : Bool:=decide (e.size >= 0)&&(decide (e.size<=65535)&&(decide (e.ext >= 0)&&(decide (e.ext<=127)&&(decide (e.ver >= 0)&&decide (e.ver<=255)))))
def chkE (e : EdX) : Int:=if (fineE e&&e.o.all okC) = false then 5 else if sumO e.o > 65535 then 2 else 0
noncomputable def tbEp1 : Tb Try.prog 0:=tbOf mixed [zNi]
def EdX.small (e : EdX) : Prop:=e.o.length<=1000 /\ ∀ o ∈ e.o,o.d.size<=1000000
theorem zGb {l : List OpX} {i : Nat} (h : i < l.length) : (l.take (i + 1)).all okC = ((l.take i).all okC&&okC l[i]):=by rw [List.take_succ_eq_append_getElem h,List.all_append];simp
theorem chk_tr (e : EdX) (hs : e.small) : ∃ r,FnS Try.prog 0 15 [e.v] .e 0 r /\ ∃ H m wr,r = .ret (.int .i64 (chkE e)) H m wr:=by
 obtain ⟨hl,hb⟩:=hs
 have hsum : ∀ i,i<=e.o.length -> sumO (e.o.take i)<=1000004000:=fun i hi=>aW (sumO_le fun o ho=>hb o (List.mem_of_mem_take ho)) (by rw [aU,Nat.min_eq_left hi];omega)
 refine zBo mixed tbEp1 [] Try.func15 (c:=bodyOf Try.f15) (by kernel_rfl) ?_
 refine ifK (fun g0=>?_) (fun g0=>?_)
 rotate_left
 ·have hg : fineE e = false:=by have g : decide (e.size >= 0) = false:=g0;unfold fineE;rw [g];simp
  refine zAp (fun (p : Nat × Bool) f=>⟨slots 6 [(3,.int .i64 ((sumO (e.o.take p.1) : Nat) : Int)),(4,.bool p.2),(21,trO e.o),(22,.int .i64 (e.o.length : Nat)),(23,.int .i64 (p.1 : Nat))] f,heap 0 [],0,[],[]⟩) (fun p=>e.o.length - p.1) (fun p=>p.1<=e.o.length /\ p.2 = (fineE e&&(e.o.take p.1).all okC)) (0,false) ⟨aH _,by rw [hg];simp⟩ (rcq [] ⟨(sI rfl),⟨_,rfl,.bool _⟩,⟨_,rfl,zAe 8 rfl⟩,(sI rfl),(sI rfl),tv⟩ trivial .nil) ?_
  rintro ⟨i,b⟩ f ⟨hi,hb2⟩
  have hi : i<=e.o.length:=hi
  have hb2 : b = (fineE e&&(e.o.take i).all okC):=hb2
  refine zAq tbEp1 [] 0 _ none mixed _ _ _ ?_
  refine ifK (fun h1=>?_) (fun h1=>?_)
  ·have h1 : i < e.o.length:=by have h1 : ((i : Nat) : Int) < (e.o.length : Int):=oT h1;omega
   have hw : IntKind.i64.wrap (((sumO (e.o.take i) : Nat) : Int) + IntKind.i64.wrap (4 + (e.o[i].d.size : Int))) = ((sumO (e.o.take (i + 1)) : Nat) : Int):=by have := hsum (i + 1) h1;have e1:=zBy h1;rw [wrapN (x:=4 + (e.o[i].d.size : Int)) (by omega) (by omega),wrapN (by omega) (by omega)];omega
   have hw2 : IntKind.i64.wrap (IntKind.i64.wrap (((sumO (e.o.take i) : Nat) : Int) + 4) + (e.o[i].d.size : Int)) = ((sumO (e.o.take (i + 1)) : Nat) : Int):=by have := hsum (i + 1) h1;have e1:=zBy h1;have e3 : IntKind.i64.wrap (((sumO (e.o.take i) : Nat) : Int) + 4) = ((sumO (e.o.take i) + 4 : Nat) : Int):=(by rw [wrapN (by omega) (by omega)];omega);rw [e3,wrapN (by omega) (by omega)];omega
   have ha:=zGb h1
   refine ifK (fun _=>?_) (fun h2=>ab h2 (by simp [inI];omega))
   refine eI e.o[i].c (eI e.o[i].d (aI (zBa layO h1) ?_))
   refine ifK (fun hb1=>?_) (fun hb1=>?_)
   ·have hb1 : b = true:=hb1
    rw [hb1] at hb2
    refine ifK (fun h3=>?_) (fun h3=>?_)
    ·exact ⟨(i + 1,decide (e.o[i].c<=65535)),⟨h1,by show _ = (fineE e&&(e.o.take (i + 1)).all okC);rw [ha,<- Bool.and_assoc,<- hb2];unfold okC;rw [show decide (e.o[i].c >= 0) = true from h3];rfl⟩,by show e.o.length - (i + 1) < e.o.length - i;omega,rcq [] ⟨zAa rfl hw,⟨_,rfl,.bool _⟩,⟨_,rfl,zAe 8 rfl⟩,(sI rfl),zAa rfl (by rw [wrapN (by omega) (by omega)];omega),tv⟩ trivial .nil⟩
    exact ⟨(i + 1,false),⟨h1,by show _ = (fineE e&&(e.o.take (i + 1)).all okC);rw [ha,<- Bool.and_assoc,<- hb2];unfold okC;rw [show decide (e.o[i].c >= 0) = false from h3];rfl⟩,by show e.o.length - (i + 1) < e.o.length - i;omega,rcq [] ⟨zAa rfl hw,⟨_,rfl,.bool _⟩,⟨_,rfl,zAe 8 rfl⟩,(sI rfl),zAa rfl (by rw [wrapN (by omega) (by omega)];omega),tv⟩ trivial .nil⟩
   have hb1 : b = false:=hb1
   rw [hb1] at hb2
   exact ⟨(i + 1,false),⟨h1,by show _ = (fineE e&&(e.o.take (i + 1)).all okC);rw [ha,<- Bool.and_assoc,<- hb2];rfl⟩,by show e.o.length - (i + 1) < e.o.length - i;omega,rcq [] ⟨zAa rfl hw,⟨_,rfl,.bool _⟩,⟨_,rfl,zAe 8 rfl⟩,(sI rfl),zAa rfl (by rw [wrapN (by omega) (by omega)];omega),tv⟩ trivial .nil⟩
  have h1 : ¬ i < e.o.length:=by have h1 : ¬ ((i : Nat) : Int) < (e.o.length : Int):=oF h1;omega
  have hil : i = e.o.length:=by omega
  subst hil
  rw [List.take_length] at hb2
  refine aI rfl (zAh (rcq [] (d:=6) (d2:=0) (lv:=[(3,.int .i64 ((sumO (e.o.take e.o.length) : Nat) : Int)),(4,.bool b)]) (bs:=[]) (W:=[]) (m:=0) (df:=[]) ⟨(sI rfl),⟨_,rfl,.bool _⟩,tv⟩ trivial .nil) (fun f=>?_))
  refine ifK (fun hb1=>?_) (fun hb1=>?_)
  ·have hb1 : (!b) = true:=hb1
   have hb1 : b = false:=by simpa using hb1
   rw [show chkE e = 5 by unfold chkE;rw [if_pos (by rw [<- hb2,hb1])]]
   exact ⟨_,_,_,rfl⟩
  have hb1 : (!b) = false:=hb1
  have hb1 : b = true:=by simpa using hb1
  refine ifK (fun h5=>?_) (fun h5=>?_)
  ·have h5 : decide (((sumO (e.o.take e.o.length) : Nat) : Int) > 65535) = true:=h5
   rw [List.take_length] at h5
   rw [show chkE e = 2 by unfold chkE;rw [if_neg (by rw [<- hb2,hb1];simp),if_pos (by have := oT h5;omega)]]
   exact ⟨_,_,_,rfl⟩
  have h5 : decide (((sumO (e.o.take e.o.length) : Nat) : Int) > 65535) = false:=h5
  rw [List.take_length] at h5
  rw [show chkE e = 0 by unfold chkE;rw [if_neg (by rw [<- hb2,hb1];simp),if_neg (by have := oF h5;omega)]]
  exact ⟨_,_,_,rfl⟩
 refine ifK (fun g1=>?_) (fun g1=>?_)
 rotate_left
 ·have hg : fineE e = false:=by have g : decide (e.size<=65535) = false:=g1;unfold fineE;rw [g];simp
  refine zAp (fun (p : Nat × Bool) f=>⟨slots 6 [(3,.int .i64 ((sumO (e.o.take p.1) : Nat) : Int)),(4,.bool p.2),(21,trO e.o),(22,.int .i64 (e.o.length : Nat)),(23,.int .i64 (p.1 : Nat))] f,heap 0 [],0,[],[]⟩) (fun p=>e.o.length - p.1) (fun p=>p.1<=e.o.length /\ p.2 = (fineE e&&(e.o.take p.1).all okC)) (0,false) ⟨aH _,by rw [hg];simp⟩ (rcq [] ⟨(sI rfl),⟨_,rfl,.bool _⟩,⟨_,rfl,zAe 8 rfl⟩,(sI rfl),(sI rfl),tv⟩ trivial .nil) ?_
  rintro ⟨i,b⟩ f ⟨hi,hb2⟩
  have hi : i<=e.o.length:=hi
  have hb2 : b = (fineE e&&(e.o.take i).all okC):=hb2
  refine zAq tbEp1 [] 0 _ none mixed _ _ _ ?_
  refine ifK (fun h1=>?_) (fun h1=>?_)
  ·have h1 : i < e.o.length:=by have h1 : ((i : Nat) : Int) < (e.o.length : Int):=oT h1;omega
   have hw : IntKind.i64.wrap (((sumO (e.o.take i) : Nat) : Int) + IntKind.i64.wrap (4 + (e.o[i].d.size : Int))) = ((sumO (e.o.take (i + 1)) : Nat) : Int):=by have := hsum (i + 1) h1;have e1:=zBy h1;rw [wrapN (x:=4 + (e.o[i].d.size : Int)) (by omega) (by omega),wrapN (by omega) (by omega)];omega
   have hw2 : IntKind.i64.wrap (IntKind.i64.wrap (((sumO (e.o.take i) : Nat) : Int) + 4) + (e.o[i].d.size : Int)) = ((sumO (e.o.take (i + 1)) : Nat) : Int):=by have := hsum (i + 1) h1;have e1:=zBy h1;have e3 : IntKind.i64.wrap (((sumO (e.o.take i) : Nat) : Int) + 4) = ((sumO (e.o.take i) + 4 : Nat) : Int):=(by rw [wrapN (by omega) (by omega)];omega);rw [e3,wrapN (by omega) (by omega)];omega
   have ha:=zGb h1
   refine ifK (fun _=>?_) (fun h2=>ab h2 (by simp [inI];omega))
   refine eI e.o[i].c (eI e.o[i].d (aI (zBa layO h1) ?_))
   refine ifK (fun hb1=>?_) (fun hb1=>?_)
   ·have hb1 : b = true:=hb1
    rw [hb1] at hb2
    refine ifK (fun h3=>?_) (fun h3=>?_)
    ·exact ⟨(i + 1,decide (e.o[i].c<=65535)),⟨h1,by show _ = (fineE e&&(e.o.take (i + 1)).all okC);rw [ha,<- Bool.and_assoc,<- hb2];unfold okC;rw [show decide (e.o[i].c >= 0) = true from h3];rfl⟩,by show e.o.length - (i + 1) < e.o.length - i;omega,rcq [] ⟨zAa rfl hw,⟨_,rfl,.bool _⟩,⟨_,rfl,zAe 8 rfl⟩,(sI rfl),zAa rfl (by rw [wrapN (by omega) (by omega)];omega),tv⟩ trivial .nil⟩
    exact ⟨(i + 1,false),⟨h1,by show _ = (fineE e&&(e.o.take (i + 1)).all okC);rw [ha,<- Bool.and_assoc,<- hb2];unfold okC;rw [show decide (e.o[i].c >= 0) = false from h3];rfl⟩,by show e.o.length - (i + 1) < e.o.length - i;omega,rcq [] ⟨zAa rfl hw,⟨_,rfl,.bool _⟩,⟨_,rfl,zAe 8 rfl⟩,(sI rfl),zAa rfl (by rw [wrapN (by omega) (by omega)];omega),tv⟩ trivial .nil⟩
   have hb1 : b = false:=hb1
   rw [hb1] at hb2
   exact ⟨(i + 1,false),⟨h1,by show _ = (fineE e&&(e.o.take (i + 1)).all okC);rw [ha,<- Bool.and_assoc,<- hb2];rfl⟩,by show e.o.length - (i + 1) < e.o.length - i;omega,rcq [] ⟨zAa rfl hw,⟨_,rfl,.bool _⟩,⟨_,rfl,zAe 8 rfl⟩,(sI rfl),zAa rfl (by rw [wrapN (by omega) (by omega)];omega),tv⟩ trivial .nil⟩
  have h1 : ¬ i < e.o.length:=by have h1 : ¬ ((i : Nat) : Int) < (e.o.length : Int):=oF h1;omega
  have hil : i = e.o.length:=by omega
  subst hil
  rw [List.take_length] at hb2
  refine aI rfl (zAh (rcq [] (d:=6) (d2:=0) (lv:=[(3,.int .i64 ((sumO (e.o.take e.o.length) : Nat) : Int)),(4,.bool b)]) (bs:=[]) (W:=[]) (m:=0) (df:=[]) ⟨(sI rfl),⟨_,rfl,.bool _⟩,tv⟩ trivial .nil) (fun f=>?_))
  refine ifK (fun hb1=>?_) (fun hb1=>?_)
  ·have hb1 : (!b) = true:=hb1
   have hb1 : b = false:=by simpa using hb1
   rw [show chkE e = 5 by unfold chkE;rw [if_pos (by rw [<- hb2,hb1])]]
   exact ⟨_,_,_,rfl⟩
  have hb1 : (!b) = false:=hb1
  have hb1 : b = true:=by simpa using hb1
  refine ifK (fun h5=>?_) (fun h5=>?_)
  ·have h5 : decide (((sumO (e.o.take e.o.length) : Nat) : Int) > 65535) = true:=h5
   rw [List.take_length] at h5
   rw [show chkE e = 2 by unfold chkE;rw [if_neg (by rw [<- hb2,hb1];simp),if_pos (by have := oT h5;omega)]]
   exact ⟨_,_,_,rfl⟩
  have h5 : decide (((sumO (e.o.take e.o.length) : Nat) : Int) > 65535) = false:=h5
  rw [List.take_length] at h5
  rw [show chkE e = 0 by unfold chkE;rw [if_neg (by rw [<- hb2,hb1];simp),if_neg (by have := oF h5;omega)]]
  exact ⟨_,_,_,rfl⟩
 refine ifK (fun g2=>?_) (fun g2=>?_)
 rotate_left
 ·have hg : fineE e = false:=by have g : decide (e.ext >= 0) = false:=g2;unfold fineE;rw [g];simp
  refine zAp (fun (p : Nat × Bool) f=>⟨slots 6 [(3,.int .i64 ((sumO (e.o.take p.1) : Nat) : Int)),(4,.bool p.2),(21,trO e.o),(22,.int .i64 (e.o.length : Nat)),(23,.int .i64 (p.1 : Nat))] f,heap 0 [],0,[],[]⟩) (fun p=>e.o.length - p.1) (fun p=>p.1<=e.o.length /\ p.2 = (fineE e&&(e.o.take p.1).all okC)) (0,false) ⟨aH _,by rw [hg];simp⟩ (rcq [] ⟨(sI rfl),⟨_,rfl,.bool _⟩,⟨_,rfl,zAe 8 rfl⟩,(sI rfl),(sI rfl),tv⟩ trivial .nil) ?_
  rintro ⟨i,b⟩ f ⟨hi,hb2⟩
  have hi : i<=e.o.length:=hi
  have hb2 : b = (fineE e&&(e.o.take i).all okC):=hb2
  refine zAq tbEp1 [] 0 _ none mixed _ _ _ ?_
  refine ifK (fun h1=>?_) (fun h1=>?_)
  ·have h1 : i < e.o.length:=by have h1 : ((i : Nat) : Int) < (e.o.length : Int):=oT h1;omega
   have hw : IntKind.i64.wrap (((sumO (e.o.take i) : Nat) : Int) + IntKind.i64.wrap (4 + (e.o[i].d.size : Int))) = ((sumO (e.o.take (i + 1)) : Nat) : Int):=by have := hsum (i + 1) h1;have e1:=zBy h1;rw [wrapN (x:=4 + (e.o[i].d.size : Int)) (by omega) (by omega),wrapN (by omega) (by omega)];omega
   have hw2 : IntKind.i64.wrap (IntKind.i64.wrap (((sumO (e.o.take i) : Nat) : Int) + 4) + (e.o[i].d.size : Int)) = ((sumO (e.o.take (i + 1)) : Nat) : Int):=by have := hsum (i + 1) h1;have e1:=zBy h1;have e3 : IntKind.i64.wrap (((sumO (e.o.take i) : Nat) : Int) + 4) = ((sumO (e.o.take i) + 4 : Nat) : Int):=(by rw [wrapN (by omega) (by omega)];omega);rw [e3,wrapN (by omega) (by omega)];omega
   have ha:=zGb h1
   refine ifK (fun _=>?_) (fun h2=>ab h2 (by simp [inI];omega))
   refine eI e.o[i].c (eI e.o[i].d (aI (zBa layO h1) ?_))
   refine ifK (fun hb1=>?_) (fun hb1=>?_)
   ·have hb1 : b = true:=hb1
    rw [hb1] at hb2
    refine ifK (fun h3=>?_) (fun h3=>?_)
    ·exact ⟨(i + 1,decide (e.o[i].c<=65535)),⟨h1,by show _ = (fineE e&&(e.o.take (i + 1)).all okC);rw [ha,<- Bool.and_assoc,<- hb2];unfold okC;rw [show decide (e.o[i].c >= 0) = true from h3];rfl⟩,by show e.o.length - (i + 1) < e.o.length - i;omega,rcq [] ⟨zAa rfl hw,⟨_,rfl,.bool _⟩,⟨_,rfl,zAe 8 rfl⟩,(sI rfl),zAa rfl (by rw [wrapN (by omega) (by omega)];omega),tv⟩ trivial .nil⟩
    exact ⟨(i + 1,false),⟨h1,by show _ = (fineE e&&(e.o.take (i + 1)).all okC);rw [ha,<- Bool.and_assoc,<- hb2];unfold okC;rw [show decide (e.o[i].c >= 0) = false from h3];rfl⟩,by show e.o.length - (i + 1) < e.o.length - i;omega,rcq [] ⟨zAa rfl hw,⟨_,rfl,.bool _⟩,⟨_,rfl,zAe 8 rfl⟩,(sI rfl),zAa rfl (by rw [wrapN (by omega) (by omega)];omega),tv⟩ trivial .nil⟩
   have hb1 : b = false:=hb1
   rw [hb1] at hb2
   exact ⟨(i + 1,false),⟨h1,by show _ = (fineE e&&(e.o.take (i + 1)).all okC);rw [ha,<- Bool.and_assoc,<- hb2];rfl⟩,by show e.o.length - (i + 1) < e.o.length - i;omega,rcq [] ⟨zAa rfl hw,⟨_,rfl,.bool _⟩,⟨_,rfl,zAe 8 rfl⟩,(sI rfl),zAa rfl (by rw [wrapN (by omega) (by omega)];omega),tv⟩ trivial .nil⟩
  have h1 : ¬ i < e.o.length:=by have h1 : ¬ ((i : Nat) : Int) < (e.o.length : Int):=oF h1;omega
  have hil : i = e.o.length:=by omega
  subst hil
  rw [List.take_length] at hb2
  refine aI rfl (zAh (rcq [] (d:=6) (d2:=0) (lv:=[(3,.int .i64 ((sumO (e.o.take e.o.length) : Nat) : Int)),(4,.bool b)]) (bs:=[]) (W:=[]) (m:=0) (df:=[]) ⟨(sI rfl),⟨_,rfl,.bool _⟩,tv⟩ trivial .nil) (fun f=>?_))
  refine ifK (fun hb1=>?_) (fun hb1=>?_)
  ·have hb1 : (!b) = true:=hb1
   have hb1 : b = false:=by simpa using hb1
   rw [show chkE e = 5 by unfold chkE;rw [if_pos (by rw [<- hb2,hb1])]]
   exact ⟨_,_,_,rfl⟩
  have hb1 : (!b) = false:=hb1
  have hb1 : b = true:=by simpa using hb1
  refine ifK (fun h5=>?_) (fun h5=>?_)
  ·have h5 : decide (((sumO (e.o.take e.o.length) : Nat) : Int) > 65535) = true:=h5
   rw [List.take_length] at h5
   rw [show chkE e = 2 by unfold chkE;rw [if_neg (by rw [<- hb2,hb1];simp),if_pos (by have := oT h5;omega)]]
   exact ⟨_,_,_,rfl⟩
  have h5 : decide (((sumO (e.o.take e.o.length) : Nat) : Int) > 65535) = false:=h5
  rw [List.take_length] at h5
  rw [show chkE e = 0 by unfold chkE;rw [if_neg (by rw [<- hb2,hb1];simp),if_neg (by have := oF h5;omega)]]
  exact ⟨_,_,_,rfl⟩
 refine ifK (fun g3=>?_) (fun g3=>?_)
 rotate_left
 ·have hg : fineE e = false:=by have g : decide (e.ext<=127) = false:=g3;unfold fineE;rw [g];simp
  refine zAp (fun (p : Nat × Bool) f=>⟨slots 6 [(3,.int .i64 ((sumO (e.o.take p.1) : Nat) : Int)),(4,.bool p.2),(21,trO e.o),(22,.int .i64 (e.o.length : Nat)),(23,.int .i64 (p.1 : Nat))] f,heap 0 [],0,[],[]⟩) (fun p=>e.o.length - p.1) (fun p=>p.1<=e.o.length /\ p.2 = (fineE e&&(e.o.take p.1).all okC)) (0,false) ⟨aH _,by rw [hg];simp⟩ (rcq [] ⟨(sI rfl),⟨_,rfl,.bool _⟩,⟨_,rfl,zAe 8 rfl⟩,(sI rfl),(sI rfl),tv⟩ trivial .nil) ?_
  rintro ⟨i,b⟩ f ⟨hi,hb2⟩
  have hi : i<=e.o.length:=hi
  have hb2 : b = (fineE e&&(e.o.take i).all okC):=hb2
  refine zAq tbEp1 [] 0 _ none mixed _ _ _ ?_
  refine ifK (fun h1=>?_) (fun h1=>?_)
  ·have h1 : i < e.o.length:=by have h1 : ((i : Nat) : Int) < (e.o.length : Int):=oT h1;omega
   have hw : IntKind.i64.wrap (((sumO (e.o.take i) : Nat) : Int) + IntKind.i64.wrap (4 + (e.o[i].d.size : Int))) = ((sumO (e.o.take (i + 1)) : Nat) : Int):=by have := hsum (i + 1) h1;have e1:=zBy h1;rw [wrapN (x:=4 + (e.o[i].d.size : Int)) (by omega) (by omega),wrapN (by omega) (by omega)];omega
   have hw2 : IntKind.i64.wrap (IntKind.i64.wrap (((sumO (e.o.take i) : Nat) : Int) + 4) + (e.o[i].d.size : Int)) = ((sumO (e.o.take (i + 1)) : Nat) : Int):=by have := hsum (i + 1) h1;have e1:=zBy h1;have e3 : IntKind.i64.wrap (((sumO (e.o.take i) : Nat) : Int) + 4) = ((sumO (e.o.take i) + 4 : Nat) : Int):=(by rw [wrapN (by omega) (by omega)];omega);rw [e3,wrapN (by omega) (by omega)];omega
   have ha:=zGb h1
   refine ifK (fun _=>?_) (fun h2=>ab h2 (by simp [inI];omega))
   refine eI e.o[i].c (eI e.o[i].d (aI (zBa layO h1) ?_))
   refine ifK (fun hb1=>?_) (fun hb1=>?_)
   ·have hb1 : b = true:=hb1
    rw [hb1] at hb2
    refine ifK (fun h3=>?_) (fun h3=>?_)
    ·exact ⟨(i + 1,decide (e.o[i].c<=65535)),⟨h1,by show _ = (fineE e&&(e.o.take (i + 1)).all okC);rw [ha,<- Bool.and_assoc,<- hb2];unfold okC;rw [show decide (e.o[i].c >= 0) = true from h3];rfl⟩,by show e.o.length - (i + 1) < e.o.length - i;omega,rcq [] ⟨zAa rfl hw,⟨_,rfl,.bool _⟩,⟨_,rfl,zAe 8 rfl⟩,(sI rfl),zAa rfl (by rw [wrapN (by omega) (by omega)];omega),tv⟩ trivial .nil⟩
    exact ⟨(i + 1,false),⟨h1,by show _ = (fineE e&&(e.o.take (i + 1)).all okC);rw [ha,<- Bool.and_assoc,<- hb2];unfold okC;rw [show decide (e.o[i].c >= 0) = false from h3];rfl⟩,by show e.o.length - (i + 1) < e.o.length - i;omega,rcq [] ⟨zAa rfl hw,⟨_,rfl,.bool _⟩,⟨_,rfl,zAe 8 rfl⟩,(sI rfl),zAa rfl (by rw [wrapN (by omega) (by omega)];omega),tv⟩ trivial .nil⟩
   have hb1 : b = false:=hb1
   rw [hb1] at hb2
   exact ⟨(i + 1,false),⟨h1,by show _ = (fineE e&&(e.o.take (i + 1)).all okC);rw [ha,<- Bool.and_assoc,<- hb2];rfl⟩,by show e.o.length - (i + 1) < e.o.length - i;omega,rcq [] ⟨zAa rfl hw,⟨_,rfl,.bool _⟩,⟨_,rfl,zAe 8 rfl⟩,(sI rfl),zAa rfl (by rw [wrapN (by omega) (by omega)];omega),tv⟩ trivial .nil⟩
  have h1 : ¬ i < e.o.length:=by have h1 : ¬ ((i : Nat) : Int) < (e.o.length : Int):=oF h1;omega
  have hil : i = e.o.length:=by omega
  subst hil
  rw [List.take_length] at hb2
  refine aI rfl (zAh (rcq [] (d:=6) (d2:=0) (lv:=[(3,.int .i64 ((sumO (e.o.take e.o.length) : Nat) : Int)),(4,.bool b)]) (bs:=[]) (W:=[]) (m:=0) (df:=[]) ⟨(sI rfl),⟨_,rfl,.bool _⟩,tv⟩ trivial .nil) (fun f=>?_))
  refine ifK (fun hb1=>?_) (fun hb1=>?_)
  ·have hb1 : (!b) = true:=hb1
   have hb1 : b = false:=by simpa using hb1
   rw [show chkE e = 5 by unfold chkE;rw [if_pos (by rw [<- hb2,hb1])]]
   exact ⟨_,_,_,rfl⟩
  have hb1 : (!b) = false:=hb1
  have hb1 : b = true:=by simpa using hb1
  refine ifK (fun h5=>?_) (fun h5=>?_)
  ·have h5 : decide (((sumO (e.o.take e.o.length) : Nat) : Int) > 65535) = true:=h5
   rw [List.take_length] at h5
   rw [show chkE e = 2 by unfold chkE;rw [if_neg (by rw [<- hb2,hb1];simp),if_pos (by have := oT h5;omega)]]
   exact ⟨_,_,_,rfl⟩
  have h5 : decide (((sumO (e.o.take e.o.length) : Nat) : Int) > 65535) = false:=h5
  rw [List.take_length] at h5
  rw [show chkE e = 0 by unfold chkE;rw [if_neg (by rw [<- hb2,hb1];simp),if_neg (by have := oF h5;omega)]]
  exact ⟨_,_,_,rfl⟩
 refine ifK (fun g4=>?_) (fun g4=>?_)
 rotate_left
 ·have hg : fineE e = false:=by have g : decide (e.ver >= 0) = false:=g4;unfold fineE;rw [g];simp
  refine zAp (fun (p : Nat × Bool) f=>⟨slots 6 [(3,.int .i64 ((sumO (e.o.take p.1) : Nat) : Int)),(4,.bool p.2),(21,trO e.o),(22,.int .i64 (e.o.length : Nat)),(23,.int .i64 (p.1 : Nat))] f,heap 0 [],0,[],[]⟩) (fun p=>e.o.length - p.1) (fun p=>p.1<=e.o.length /\ p.2 = (fineE e&&(e.o.take p.1).all okC)) (0,false) ⟨aH _,by rw [hg];simp⟩ (rcq [] ⟨(sI rfl),⟨_,rfl,.bool _⟩,⟨_,rfl,zAe 8 rfl⟩,(sI rfl),(sI rfl),tv⟩ trivial .nil) ?_
  rintro ⟨i,b⟩ f ⟨hi,hb2⟩
  have hi : i<=e.o.length:=hi
  have hb2 : b = (fineE e&&(e.o.take i).all okC):=hb2
  refine zAq tbEp1 [] 0 _ none mixed _ _ _ ?_
  refine ifK (fun h1=>?_) (fun h1=>?_)
  ·have h1 : i < e.o.length:=by have h1 : ((i : Nat) : Int) < (e.o.length : Int):=oT h1;omega
   have hw : IntKind.i64.wrap (((sumO (e.o.take i) : Nat) : Int) + IntKind.i64.wrap (4 + (e.o[i].d.size : Int))) = ((sumO (e.o.take (i + 1)) : Nat) : Int):=by have := hsum (i + 1) h1;have e1:=zBy h1;rw [wrapN (x:=4 + (e.o[i].d.size : Int)) (by omega) (by omega),wrapN (by omega) (by omega)];omega
   have hw2 : IntKind.i64.wrap (IntKind.i64.wrap (((sumO (e.o.take i) : Nat) : Int) + 4) + (e.o[i].d.size : Int)) = ((sumO (e.o.take (i + 1)) : Nat) : Int):=by have := hsum (i + 1) h1;have e1:=zBy h1;have e3 : IntKind.i64.wrap (((sumO (e.o.take i) : Nat) : Int) + 4) = ((sumO (e.o.take i) + 4 : Nat) : Int):=(by rw [wrapN (by omega) (by omega)];omega);rw [e3,wrapN (by omega) (by omega)];omega
   have ha:=zGb h1
   refine ifK (fun _=>?_) (fun h2=>ab h2 (by simp [inI];omega))
   refine eI e.o[i].c (eI e.o[i].d (aI (zBa layO h1) ?_))
   refine ifK (fun hb1=>?_) (fun hb1=>?_)
   ·have hb1 : b = true:=hb1
    rw [hb1] at hb2
    refine ifK (fun h3=>?_) (fun h3=>?_)
    ·exact ⟨(i + 1,decide (e.o[i].c<=65535)),⟨h1,by show _ = (fineE e&&(e.o.take (i + 1)).all okC);rw [ha,<- Bool.and_assoc,<- hb2];unfold okC;rw [show decide (e.o[i].c >= 0) = true from h3];rfl⟩,by show e.o.length - (i + 1) < e.o.length - i;omega,rcq [] ⟨zAa rfl hw,⟨_,rfl,.bool _⟩,⟨_,rfl,zAe 8 rfl⟩,(sI rfl),zAa rfl (by rw [wrapN (by omega) (by omega)];omega),tv⟩ trivial .nil⟩
    exact ⟨(i + 1,false),⟨h1,by show _ = (fineE e&&(e.o.take (i + 1)).all okC);rw [ha,<- Bool.and_assoc,<- hb2];unfold okC;rw [show decide (e.o[i].c >= 0) = false from h3];rfl⟩,by show e.o.length - (i + 1) < e.o.length - i;omega,rcq [] ⟨zAa rfl hw,⟨_,rfl,.bool _⟩,⟨_,rfl,zAe 8 rfl⟩,(sI rfl),zAa rfl (by rw [wrapN (by omega) (by omega)];omega),tv⟩ trivial .nil⟩
   have hb1 : b = false:=hb1
   rw [hb1] at hb2
   exact ⟨(i + 1,false),⟨h1,by show _ = (fineE e&&(e.o.take (i + 1)).all okC);rw [ha,<- Bool.and_assoc,<- hb2];rfl⟩,by show e.o.length - (i + 1) < e.o.length - i;omega,rcq [] ⟨zAa rfl hw,⟨_,rfl,.bool _⟩,⟨_,rfl,zAe 8 rfl⟩,(sI rfl),zAa rfl (by rw [wrapN (by omega) (by omega)];omega),tv⟩ trivial .nil⟩
  have h1 : ¬ i < e.o.length:=by have h1 : ¬ ((i : Nat) : Int) < (e.o.length : Int):=oF h1;omega
  have hil : i = e.o.length:=by omega
  subst hil
  rw [List.take_length] at hb2
  refine aI rfl (zAh (rcq [] (d:=6) (d2:=0) (lv:=[(3,.int .i64 ((sumO (e.o.take e.o.length) : Nat) : Int)),(4,.bool b)]) (bs:=[]) (W:=[]) (m:=0) (df:=[]) ⟨(sI rfl),⟨_,rfl,.bool _⟩,tv⟩ trivial .nil) (fun f=>?_))
  refine ifK (fun hb1=>?_) (fun hb1=>?_)
  ·have hb1 : (!b) = true:=hb1
   have hb1 : b = false:=by simpa using hb1
   rw [show chkE e = 5 by unfold chkE;rw [if_pos (by rw [<- hb2,hb1])]]
   exact ⟨_,_,_,rfl⟩
  have hb1 : (!b) = false:=hb1
  have hb1 : b = true:=by simpa using hb1
  refine ifK (fun h5=>?_) (fun h5=>?_)
  ·have h5 : decide (((sumO (e.o.take e.o.length) : Nat) : Int) > 65535) = true:=h5
   rw [List.take_length] at h5
   rw [show chkE e = 2 by unfold chkE;rw [if_neg (by rw [<- hb2,hb1];simp),if_pos (by have := oT h5;omega)]]
   exact ⟨_,_,_,rfl⟩
  have h5 : decide (((sumO (e.o.take e.o.length) : Nat) : Int) > 65535) = false:=h5
  rw [List.take_length] at h5
  rw [show chkE e = 0 by unfold chkE;rw [if_neg (by rw [<- hb2,hb1];simp),if_neg (by have := oF h5;omega)]]
  exact ⟨_,_,_,rfl⟩
 have hg : fineE e = decide (e.ver<=255):=by unfold fineE;rw [show decide (e.size >= 0) = true from g0,show decide (e.size<=65535) = true from g1,show decide (e.ext >= 0) = true from g2,show decide (e.ext<=127) = true from g3,show decide (e.ver >= 0) = true from g4];rfl
 refine zAp (fun (p : Nat × Bool) f=>⟨slots 6 [(3,.int .i64 ((sumO (e.o.take p.1) : Nat) : Int)),(4,.bool p.2),(21,trO e.o),(22,.int .i64 (e.o.length : Nat)),(23,.int .i64 (p.1 : Nat))] f,heap 0 [],0,[],[]⟩) (fun p=>e.o.length - p.1) (fun p=>p.1<=e.o.length /\ p.2 = (fineE e&&(e.o.take p.1).all okC)) (0,(decide (e.ver<=255))) ⟨aH _,by rw [hg];simp⟩ (rcq [] ⟨(sI rfl),⟨_,rfl,.bool _⟩,⟨_,rfl,zAe 8 rfl⟩,(sI rfl),(sI rfl),tv⟩ trivial .nil) ?_
 rintro ⟨i,b⟩ f ⟨hi,hb2⟩
 have hi : i<=e.o.length:=hi
 have hb2 : b = (fineE e&&(e.o.take i).all okC):=hb2
 refine zAq tbEp1 [] 0 _ none mixed _ _ _ ?_
 refine ifK (fun h1=>?_) (fun h1=>?_)
 ·have h1 : i < e.o.length:=by have h1 : ((i : Nat) : Int) < (e.o.length : Int):=oT h1;omega
  have hw : IntKind.i64.wrap (((sumO (e.o.take i) : Nat) : Int) + IntKind.i64.wrap (4 + (e.o[i].d.size : Int))) = ((sumO (e.o.take (i + 1)) : Nat) : Int):=by have := hsum (i + 1) h1;have e1:=zBy h1;rw [wrapN (x:=4 + (e.o[i].d.size : Int)) (by omega) (by omega),wrapN (by omega) (by omega)];omega
  have hw2 : IntKind.i64.wrap (IntKind.i64.wrap (((sumO (e.o.take i) : Nat) : Int) + 4) + (e.o[i].d.size : Int)) = ((sumO (e.o.take (i + 1)) : Nat) : Int):=by have := hsum (i + 1) h1;have e1:=zBy h1;have e3 : IntKind.i64.wrap (((sumO (e.o.take i) : Nat) : Int) + 4) = ((sumO (e.o.take i) + 4 : Nat) : Int):=(by rw [wrapN (by omega) (by omega)];omega);rw [e3,wrapN (by omega) (by omega)];omega
  have ha:=zGb h1
  refine ifK (fun _=>?_) (fun h2=>ab h2 (by simp [inI];omega))
  refine eI e.o[i].c (eI e.o[i].d (aI (zBa layO h1) ?_))
  refine ifK (fun hb1=>?_) (fun hb1=>?_)
  ·have hb1 : b = true:=hb1
   rw [hb1] at hb2
   refine ifK (fun h3=>?_) (fun h3=>?_)
   ·exact ⟨(i + 1,decide (e.o[i].c<=65535)),⟨h1,by show _ = (fineE e&&(e.o.take (i + 1)).all okC);rw [ha,<- Bool.and_assoc,<- hb2];unfold okC;rw [show decide (e.o[i].c >= 0) = true from h3];rfl⟩,by show e.o.length - (i + 1) < e.o.length - i;omega,rcq [] ⟨zAa rfl hw,⟨_,rfl,.bool _⟩,⟨_,rfl,zAe 8 rfl⟩,(sI rfl),zAa rfl (by rw [wrapN (by omega) (by omega)];omega),tv⟩ trivial .nil⟩
   exact ⟨(i + 1,false),⟨h1,by show _ = (fineE e&&(e.o.take (i + 1)).all okC);rw [ha,<- Bool.and_assoc,<- hb2];unfold okC;rw [show decide (e.o[i].c >= 0) = false from h3];rfl⟩,by show e.o.length - (i + 1) < e.o.length - i;omega,rcq [] ⟨zAa rfl hw,⟨_,rfl,.bool _⟩,⟨_,rfl,zAe 8 rfl⟩,(sI rfl),zAa rfl (by rw [wrapN (by omega) (by omega)];omega),tv⟩ trivial .nil⟩
  have hb1 : b = false:=hb1
  rw [hb1] at hb2
  exact ⟨(i + 1,false),⟨h1,by show _ = (fineE e&&(e.o.take (i + 1)).all okC);rw [ha,<- Bool.and_assoc,<- hb2];rfl⟩,by show e.o.length - (i + 1) < e.o.length - i;omega,rcq [] ⟨zAa rfl hw,⟨_,rfl,.bool _⟩,⟨_,rfl,zAe 8 rfl⟩,(sI rfl),zAa rfl (by rw [wrapN (by omega) (by omega)];omega),tv⟩ trivial .nil⟩
 have h1 : ¬ i < e.o.length:=by have h1 : ¬ ((i : Nat) : Int) < (e.o.length : Int):=oF h1;omega
 have hil : i = e.o.length:=by omega
 subst hil
 rw [List.take_length] at hb2
 refine aI rfl (zAh (rcq [] (d:=6) (d2:=0) (lv:=[(3,.int .i64 ((sumO (e.o.take e.o.length) : Nat) : Int)),(4,.bool b)]) (bs:=[]) (W:=[]) (m:=0) (df:=[]) ⟨(sI rfl),⟨_,rfl,.bool _⟩,tv⟩ trivial .nil) (fun f=>?_))
 refine ifK (fun hb1=>?_) (fun hb1=>?_)
 ·have hb1 : (!b) = true:=hb1
  have hb1 : b = false:=by simpa using hb1
  rw [show chkE e = 5 by unfold chkE;rw [if_pos (by rw [<- hb2,hb1])]]
  exact ⟨_,_,_,rfl⟩
 have hb1 : (!b) = false:=hb1
 have hb1 : b = true:=by simpa using hb1
 refine ifK (fun h5=>?_) (fun h5=>?_)
 ·have h5 : decide (((sumO (e.o.take e.o.length) : Nat) : Int) > 65535) = true:=h5
  rw [List.take_length] at h5
  rw [show chkE e = 2 by unfold chkE;rw [if_neg (by rw [<- hb2,hb1];simp),if_pos (by have := oT h5;omega)]]
  exact ⟨_,_,_,rfl⟩
 have h5 : decide (((sumO (e.o.take e.o.length) : Nat) : Int) > 65535) = false:=h5
 rw [List.take_length] at h5
 rw [show chkE e = 0 by unfold chkE;rw [if_neg (by rw [<- hb2,hb1];simp),if_neg (by have := oF h5;omega)]]
 exact ⟨_,_,_,rfl⟩
end
section
open Go Go.RowKit
structure LtE where
 e : EdX
 o : Value
def LtE.v (x : LtE) : Value:=.agg #[.int .i64 x.e.size,.int .i64 x.e.ext,.int .i64 x.e.ver,.bool x.e.dob,x.o]
def LtE.at (x : LtE) (H : Tr AObj) : Prop:=LtL layO H x.o x.e.o
theorem LtE.uniq {x y : LtE} {H : Tr AObj} (q : x.v = y.v) (h : x.at H) (k : y.at H) : x = y:=by
 obtain ⟨⟨s,e,v,d,o⟩,vo⟩:=x
 obtain ⟨⟨s',e',v',d',o'⟩,vo'⟩:=y
 simp only [LtE.v,Value.agg.injEq,Array.mk.injEq,aQ,Value.int.injEq,Value.bool.injEq,true_and,and_true] at q
 obtain ⟨rfl,rfl,rfl,rfl,rfl⟩:=q
 have e1 : o = o':=LtL.uniq h k
 subst e1;rfl
theorem LtE.frz {x : LtE} {H : Tr AObj} (h : x.at H) : FrzP True Try.prog 0 H x.v x.e.v :=
 .agg _ _ (.cons _ _ _ _ (.one _ _ (.plain _ rfl)) (.cons _ _ _ _ (.one _ _ (.plain _ rfl)) (.cons _ _ _ _ (.one _ _ (.plain _ rfl)) (.cons _ _ _ _ (.one _ _ (.plain _ rfl)) (.cons _ _ _ _ (LtL.frz (by kernel_rfl) h) .nil)))))
def EdX.lt (e : EdX) : LtE:=⟨e,trO e.o⟩
theorem EdX.lt_at (e : EdX) (H : Tr AObj) : e.lt.at H:=.tree _ _ _
noncomputable def ct_chkL : Ct Try.prog 0:=CtR.lend 15 LtE (fun x=>[x.v]) LtE.at (fun x=>[x.e.v]) (fun x=>x.e.small) (fun x=>.int .i64 (chkE x.e)) (fun _ _ _ e h k=>LtE.uniq (by simpa using e) h k) (fun _ _ h=>.cons _ _ _ _ (LtE.frz h) .nil)
 (fun x h=>by obtain ⟨r,hF,H,k,wr,rfl⟩:=chk_tr x.e h;exact ⟨_,_,_,_,hF,.one _ _ (.plain _ rfl)⟩)
end
section
open Go Go.RowKit
def optB (o : OpX) : Bl:=by2 o.c.toNat++(by2 o.d.size++o.d.data.toList)
def dataO (l : List OpX) : Bl:=l.flatMap optB
def ttlE (e : EdX) : Int:=if e.dob then bitsI .or .i64 (bitsI .or .i64 (shlI .i64 e.ext 24) (shlI .i64 e.ver 16)) 32768 else bitsI .or .i64 (shlI .i64 e.ext 24) (shlI .i64 e.ver 16)
def recE (e : EdX) : RcX:=⟨⟨#[0]⟩,41,e.size,ttlE e,⟨(dataO e.o).toArray⟩⟩
theorem chk_ok {e : EdX} (h : (chkE e != 0) = false) : (∀ o ∈ e.o,0<=o.c /\ o.c<=65535) /\ sumO e.o<=65535:=by
 have h : chkE e = 0:=by simpa using h
 unfold chkE at h
 split at h
 ·cases h
 rename_i h1
 split at h
 ·cases h
 refine ⟨fun o ho=>?_,by omega⟩
 have h1 : (fineE e&&e.o.all okC) = true:=by simpa using h1
 have h2:=aG.1 (Bool.and_eq_true_iff.1 h1).2 o ho
 unfold okC at h2
 simpa using h2
theorem zKp {o : OpX} : ∀ {l : List OpX},o ∈ l -> 4 + o.d.size<=sumO l
 | x :: l,h=>by
  rcases aK.1 h with rfl | h
  ·show _<=sumO l + _;omega
  have := zKp h;show _<=sumO l + _;omega
theorem zPn (o : OpX) : (optB o).length = 4 + o.d.size:=by simp only [optB,by2,aB,aC,List.length_nil,Array.length_toList];show 0 + 1 + 1 + (0 + 1 + 1 + o.d.data.size) = 4 + o.d.data.size;omega
theorem zFj : ∀ l : List OpX,(dataO l).length = sumO l
 | []=>rfl
 | o :: l=>by have := zFj l;unfold dataO at this ⊢;rw [List.flatMap_cons,aB,zPn,this];show _ = sumO l + _;omega
theorem zWz {l : List OpX} (i : Nat) : sumO (l.take i)<=sumO l:=by
 induction l generalizing i with
 | nil=>rw [List.take_nil];exact aJ _
 | cons o l ih=>cases i with
  | zero=>exact aH _
  | succ i=>have := ih i;show sumO (l.take i) + _<=sumO l + _;omega
theorem zNd {l : List OpX} {i : Nat} (h : i < l.length) : dataO (l.take (i + 1)) = dataO (l.take i)++optB l[i]:=by unfold dataO;rw [List.take_succ_eq_append_getElem h,List.flatMap_append];simp
theorem catOk9 {s t : ByteArray} (h1 : s.data.toList.length<=1000000) (h2 : t.data.toList.length<=1000000) : catOk s t = true:=by
 simp only [Array.length_toList] at h1 h2
 exact bL (by omega)
theorem zJz (a b : ByteArray) : (catS a b).data.toList.length = a.data.toList.length + b.data.toList.length:=by simp [catS]
def boxE (e : EdX) (i : Nat) : List Value:=[.string ⟨#[0]⟩,.int .i64 41,.int .i64 e.size,.int .i64 (ttlE e),.string ⟨(dataO (e.o.take i)).toArray⟩]
theorem zVh {e : EdX} {i : Nat} (h : i < e.o.length) : [Value.string ⟨#[0]⟩,.int .i64 41,.int .i64 e.size,.int .i64 (ttlE e),.string (catS ⟨(dataO (e.o.take i)).toArray⟩ (catS (catS ⟨(by2 e.o[i].c.toNat).toArray⟩ ⟨(by2 e.o[i].d.size).toArray⟩) e.o[i].d))] = boxE e (i + 1):=by
 have : catS ⟨(dataO (e.o.take i)).toArray⟩ (catS (catS ⟨(by2 e.o[i].c.toNat).toArray⟩ ⟨(by2 e.o[i].d.size).toArray⟩) e.o[i].d) = ⟨(dataO (e.o.take (i + 1))).toArray⟩:=by
  rw [zNd h]
  unfold catS optB
  simp
 rw [this];rfl
def stO (m : MsT) (H : Tr AObj) (n : Nat) (v : Value) (c : List Value × TypeId) : Res :=
 .ret (.agg #[.int .i64 m.strip.id,.int .i64 m.strip.fl,ownV n m.strip.q,ownV (n + 1) m.strip.an,ownV (n + 2) m.strip.ns,v]) (layN H n [(m.strip.q.flatMap layQ.g,ownT 25 57 m.strip.q),(m.strip.an.flatMap layR.g,ownT 23 48 m.strip.an),(m.strip.ns.flatMap layR.g,ownT 23 48 m.strip.ns),c]) (n + 4) []
noncomputable def ct_stripP : Ct Try.prog 0 :=
 CtR.ct { f:=23,X:=LtM,pre:=fun x a H _=>a = [x.v] /\ x.at H /\ x.m.fit 1000000,out:=fun x H n=>.ret (nmV x.m.strip n (n + 1) (n + 2) (n + 3)) (layN H n (nmC x.m.strip)) (n + 4) [],
          ok:=zWx,uniq:=zWy,
          tr:=fun x H n K=>(x.m.strip.ar = [] -> K (stO x.m H n (.slice (some ⟨n + 3,0,none⟩) 0 0) ([],23))) /\ ∀ y l,x.m.strip.ar = y :: l -> K (stO x.m H n (.slice (some ⟨n + 3,0,none⟩) (l.length + 1) U) ((y :: l).flatMap layR.g,48)),
          trOk:=fun x H n K h=>by
           cases e : x.m.strip.ar with
           | nil=>have := h.1 e;unfold nmV nmC;rw [e];exact this
           | cons y l=>have := h.2 y l e;unfold nmV nmC;rw [e];exact this }
noncomputable def tbEp4 : Tb Try.prog 0:=tbOf mixed [ct_chkL,zQp,zKa,ct_stripP]
def zMv : List Value:=[.int .i64 0,.int .i64 0,.slice none 0 0,.slice none 0 0,.slice none 0 0,.slice none 0 0]
def putF (m : MsT) (e : EdX) : Int:=if chkE e ≠ 0 then chkE e else if cntO m.an + cntO m.ns + cntO m.ar > 0 then 7 else 0
def pcM (m : MsT) (e : EdX) : MsT:=⟨m.id,m.fl,m.strip.q,m.strip.an,m.strip.ns,m.strip.ar++[recE e]⟩
def PutR (m : MsT) (e : EdX) (H : Tr AObj) (v : Value) : Prop :=
 (putF m e ≠ 0 /\ v = .tuple #[.agg ⟨zMv⟩,.int .i64 (putF m e)]) \/ (putF m e = 0 /\ ∃ b,v = .tuple #[.agg #[.int .i64 m.id,.int .i64 m.fl,ownV 3 (pcM m e).q,ownV 4 (pcM m e).an,ownV 5 (pcM m e).ns,.slice (some ⟨b,0,none⟩) (pcM m e).ar.length U],.int .i64 0] /\ 5 < b /\ b < JJ /\
  H.get 3 = some (ownB layQ 25 (pcM m e).q) /\ H.get 4 = some (ownB layR 23 (pcM m e).an) /\ H.get 5 = some (ownB layR 23 (pcM m e).ns) /\ H.get b = some (.cells ((pcM m e).ar.flatMap layR.g) 48))
theorem put_fn (m : MsT) (e : EdX) (hf : m.fit 1000000) (hs : e.small) : ∃ r,FnS Try.prog 0 12 [m.v,e.v] .e 0 r /\ ∃ v H k wr,r = .ret v H k wr /\ PutR m e H v:=by
 obtain ⟨f1,f2,f3,f4⟩:=hf
 have hl9 : e.o.length<=1000:=hs.1
 have hby : (Try.prog.types[48]).bytes<=100:=by decide +kernel
 have hz : (Try.prog.types[48]).size = 5:=by kernel_rfl
 have c2 : cntO m.an<=1000000:=aW (List.length_filter_le _ _) f2
 have c3 : cntO m.ns<=1000000:=aW (List.length_filter_le _ _) f3
 have c4 : cntO m.ar<=1000000:=aW (List.length_filter_le _ _) f4
 have w1 : IntKind.i64.wrap (IntKind.i64.wrap ((cntO m.an : Int) + (cntO m.ns : Int)) + (cntO m.ar : Int)) = ((cntO m.an + cntO m.ns + cntO m.ar : Nat) : Int):=by
  rw [wrapN (x:=(cntO m.an : Int) + (cntO m.ns : Int)) (by omega) (by omega),wrapN (by omega) (by omega)];omega
 refine zBo mixed tbEp4 [] Try.func12 (c:=bodyOf Try.f12) (by kernel_rfl) ?_
 refine eI e.lt (aI ⟨rfl,EdX.lt_at _ _,hs⟩ ?_)
 refine ifK (fun h0=>?_) (fun h0=>?_)
 ·have h0 : (chkE e != 0) = true:=h0
  have h0 : chkE e ≠ 0:=by simpa using h0
  have hp : putF m e = chkE e:=by unfold putF;rw [if_pos h0]
  exact ⟨_,_,_,_,rfl,.inl ⟨by rw [hp];exact h0,by rw [hp];rfl⟩⟩
 have h0 : (chkE e != 0) = false:=h0
 obtain ⟨hC,hS⟩:=chk_ok h0
 refine aI (by kernel_rfl) ?_
 refine eI m.an (aI ⟨rfl,by show m.an.length<=_;omega⟩ ?_)
 refine eI m.ns (aI ⟨rfl,by show m.ns.length<=_;omega⟩ ?_)
 refine eI m.ar (aI ⟨rfl,by show m.ar.length<=_;omega⟩ ?_)
 have h00 : chkE e = 0:=by simpa using h0
 refine ifK (fun h1=>?_) (fun h1=>?_)
 ·have h1 : decide (IntKind.i64.wrap (IntKind.i64.wrap ((cntO m.an : Int) + (cntO m.ns : Int)) + (cntO m.ar : Int)) > 0) = true:=h1
  rw [w1] at h1
  have hp : putF m e = 7:=by unfold putF;rw [if_neg (by simp [h00]),if_pos (by have := oT h1;omega)]
  exact ⟨_,_,_,_,rfl,.inl ⟨by rw [hp];decide,by rw [hp];rfl⟩⟩
 have h1 : decide (IntKind.i64.wrap (IntKind.i64.wrap ((cntO m.an : Int) + (cntO m.ns : Int)) + (cntO m.ar : Int)) > 0) = false:=h1
 rw [w1] at h1
 have hp : putF m e = 0:=by unfold putF;rw [if_neg (by simp [h00]),if_neg (by have := oF h1;omega)]
 refine ifK (fun hd=>?_) (fun hd=>?_)
 ·refine zAp (fun (i : Nat) f=>⟨slots 7 [(2,.pointer (some ⟨0,0,none⟩)),(4,.pointer (some ⟨1,0,none⟩)),(7,.pointer (some ⟨2,0,none⟩)),(50,trO e.o),(51,.int .i64 (e.o.length : Nat)),(52,.int .i64 (i : Nat))] f,heap 2 [(0,.cells m.cs 25),(1,.cells zMv 25),(2,.cells (boxE e i) 48)],3,[],[]⟩) (fun i=>e.o.length - i) (fun i=>i<=e.o.length) 0 (aH _) (rcq [0,2,3] ⟨(sP rfl rfl),(sP rfl rfl),(sP rfl rfl),⟨_,rfl,zAe 8 rfl⟩,(sI rfl),(sI rfl),tv⟩ ⟨⟨by decide,_,rfl,RO.clos rfl⟩,⟨by decide,_,rfl,RO.clos rfl⟩,⟨by decide,_,rfl,zAs (by unfold boxE ttlE;rw [if_pos hd];rfl) rfl⟩,tv⟩ .nil) ?_
  rintro i f hi
  have hi : i<=e.o.length:=hi
  refine zAq tbEp4 [4,5] 0 _ none mixed _ _ _ ?_
  refine ifK (fun h1=>?_) (fun h1=>?_)
  ·have h1 : i < e.o.length:=by have h1 : ((i : Nat) : Int) < (e.o.length : Int):=oT h1;omega
   have hcr:=hC e.o[i] (aV h1)
   have hcn : e.o[i].c = ((e.o[i].c.toNat : Nat) : Int):=by omega
   have hsz : 4 + e.o[i].d.size<=65535:=aW (zKp (aV h1)) hS
   refine ifK (fun _=>?_) (fun h2=>ab h2 (by simp [inI];omega))
   refine eI e.o[i].c (eI e.o[i].d (aI (zBa layO h1) ?_))
   refine eI e.o[i].c.toNat (aI ⟨congrArg (fun x=>[Value.int .i64 x]) hcn,by omega⟩ ?_)
   refine eI e.o[i].d.size (aI ⟨rfl,by omega⟩ ?_)
   refine eI (by2 e.o[i].c.toNat) (aI rfl ?_)
   refine eI (by2 e.o[i].d.size) (aI rfl ?_)
   have hd9 : (dataO (e.o.take i)).length<=65535:=by rw [zFj];exact aW (zWz i) hS
   have ho9 : e.o[i].d.data.toList.length<=65535:=by rw [Array.length_toList];show e.o[i].d.size<=_;omega
   have hb9 : ∀ v : Nat,(⟨(by2 v).toArray⟩ : ByteArray).data.toList.length = 2:=fun _=>rfl
   have hc9 : (catS ⟨(by2 e.o[i].c.toNat).toArray⟩ ⟨(by2 e.o[i].d.size).toArray⟩).data.toList.length = 4:=by rw [zJz,hb9,hb9]
   have hx9 : (catS (catS ⟨(by2 e.o[i].c.toNat).toArray⟩ ⟨(by2 e.o[i].d.size).toArray⟩) e.o[i].d).data.toList.length<=65539:=by rw [zJz,hc9];omega
   refine aI (catOk9 (by rw [hb9];decide) (by rw [hb9];decide)) ?_
   refine aI (catOk9 (aW (Nat.le_of_eq hc9) (by decide)) (aW ho9 (by decide))) ?_
   refine aI (catOk9 (aW (show (dataO (e.o.take i)).length<=_ from hd9) (by decide)) (aW hx9 (by decide))) ?_
   exact ⟨i + 1,h1,by show e.o.length - (i + 1) < e.o.length - i;omega,rcq [0,1,2] ⟨(sP rfl rfl),(sP rfl rfl),(sP rfl rfl),⟨_,rfl,zAe 8 rfl⟩,(sI rfl),zAa rfl (by rw [wrapN (by omega) (by omega)];omega),tv⟩ ⟨⟨by decide,_,rfl,RO.clos rfl⟩,⟨by decide,_,rfl,RO.clos rfl⟩,⟨by decide,_,rfl,zAs (zVh h1) rfl⟩,tv⟩ .nil⟩
  have h1 : ¬ i < e.o.length:=by have h1 : ¬ ((i : Nat) : Int) < (e.o.length : Int):=oF h1;omega
  have hil : i = e.o.length:=by omega
  subst hil
  refine aI rfl (zAh (rcq [0,1,2] (d:=7) (d2:=2) (lv:=[(2,.pointer (some ⟨0,0,none⟩)),(4,.pointer (some ⟨1,0,none⟩)),(7,.pointer (some ⟨2,0,none⟩))]) (bs:=[(0,.cells m.cs 25),(1,.cells zMv 25),(2,.cells (recE e).g 48)]) (W:=[]) (m:=3) (df:=[]) ⟨(sP rfl rfl),(sP rfl rfl),(sP rfl rfl),tv⟩ ⟨⟨by decide,_,rfl,RO.clos rfl⟩,⟨by decide,_,rfl,RO.clos rfl⟩,⟨by decide,_,rfl,zAs (by unfold boxE;rw [List.take_length];rfl) rfl⟩,tv⟩ .nil) (fun f=>?_))
  refine eI m.lt (aI ⟨rfl,m.lt_at _,f1,f2,f3,f4⟩ ?_)
  refine aI (fun hA=>?_) (fun y l hA=>?_)
  ·have hA : m.strip.ar = []:=hA
   have e1 : (pcM m e).ar = [recE e]:=by unfold pcM;rw [hA];rfl
   exact ⟨_,_,_,_,rfl,.inr ⟨hp,8,by rw [e1];rfl,by decide,by decide,by kernel_rfl,by kernel_rfl,by kernel_rfl,by rw [e1];kernel_rfl⟩⟩
  have hA : m.strip.ar = y :: l:=hA
  have hle : l.length + 1<=1000000:=by have : (m.strip.ar).length<=m.ar.length:=List.length_filter_le _ _;rw [hA] at this;simp only [aC] at this;omega
  have hlen : ((y :: l).flatMap layR.g).length = (l.length + 1) * 5:=zAf layR.g 5 layR.len (y :: l)
  refine aI ?_ ?_
  ·have := Nat.mul_le_mul (show l.length + 1 + 1<=2000000 by omega) hby
   simp only [bA,dT]
   refine ⟨⟨⟨⟨⟨⟨rfl,rfl⟩,bL ?_⟩,rfl⟩,?_⟩,?_⟩,bL ?_⟩
   ·rw [hz,hlen];exact aJ _
   ·omega
   ·omega
   rw [hz,hlen];show _<=0 + (l.length + 1) * 5 + 5;omega
  have hnew : (((y :: l).flatMap layR.g).take ((l.length + 1) * (Try.prog.types[48]).size)++layR.g (recE e)) = (pcM m e).ar.flatMap layR.g:=by
   unfold pcM
   rw [hz,aD (by rw [hlen];exact aJ _),hA,List.flatMap_append];simp
  have e2 : (pcM m e).ar.length = l.length + 1 + 1:=by unfold pcM;rw [hA];simp
  exact ⟨_,_,_,_,rfl,.inr ⟨hp,8,by rw [e2];rfl,by decide,by decide,by kernel_rfl,by kernel_rfl,by kernel_rfl,by rw [<- hnew];kernel_rfl⟩⟩
 refine zAp (fun (i : Nat) f=>⟨slots 7 [(2,.pointer (some ⟨0,0,none⟩)),(4,.pointer (some ⟨1,0,none⟩)),(7,.pointer (some ⟨2,0,none⟩)),(50,trO e.o),(51,.int .i64 (e.o.length : Nat)),(52,.int .i64 (i : Nat))] f,heap 2 [(0,.cells m.cs 25),(1,.cells zMv 25),(2,.cells (boxE e i) 48)],3,[],[]⟩) (fun i=>e.o.length - i) (fun i=>i<=e.o.length) 0 (aH _) (rcq [0,2,3] ⟨(sP rfl rfl),(sP rfl rfl),(sP rfl rfl),⟨_,rfl,zAe 8 rfl⟩,(sI rfl),(sI rfl),tv⟩ ⟨⟨by decide,_,rfl,RO.clos rfl⟩,⟨by decide,_,rfl,RO.clos rfl⟩,⟨by decide,_,rfl,zAs (by unfold boxE ttlE;rw [if_neg (show ¬ e.dob = true from by rw [show e.dob = false from hd];simp)];rfl) rfl⟩,tv⟩ .nil) ?_
 rintro i f hi
 have hi : i<=e.o.length:=hi
 refine zAq tbEp4 [4,5] 0 _ none mixed _ _ _ ?_
 refine ifK (fun h1=>?_) (fun h1=>?_)
 ·have h1 : i < e.o.length:=by have h1 : ((i : Nat) : Int) < (e.o.length : Int):=oT h1;omega
  have hcr:=hC e.o[i] (aV h1)
  have hcn : e.o[i].c = ((e.o[i].c.toNat : Nat) : Int):=by omega
  have hsz : 4 + e.o[i].d.size<=65535:=aW (zKp (aV h1)) hS
  refine ifK (fun _=>?_) (fun h2=>ab h2 (by simp [inI];omega))
  refine eI e.o[i].c (eI e.o[i].d (aI (zBa layO h1) ?_))
  refine eI e.o[i].c.toNat (aI ⟨congrArg (fun x=>[Value.int .i64 x]) hcn,by omega⟩ ?_)
  refine eI e.o[i].d.size (aI ⟨rfl,by omega⟩ ?_)
  refine eI (by2 e.o[i].c.toNat) (aI rfl ?_)
  refine eI (by2 e.o[i].d.size) (aI rfl ?_)
  have hd9 : (dataO (e.o.take i)).length<=65535:=by rw [zFj];exact aW (zWz i) hS
  have ho9 : e.o[i].d.data.toList.length<=65535:=by rw [Array.length_toList];show e.o[i].d.size<=_;omega
  have hb9 : ∀ v : Nat,(⟨(by2 v).toArray⟩ : ByteArray).data.toList.length = 2:=fun _=>rfl
  have hc9 : (catS ⟨(by2 e.o[i].c.toNat).toArray⟩ ⟨(by2 e.o[i].d.size).toArray⟩).data.toList.length = 4:=by rw [zJz,hb9,hb9]
  have hx9 : (catS (catS ⟨(by2 e.o[i].c.toNat).toArray⟩ ⟨(by2 e.o[i].d.size).toArray⟩) e.o[i].d).data.toList.length<=65539:=by rw [zJz,hc9];omega
  refine aI (catOk9 (by rw [hb9];decide) (by rw [hb9];decide)) ?_
  refine aI (catOk9 (aW (Nat.le_of_eq hc9) (by decide)) (aW ho9 (by decide))) ?_
  refine aI (catOk9 (aW (show (dataO (e.o.take i)).length<=_ from hd9) (by decide)) (aW hx9 (by decide))) ?_
  exact ⟨i + 1,h1,by show e.o.length - (i + 1) < e.o.length - i;omega,rcq [0,1,2] ⟨(sP rfl rfl),(sP rfl rfl),(sP rfl rfl),⟨_,rfl,zAe 8 rfl⟩,(sI rfl),zAa rfl (by rw [wrapN (by omega) (by omega)];omega),tv⟩ ⟨⟨by decide,_,rfl,RO.clos rfl⟩,⟨by decide,_,rfl,RO.clos rfl⟩,⟨by decide,_,rfl,zAs (zVh h1) rfl⟩,tv⟩ .nil⟩
 have h1 : ¬ i < e.o.length:=by have h1 : ¬ ((i : Nat) : Int) < (e.o.length : Int):=oF h1;omega
 have hil : i = e.o.length:=by omega
 subst hil
 refine aI rfl (zAh (rcq [0,1,2] (d:=7) (d2:=2) (lv:=[(2,.pointer (some ⟨0,0,none⟩)),(4,.pointer (some ⟨1,0,none⟩)),(7,.pointer (some ⟨2,0,none⟩))]) (bs:=[(0,.cells m.cs 25),(1,.cells zMv 25),(2,.cells (recE e).g 48)]) (W:=[]) (m:=3) (df:=[]) ⟨(sP rfl rfl),(sP rfl rfl),(sP rfl rfl),tv⟩ ⟨⟨by decide,_,rfl,RO.clos rfl⟩,⟨by decide,_,rfl,RO.clos rfl⟩,⟨by decide,_,rfl,zAs (by unfold boxE;rw [List.take_length];rfl) rfl⟩,tv⟩ .nil) (fun f=>?_))
 refine eI m.lt (aI ⟨rfl,m.lt_at _,f1,f2,f3,f4⟩ ?_)
 refine aI (fun hA=>?_) (fun y l hA=>?_)
 ·have hA : m.strip.ar = []:=hA
  have e1 : (pcM m e).ar = [recE e]:=by unfold pcM;rw [hA];rfl
  exact ⟨_,_,_,_,rfl,.inr ⟨hp,8,by rw [e1];rfl,by decide,by decide,by kernel_rfl,by kernel_rfl,by kernel_rfl,by rw [e1];kernel_rfl⟩⟩
 have hA : m.strip.ar = y :: l:=hA
 have hle : l.length + 1<=1000000:=by have : (m.strip.ar).length<=m.ar.length:=List.length_filter_le _ _;rw [hA] at this;simp only [aC] at this;omega
 have hlen : ((y :: l).flatMap layR.g).length = (l.length + 1) * 5:=zAf layR.g 5 layR.len (y :: l)
 refine aI ?_ ?_
 ·have := Nat.mul_le_mul (show l.length + 1 + 1<=2000000 by omega) hby
  simp only [bA,dT]
  refine ⟨⟨⟨⟨⟨⟨rfl,rfl⟩,bL ?_⟩,rfl⟩,?_⟩,?_⟩,bL ?_⟩
  ·rw [hz,hlen];exact aJ _
  ·omega
  ·omega
  rw [hz,hlen];show _<=0 + (l.length + 1) * 5 + 5;omega
 have hnew : (((y :: l).flatMap layR.g).take ((l.length + 1) * (Try.prog.types[48]).size)++layR.g (recE e)) = (pcM m e).ar.flatMap layR.g:=by
  unfold pcM
  rw [hz,aD (by rw [hlen];exact aJ _),hA,List.flatMap_append];simp
 have e2 : (pcM m e).ar.length = l.length + 1 + 1:=by unfold pcM;rw [hA];simp
 exact ⟨_,_,_,_,rfl,.inr ⟨hp,8,by rw [e2];rfl,by decide,by decide,by kernel_rfl,by kernel_rfl,by kernel_rfl,by rw [<- hnew];kernel_rfl⟩⟩
noncomputable def ct_putL : Ct Try.prog 0 :=
 CtR.ct { f := 12,X:=LtM × LtE,pre:=fun x a H _=>a = [x.1.v,x.2.v] /\ (x.1.at H /\ x.2.at H) /\ x.1.m.fit 1000000 /\ x.2.e.small,
          out:=fun x H n=>if putF x.1.m x.2.e = 0 then .ret (.tuple #[nmV (pcM x.1.m x.2.e) n (n + 1) (n + 2) (n + 3),.int .i64 0]) (layN H n (nmC (pcM x.1.m x.2.e))) (n + 4) [] else .ret (.tuple #[.agg ⟨zMv⟩,.int .i64 (putF x.1.m x.2.e)]) H n [],
          ok:=fun x as0 H n ⟨h1,⟨h2,h3⟩,h4,h5⟩=>by
           subst h1
           obtain ⟨r,hF,v,H',k,wr,rfl,⟨g0,rfl⟩ | ⟨g0,b,rfl,hb1,hb2,r1,r2,r3,r4⟩⟩:=put_fn x.1.m x.2.e h4 h5
           ·show TOK _ _ _ _ (if _ then _ else _)
            rw [if_neg g0]
            exact zEm hF (.cons _ _ _ _ (LtM.frz h2) (.cons _ _ _ _ (LtE.frz h3) .nil)) (.tuple _ _ (.cons _ _ _ _ (.agg _ _ (.cons _ _ _ _ (.one _ _ (.plain _ rfl)) (.cons _ _ _ _ (.one _ _ (.plain _ rfl)) (.cons _ _ _ _ (.one _ _ (.plain _ rfl)) (.cons _ _ _ _ (.one _ _ (.plain _ rfl)) (.cons _ _ _ _ (.one _ _ (.plain _ rfl)) (.cons _ _ _ _ (.one _ _ (.plain _ rfl)) .nil))))))) (.cons _ _ _ _ (.one _ _ (.plain _ rfl)) .nil)))
           show TOK _ _ _ _ (if _ then _ else _)
           rw [if_pos g0]
           have hne : (pcM x.1.m x.2.e).ar ≠ []:=by unfold pcM;simp
           have hnd : [3,4,5,b].Nodup:=by simp;omega
           have e4 : ownV b (pcM x.1.m x.2.e).ar = .slice (some ⟨b,0,none⟩) (pcM x.1.m x.2.e).ar.length U:=by cases hq : (pcM x.1.m x.2.e).ar with | nil=>exact ab hq hne | cons a l=>rfl
           have e5 : ownT 23 48 (pcM x.1.m x.2.e).ar = 48:=by cases hq : (pcM x.1.m x.2.e).ar with | nil=>exact ab hq hne | cons a l=>rfl
           rw [<- e4] at hF
           refine zDa (fun n=>.tuple #[nmV (pcM x.1.m x.2.e) n (n + 1) (n + 2) (n + 3),.int .i64 0]) [3,4,5,b] (nmC (pcM x.1.m x.2.e)) hF (.cons _ _ _ _ (LtM.frz h2) (.cons _ _ _ _ (LtE.frz h3) .nil)) hnd (fun y hy=>by simp only [aK,List.not_mem_nil,or_false] at hy;rcases hy with rfl | rfl | rfl | rfl <;> first | exact hb2 | decide) rfl (fun i b' xs t hb hc=>?_)
            (fun n=>.tuple _ _ (.cons _ _ _ _ (.agg _ _ (.cons _ _ _ _ (.plain _ rfl) (.cons _ _ _ _ (.plain _ rfl) (.cons _ _ _ _ (zLs _ (zBp (i:=0) hnd rfl)) (.cons _ _ _ _ (zLs _ (zBp (i:=1) hnd rfl)) (.cons _ _ _ _ (zLs _ (zBp (i:=2) hnd rfl)) (.cons _ _ _ _ (zLs _ (zBp (i:=3) hnd rfl)) .nil))))))) (.cons _ _ _ _ (.plain _ rfl) .nil)))
           match i,hb,hc with
           | 0,hb,hc=>cases hb;cases hc;exact ⟨[],by rw [aF];exact r1,zAb layQ.g layQ.plain _,.inl rfl⟩
           | 1,hb,hc=>cases hb;cases hc;exact ⟨[],by rw [aF];exact r2,zAb layR.g layR.plain _,.inl rfl⟩
           | 2,hb,hc=>cases hb;cases hc;exact ⟨[],by rw [aF];exact r3,zAb layR.g layR.plain _,.inl rfl⟩
           | 3,hb,hc=>cases hb;cases hc;exact ⟨[],by rw [aF,e5];exact r4,zAb layR.g layR.plain _,.inl rfl⟩
           | i + 4,hb,hc=>simp at hb,
          uniq:=fun x x' a H m ⟨h1,⟨h2,h3⟩,_⟩ ⟨k1,⟨k2,k3⟩,_⟩=>by
           rw [h1] at k1
           simp only [aQ,and_true] at k1
           have e1:=LtM.uniq k1.1 h2 k2
           have e2:=LtE.uniq k1.2 h3 k3
           obtain ⟨a,b⟩:=x
           obtain ⟨a',b'⟩:=x'
           subst e1;subst e2;rfl,
          tr:=fun x H n K=>brK (decide (putF x.1.m x.2.e = 0)) (K (.ret (.tuple #[nmV (pcM x.1.m x.2.e) n (n + 1) (n + 2) (n + 3),.int .i64 0]) (layN H n (nmC (pcM x.1.m x.2.e))) (n + 4) [])) (K (.ret (.tuple #[.agg ⟨zMv⟩,.int .i64 (putF x.1.m x.2.e)]) H n [])),
          trOk:=fun x H n K h=>by
           by_cases hv : putF x.1.m x.2.e = 0
           ·rw [aX hv] at h;show K (if _ then _ else _);rw [if_pos hv];exact h
           rw [aY hv] at h;show K (if _ then _ else _);rw [if_neg hv];exact h }
end
section
open Go Go.RowKit
theorem code_nat (x : Int) : ∃ n : Nat,n < 16 /\ codeI x = (n : Int):=by
 refine ⟨(b64 x &&& b64 15).toNat,?_,?_⟩
 ·rw [b64_15,and15];omega
 have : (b64 x &&& b64 15).toNat < 16:=by rw [b64_15,and15];omega
 unfold codeI
 rw [wrapN (by omega) (by omega)]
end
section
open Go Go.RowKit
end
section
open Go Go.RowKit
theorem tk8 {cs : List Value} {n : Nat} (h : cs.length = n) : cs.take (n * (Try.prog.types[5]).size) = cs:=by
 rw [show (Try.prog.types[5]).size = 1 by kernel_rfl,aR,aD (by omega)]
theorem tk2 (v : Nat) : (((by2 v).map byV).drop 0).take (2 * (Try.prog.types[5]).size) = (by2 v).map byV:=by rw [List.drop_zero];exact tk8 rfl
end
section
open Go Go.RowKit
end
section
open Go Go.RowKit
theorem or_add {q b i : Nat} (hb : b < 2 ^ i) (hs : 2 ^ i * q + b < 4611686018427387904) : bitsI .or .i64 ((2 ^ i * q : Nat) : Int) (b : Int) = ((2 ^ i * q + b : Nat) : Int):=by
 have h1 : bitsI .or .i64 ((2 ^ i * q : Nat) : Int) (b : Int) = IntKind.i64.wrap (b64 ((2 ^ i * q : Nat) : Int) ||| b64 (b : Int)).toNat:=rfl
 rw [h1,BitVec.toNat_or,zOf (by omega),zOf (by omega),<- Nat.two_pow_add_eq_or_of_lt hb,wrapN (by omega) (by omega)]
theorem shl24 {x : Nat} (h : x<=127) : shlI .i64 (x : Int) 24 = ((2 ^ 24 * x : Nat) : Int):=by
 show IntKind.i64.wrap ((x : Int) * 2 ^ 24) = _
 rw [wrapN (by omega) (by omega)];omega
theorem shl16 {x : Nat} (h : x<=255) : shlI .i64 (x : Int) 16 = ((2 ^ 16 * x : Nat) : Int):=by
 show IntKind.i64.wrap ((x : Int) * 2 ^ 16) = _
 rw [wrapN (by omega) (by omega)];omega
theorem ttl_eq {e : EdX} (h : (0<=e.ext /\ e.ext<=127) /\ 0<=e.ver /\ e.ver<=255) : ttlE e = if e.dob then IntKind.i64.wrap (IntKind.i64.wrap (shlI .i64 e.ext 24 + shlI .i64 e.ver 16) + 32768) else IntKind.i64.wrap (shlI .i64 e.ext 24 + shlI .i64 e.ver 16):=by
 obtain ⟨⟨h1,h2⟩,h3,h4⟩:=h
 obtain ⟨x,hx⟩:=Int.eq_ofNat_of_zero_le h1
 obtain ⟨y,hy⟩:=Int.eq_ofNat_of_zero_le h3
 have e1 : bitsI .or .i64 (shlI .i64 e.ext 24) (shlI .i64 e.ver 16) = ((2 ^ 24 * x + 2 ^ 16 * y : Nat) : Int):=by
  rw [hx,hy,shl24 (by omega),shl16 (by omega),or_add (by omega) (by omega)]
 have e2 : IntKind.i64.wrap (shlI .i64 e.ext 24 + shlI .i64 e.ver 16) = ((2 ^ 24 * x + 2 ^ 16 * y : Nat) : Int):=by
  rw [hx,hy,shl24 (by omega),shl16 (by omega),wrapN (by omega) (by omega)];omega
 have e3 : bitsI .or .i64 ((2 ^ 24 * x + 2 ^ 16 * y : Nat) : Int) 32768 = ((2 ^ 24 * x + 2 ^ 16 * y + 32768 : Nat) : Int):=by
  have := or_add (q:=256 * x + y) (b:=32768) (i:=16) (by decide) (by omega)
  rw [show 2 ^ 24 * x + 2 ^ 16 * y = 2 ^ 16 * (256 * x + y) by omega]
  exact this
 unfold ttlE
 rw [e1,e2,e3]
 split
 ·rw [wrapN (by omega) (by omega)];omega
 rfl
end
end Go.Proofs.Ytknpgjeclmadkaa
