/- DERIVED. Parts. -/
import Derived.Test.YtknpgjeclmadkaaZ15
import Derived.Test.YtknpgjeclmadkaaZ17
import Derived.Test.YtknpgjeclmadkaaZ21
import Derived.Test.YtknpgjeclmadkaaZ22
import Derived.Test.YtknpgjeclmadkaaZ23
import Derived.Test.YtknpgjeclmadkaaZ24
set_option maxRecDepth 1000000
set_option maxHeartbeats 32000000
namespace Go.Proofs.Ytknpgjeclmadkaa
section
open Go Go.Joins Go.ChangeShapes Go.WideShapes Go.RowKit Go.Deep
section
variable {H : Type} {enc : TypeId × Value -> H} {w : World} {base : Nat} {spare : Nat -> Bool} {held : Bool}
theorem trod_op {n : Nat} {cs : List Value} {y : DataW H × List MemPlace} (h : DataW.trod enc Try.prog w base spare held n 60 cs = some y) : ∃ x : OpX,cs = layO.g x:=by
 obtain ⟨_,_,_,_,hl,_⟩:=DataW.trod_struct Try.underlying60 h
 have hl : cs.length = 2:=hl.trans (by kernel_rfl)
 have hf:=zHw 8 60 [3,9] n cs y (by kernel_rfl) h hl
 match cs,hl with
 | [c0,c1],_ =>
  obtain ⟨_,_,h0⟩:=hf 0 _ _ rfl rfl
  obtain ⟨_,_,h1⟩:=hf 1 _ _ rfl rfl
  obtain ⟨x0,rfl⟩:=zDp h0
  obtain ⟨x1,rfl⟩:=zQe h1
  exact ⟨⟨x0,x1⟩,rfl⟩
def edTypes : List TypeId:=[3,3,3,4,26]
theorem bytes_o : Try.prog.bytesOf 60 = 24:=by kernel_rfl
theorem open_ednsT {r : Reach} {b0 : Nat} {v : Value} {d : DataW H} {p : List MemPlace} (hpos : 0 < w.heap.size) (hv : Value.okWide Try.prog w r b0 28 v) (h : DataW.Trod enc Try.prog w base spare held 28 v d p) (hw : ∀ n ∈ d.weights Try.prog 28,n<=reachBytes) :
  ∃ e : EdX,e.o.length<=9223372036854775807 /\ VR (Env.all w) e.v v:=by
 obtain ⟨cs,rfl,hl,hf⟩:=zNq (ts:=edTypes) Try.underlying28 (by kernel_rfl) (by kernel_rfl) (by kernel_rfl) hv h
 have h : ∀ (i : Nat) (u : TypeId) (c : Value),edTypes[i]? = some u -> cs[i]? = some c -> Cell.okWide Try.prog w r b0 u c /\ ∃ k y,DataW.trod enc Try.prog w base spare held k u [c] = some y /\ ∀ n ∈ y.1.weights Try.prog u,n<=reachBytes:=fun i u c hu hc=>by
  obtain ⟨q1,k,y,q2,q3⟩:=hf i u c hu hc
  exact ⟨q1,k,y,q2,fun n hn=>hw n (q3 n hn)⟩
 match cs,hl with
 | [c0,c1,c2,c3,c4],_ =>
  obtain ⟨_,_,_,h0,_⟩:=h 0 _ _ rfl rfl
  obtain ⟨_,_,_,h1,_⟩:=h 1 _ _ rfl rfl
  obtain ⟨_,_,_,h2,_⟩:=h 2 _ _ rfl rfl
  obtain ⟨_,_,_,h3,_⟩:=h 3 _ _ rfl rfl
  obtain ⟨o4,_,_,h4,w4⟩:=h 4 _ _ rfl rfl
  obtain ⟨x0,rfl⟩:=zDp h0
  obtain ⟨x1,rfl⟩:=zDp h1
  obtain ⟨x2,rfl⟩:=zDp h2
  obtain ⟨x3,rfl⟩:=trod_o1 h3
  obtain ⟨q,g2,s2,e2⟩:=zEe layO Try.underlying26 (by kernel_rfl) (fun _ _ _ hy=>trod_op hy) o4 h4 hpos w4
  have hR : reachBytes = 140737488351232:=by decide
  have s2 : q.l.length * 24<=reachBytes:=bytes_o ▸ s2
  exact ⟨⟨x0,x1,x2,x3,q.l⟩,by show q.l.length<=_;omega,
   .agg _ _ (.cons _ _ _ _ (.int _ _) (.cons _ _ _ _ (.int _ _) (.cons _ _ _ _ (.int _ _) (.cons _ _ _ _ (.bool _) (.cons _ _ _ _ (zEj layO g2 e2) .nil)))))⟩
end
end
section
open Go Go.RowKit
def nxL (m : MsT) (b1 b2 b3 b4 : Nat) : LtM:=⟨m,ownV b1 m.q,ownV b2 m.an,ownV b3 m.ns,ownV b4 m.ar⟩
def nxAt (m : MsT) (b1 b2 b3 b4 : Nat) (H : Tr AObj) : Prop:=H.get b1 = some (ownB layQ 25 m.q) /\ H.get b2 = some (ownB layR 23 m.an) /\ H.get b3 = some (ownB layR 23 m.ns) /\ H.get b4 = some (ownB layR 23 m.ar)
theorem nxL_at {m : MsT} {b1 b2 b3 b4 : Nat} {H : Tr AObj} (hJ : b1 < JJ /\ b2 < JJ /\ b3 < JJ /\ b4 < JJ) (h : nxAt m b1 b2 b3 b4 H) : (nxL m b1 b2 b3 b4).at H :=
 ⟨.ownV layQ _ hJ.1 h.1,.ownV layR _ hJ.2.1 h.2.1,.ownV layR _ hJ.2.2.1 h.2.2.1,.ownV layR _ hJ.2.2.2 h.2.2.2⟩
noncomputable def ct_sameEE : Ct Try.prog 0:=CtR.tree 19 (EdX × EdX) (fun a=>[a.1.v,a.2.v]) (fun a=>a.1 = a.2 /\ a.1.o.length<=1000000000) (fun _=>.bool true) (fun a b h=>by simp only [aQ,and_true] at h;exact Prod.ext (EdX.v_inj h.1) (EdX.v_inj h.2)) (fun _=>rfl)
 (fun a ⟨h,hl⟩=>by
  obtain ⟨a,b⟩:=a
  have h : a = b:=h
  subst h
  obtain ⟨r,hF,H,m,wr,rfl⟩:=sameE_tr a hl;exact ⟨_,_,_,_,hF,.one _ _ (.plain _ rfl)⟩)
theorem smallB {e : EdX} {n y : Int} (hn : n<=1000) (hy : y<=1000000) (h : (e.o.any (bigO y) || decide ((e.o.length : Int) > n)) = false) : e.small:=by
 obtain ⟨h1,h2⟩:=Bool.or_eq_false_iff.1 h
 have h2:=oF h2
 refine ⟨by omega,fun o ho=>?_⟩
 have := List.any_eq_false.1 h1 o ho
 unfold bigO at this
 simp only [dT] at this
 omega
theorem put_ok {m : MsT} {e : EdX} {n : Int} (h : m.big n 1000 = false) (hS : sumO e.o<=65535) : (pcM m e).okM:=by
 unfold MsT.big at h
 simp only [Bool.or_eq_false_iff] at h
 obtain ⟨_,hq,ha,hn,hr⟩:=h
 have rok : ∀ (l : List RcX),l.any (bigR 1000) = false -> ∀ x ∈ l,x.ok = true:=fun l hl x hx=>by
  have := List.any_eq_false.1 hl x hx
  unfold bigR at this
  simp only [Bool.or_eq_true,dT,not_or] at this
  obtain ⟨h1,h2⟩:=this
  unfold RcX.ok
  rw [bL (by omega),bL (by omega)];rfl
 refine ⟨fun x hx=>?_,fun x hx=>rok _ ha x (List.mem_filter.1 hx).1,fun x hx=>rok _ hn x (List.mem_filter.1 hx).1,fun x hx=>?_⟩
 ·have := List.any_eq_false.1 hq x hx
  unfold bigQ at this
  simp only [dT] at this
  exact bL (by omega)
 rcases List.mem_append.1 hx with hx | hx
 ·exact rok _ hr x (List.mem_filter.1 hx).1
 simp only [List.mem_singleton] at hx
 subst hx
 unfold RcX.ok
 have : (recE e).d.data.size = (dataO e.o).length:=by show ((dataO e.o).toArray).size = _;simp
 rw [this,zFj,bL (show (recE e).n.data.size<=100000000 from (by show 1<=100000000;decide)),bL (by omega)];rfl
theorem put_fit {m : MsT} {e : EdX} (h : m.fit 100) : (pcM m e).fit 1000:=by
 obtain ⟨a,b,c,d⟩:=h
 have h1 : (m.an.filter nop).length<=m.an.length:=List.length_filter_le _ _
 have h2 : (m.ns.filter nop).length<=m.ns.length:=List.length_filter_le _ _
 have h3 : (m.ar.filter nop).length<=m.ar.length:=List.length_filter_le _ _
 refine ⟨by show m.q.length<=_;omega,by show (m.an.filter nop).length<=_;omega,by show (m.ns.filter nop).length<=_;omega,?_⟩
 show (m.ar.filter nop++[recE e]).length<=_
 rw [aB];simp only [aC,List.length_nil];omega
theorem put_dat {m : MsT} {e : EdX} {n : Int} (h : m.big n 1000 = false) (hS : sumO e.o<=65535) : ∀ x ∈ (pcM m e).ar,x.d.data.toList.length<=1000000:=fun x hx=>by
 rcases List.mem_append.1 hx with hx | hx
 ·have := (MsT.small_ar h x (List.mem_filter.1 hx).1).2;omega
 simp only [List.mem_singleton] at hx
 subst hx
 show ((dataO e.o).toArray).toList.length<=_
 rw [List.toList_toArray,zFj];omega
theorem wr_goodE {m : MsT} {e : Int} {o : Bl} (h : m.wr = (e,o)) : (e = 0 /\ m.chk = 0 /\ ∃ s,mwF ⟨m.head,[],0⟩ m.items = some s /\ o = s.out) \/ (e ≠ 0 /\ o = []):=by
 by_cases hc : m.chk = 0
 ·cases hs : mwF ⟨m.head,[],0⟩ m.items with
  | none=>rw [zFb hc hs] at h;simp only [Prod.mk.injEq] at h;obtain ⟨rfl,rfl⟩:=h;exact .inr ⟨by decide,rfl⟩
  | some s=>rw [wr_some hc hs] at h;simp only [Prod.mk.injEq] at h;obtain ⟨rfl,rfl⟩:=h;exact .inl ⟨rfl,hc,s,rfl,rfl⟩
 unfold MsT.wr at h
 rw [if_pos hc] at h
 simp only [Prod.mk.injEq] at h
 obtain ⟨rfl,rfl⟩:=h
 exact .inr ⟨hc,rfl⟩
theorem code_put (m : MsT) {e : EdX} (h : chkE e = 0) : (pcM m e).code = IntKind.i64.wrap (IntKind.i64.wrap (16 * e.ext) + codeI m.fl):=by
 obtain ⟨_,⟨x1,x2⟩,_⟩:=zTk h
 obtain ⟨x,hx⟩:=Int.eq_ofNat_of_zero_le x1
 obtain ⟨n,hn,hc⟩:=code_nat m.fl
 unfold MsT.code
 rw [of_put m h]
 show bitsI .or .i64 (shlI .i64 e.ext 4) (codeI m.fl) = _
 have e1 : shlI .i64 (x : Int) 4 = ((2 ^ 4 * x : Nat) : Int):=by
  show IntKind.i64.wrap ((x : Int) * 2 ^ 4) = _
  rw [wrapN (by omega) (by omega)];omega
 rw [hx,hc,e1,or_add (by omega) (by omega),wrapN (x:=16 * (x : Int)) (by omega) (by omega),wrapN (by omega) (by omega)]
 omega
theorem room_put (m : MsT) {e : EdX} (h : chkE e = 0) : (pcM m e).room = maxI 512 e.size:=by
 unfold MsT.room
 rw [of_put m h]
theorem putF_ok {m : MsT} {e : EdX} (h : putF m e = 0) : chkE e = 0 /\ cntO m.an + cntO m.ns + cntO m.ar = 0:=by
 unfold putF at h
 by_cases hc : chkE e = 0
 ·rw [if_neg (by rw [hc];simp)] at h
  by_cases hn : cntO m.an + cntO m.ns + cntO m.ar > 0
  ·rw [if_pos hn] at h;cases h
  exact ⟨hc,by omega⟩
 rw [if_pos hc] at h;exact ab h hc
theorem putF_no {m : MsT} {e : EdX} (h : putF m e ≠ 0) (h7 : putF m e ≠ 7) : chkE e = putF m e:=by
 unfold putF at h h7 ⊢
 by_cases hc : chkE e = 0
 ·rw [if_neg (by rw [hc];simp)] at h h7
  by_cases hn : cntO m.an + cntO m.ns + cntO m.ar > 0
  ·rw [if_pos hn] at h7;exact ab rfl h7
  rw [if_neg hn] at h;exact ab rfl h
 rw [if_pos hc]
theorem msg_lenE {B : Bl} {m : MsT} (h : msQ B m 0 0) : 12<=B.length /\ B.length<=65535:=by
 cases h with
 | fault h hl ht hb h0=>exact ab rfl h0
 | fine h hl hf=>exact h
theorem wr_caseE (m : MsT) : (∃ er : Int,er ≠ 0 /\ m.wr = (er,[])) \/ ∃ u us,msQ (u :: us) m 0 0 /\ us.length + 1<=65535 /\ m.wr = (0,u :: us):=by
 obtain ⟨R,hR⟩ : ∃ R,m.wr = R:=⟨_,rfl⟩
 obtain ⟨er,o⟩:=R
 rcases wr_goodE hR with ⟨rfl,h0,s,hs,rfl⟩ | ⟨h,rfl⟩
 ·have hb:=msg_back h0 hs
  have hl:=msg_lenE hb
  cases ho : s.out with
  | nil=>rw [ho] at hl;exact ab hl.1 (by decide)
  | cons u us=>rw [ho] at hb hl hR;exact .inr ⟨u,us,hb,hl.2,hR⟩
 exact .inl ⟨er,h,hR⟩
theorem wr_elim {m : MsT} {G : Prop} (h1 : ∀ er : Int,er ≠ 0 -> m.wr = (er,[]) -> G) (h2 : ∀ u us,msQ (u :: us) m 0 0 -> us.length + 1<=65535 -> m.wr = (0,u :: us) -> G) : G:=by
 rcases wr_caseE m with ⟨er,a,b⟩ | ⟨u,us,a,b,c⟩
 ·exact h1 er a b
 exact h2 u us a b c
theorem msQ_elim {B : Bl} {m : MsT} (hb : msQ B m 0 0) {P : MsT × Int × Int -> Prop} (h : P (m,0,0)) : ∀ y,msQ B y.1 y.2.1 y.2.2 -> P y:=fun ⟨m',e',p'⟩ hq=>by
 obtain ⟨rfl,rfl,rfl⟩:=hb.det hq
 exact h
noncomputable def tbEb2 : Tb Try.prog 0:=tbOf mixed [Ct.yes 20 zQl,ct_bigMsT,ct_bigET,ct_putL,ct_ofL,ct_chkL,ct_sameEE,ct_stripN,ct_sameML,ct_codeL,ct_code,ct_roomL,zSz,zXp]
theorem eback_fn (m : MsT) (hf : m.fit 4398046511104) (e : EdX) (he : e.o.length<=9223372036854775807) : ∃ r,FnS Try.prog 0 7 [m.v,e.v] .e 0 r /\ ∃ H k wr,r = .ret (.bool true) H k wr:=by
 refine zBo mixed tbEb2 [] Try.func7 (c:=bodyOf Try.f7) (by kernel_rfl) ?_
 refine eI (m,100,1000) (aI ⟨rfl,⟨by have := hf.1;show m.q.length<=_;omega,by have := hf.2.1;show m.an.length<=_;omega,by have := hf.2.2.1;show m.ns.length<=_;omega,by have := hf.2.2.2;show m.ar.length<=_;omega⟩⟩ ?_)
 refine ifK (fun g=>?_) (fun g=>?_)
 ·exact ⟨_,_,_,rfl⟩
 have g : m.big 100 1000 = false:=g
 have hk0 : m.fit 100:=MsT.few_fit (k:=100) (by omega) hf g
 have hk : m.fit 1000000:=by obtain ⟨a,b,c,d⟩:=hk0;exact ⟨by omega,by omega,by omega,by omega⟩
 refine eI (e,20,1000) (aI ⟨rfl,he⟩ ?_)
 refine ifK (fun g2=>?_) (fun g2=>?_)
 ·exact ⟨_,_,_,rfl⟩
 have hs : e.small:=smallB (n:=20) (y:=1000) (by decide) (by decide) g2
 refine eI (m.lt,e.lt) (aI ⟨rfl,⟨m.lt_at _,e.lt_at _⟩,hk,hs⟩ ?_)
 refine ifK (fun hp=>?_) (fun hp=>?_)
 ·have hp : putF m e = 0:=oT hp
  obtain ⟨hc,hn⟩:=putF_ok hp
  have hof:=of_put m hc
  have hS:=(zTk hc).2.2.2.2
  have hok:=put_ok g hS
  have hkw : (pcM m e).fit 1000:=put_fit hk0
  have hk1 : (pcM m e).fit 1000000:=by obtain ⟨a,b,c,d⟩:=hkw;exact ⟨by omega,by omega,by omega,by omega⟩
  have hd:=put_dat g hS
  have hse : (ofM (pcM m e)).1 = e:=by rw [hof]
  have hle : (ofM (pcM m e)).1.o.length<=1000000000:=by rw [hse];exact aW hs.1 (by decide)
  have h7 : putF (pcM m e) e = 7:=put_put hc
  have hsp : (pcM m e).strip = m:=strip_put hn
  have atx : ∀ H : Tr AObj,nxAt (pcM m e) 2 3 4 5 H -> (nxL (pcM m e) 2 3 4 5).at H:=fun H h=>nxL_at (by decide) h
  refine eI (nxL (pcM m e) 2 3 4 5) (aI ⟨rfl,atx _ ⟨by kernel_rfl,by kernel_rfl,by kernel_rfl,by kernel_rfl⟩,hk1,hd⟩ ?_)
  refine eI (nxL (pcM m e) 2 3 4 5,e.lt) (aI ⟨rfl,⟨atx _ ⟨by kernel_rfl,by kernel_rfl,by kernel_rfl,by kernel_rfl⟩,e.lt_at _⟩,hk1,hs⟩ ?_)
  refine ifK (fun q=>ab (show putF (pcM m e) e = 0 from oT q) (by rw [h7];decide)) (fun _=>?_)
  refine aI (by kernel_rfl) ?_
  refine ifK (fun q=>ab (show (!(ofM (pcM m e)).2.1) = true from q) (by rw [hof];simp)) (fun _=>?_)
  refine ifK (fun q=>ab (show ((ofM (pcM m e)).2.2 != 0) = true from q) (by rw [hof];simp)) (fun _=>?_)
  refine eI ((ofM (pcM m e)).1,e) (aI ⟨rfl,hse,hle⟩ ?_)
  refine ifK (fun q=>ab (show (putF (pcM m e) e != 7) = true from q) (by rw [h7];simp)) (fun _=>?_)
  refine eI (nxL (pcM m e) 2 3 4 5) (aI ⟨rfl,atx _ ⟨by kernel_rfl,by kernel_rfl,by kernel_rfl,by kernel_rfl⟩,hk1⟩ ?_)
  refine eI (nxL (pcM m e).strip 9 10 11 12,m.lt) (aI ⟨rfl,⟨nxL_at (by decide) ⟨by kernel_rfl,by kernel_rfl,by kernel_rfl,by kernel_rfl⟩,m.lt_at _⟩,MsT.strip_fit hk1⟩ ?_)
  refine ifK (fun q=>ab (show (!(pcM m e).strip.same m) = true from q) (by rw [hsp,MsT.same_refl];simp)) (fun _=>?_)
  refine aI (by kernel_rfl) ?_
  refine eI (nxL (pcM m e) 2 3 4 5) (aI ⟨rfl,atx _ ⟨by kernel_rfl,by kernel_rfl,by kernel_rfl,by kernel_rfl⟩,hk1,hd⟩ ?_)
  refine ifK (fun q=>?_) (fun _=>?_)
  ·exfalso
   have q : ((pcM m e).code != IntKind.i64.wrap (IntKind.i64.wrap (16 * e.ext) + codeI m.fl)) = true:=q
   rw [code_put m hc] at q
   simp at q
  refine eI (nxL (pcM m e) 2 3 4 5) (aI ⟨rfl,atx _ ⟨by kernel_rfl,by kernel_rfl,by kernel_rfl,by kernel_rfl⟩,hk1,hd⟩ ?_)
  refine ifK (fun q=>?_) (fun _=>?_)
  ·exfalso
   have q : ((pcM m e).room != maxI 512 e.size) = true:=q
   rw [room_put m hc] at q
   simp at q
  refine wr_elim (m:=pcM m e) (fun er her hR=>?_) (fun u us hb hl2 hR=>?_)
  ·refine eI (nxL (pcM m e) 2 3 4 5,er,[]) (aI ⟨rfl,atx _ ⟨by kernel_rfl,by kernel_rfl,by kernel_rfl,by kernel_rfl⟩,hok,hkw,hR⟩ ?_)
   refine ifK (fun _=>?_) (fun q=>ab (show (er != 0) = false from q) (by simpa using her))
   exact ⟨_,_,_,rfl⟩
  refine eI (nxL (pcM m e) 2 3 4 5,0,u :: us) (aI ⟨rfl,atx _ ⟨by kernel_rfl,by kernel_rfl,by kernel_rfl,by kernel_rfl⟩,hok,hkw,hR⟩ ?_)
  have at3 : ∀ H : Tr AObj,H.get 13 = some (.cells ((u :: us).map byV) 5) -> LtL layBy H (.slice (some ⟨13,0,none⟩) (us.length + 1) U) (u :: us):=fun H h=>LtL.own (l:=u :: us) layBy [] (by decide) (.inl rfl) h (by rw [<- zNm,aF])
  refine eI (u :: us,.slice (some ⟨13,0,none⟩) (us.length + 1) U) (aI ⟨rfl,at3 _ (by kernel_rfl),by show us.length + 1<=_;omega⟩ ?_)
  refine msQ_elim hb ?_
  refine eI (pcM m e).lt (aI ⟨rfl,(pcM m e).lt_at _,hk1,hd⟩ ?_)
  refine ifK (fun _=>?_) (fun q=>ab (show (ofM (pcM m e)).2.1 = false from q) (by rw [hof];simp))
  refine ifK (fun _=>?_) (fun q=>ab (show ((ofM (pcM m e)).2.2 == 0) = false from q) (by rw [hof];simp))
  refine eI ((ofM (pcM m e)).1,e) (aI ⟨rfl,hse,hle⟩ ?_)
  exact ⟨_,_,_,rfl⟩
 have hp : putF m e ≠ 0:=oF hp
 refine ifK (fun _=>?_) (fun q=>ab (show (putF m e != 0) = false from q) (by simpa using hp))
 refine ifK (fun _=>?_) (fun q=>?_)
 ·exact ⟨_,_,_,rfl⟩
 have h7 : putF m e ≠ 7:=by
  have q : (putF m e == 7) = false:=q
  simpa using q
 refine eI e.lt (aI ⟨rfl,e.lt_at _,hs⟩ ?_)
 exact ⟨_,_,_,congrArg (fun b=>Res.ret (.bool b) _ _ _) (show (chkE e == putF m e) = true by rw [putF_no hp h7];simp)⟩
end
end Go.Proofs.Ytknpgjeclmadkaa
