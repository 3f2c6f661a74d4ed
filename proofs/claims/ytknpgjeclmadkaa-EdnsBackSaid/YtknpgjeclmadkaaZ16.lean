/- DERIVED. Parts. -/
import Derived.Test.YtknpgjeclmadkaaProg
import Derived.Test.YtknpgjeclmadkaaZ2
set_option maxRecDepth 1000000
set_option maxHeartbeats 32000000
namespace Go.Proofs.Ytknpgjeclmadkaa
section
open Go.RowKit Go.Shelf
attribute [local go_sem] Oper.semAt_some
def nameSeq : Nat -> Bs -> List (Option Bs)
 | 0,_=>[]
 | f + 1,n=>if n = [0] then [] else if n.length = 0 \/ bt n 0 = 0 \/ 63 < bt n 0 \/ n.length<=bt n 0 then [none]
  else some (n.tail.take (bt n 0)) :: nameSeq f (n.drop (1 + bt n 0))
def encLab : Option Bs -> Array Value
 | some l=>#[str l,.bool true]
 | none=>#[str [],.bool false]
attribute [local go_sem] wrap_bt ByteArray.extract_mk
def YRes {α : Type} (J Jx : List α -> World -> Prop) (pre : List α) (x : α) (bn : Nat) (W : World) (b : Bool) (W' : World) : Prop :=
 (b = true /\ J (pre++[x]) W' /\ W'.heap[bn]? = W.heap[bn]?) \/ (b = false /\ Jx (pre++[x]) W')
theorem all1_in (n : Nat) (hn : 1<=n) (l bn : Nat) (s : Bs) (_hs : s.length<=1000000000) (J Jx : List (Option Bs) -> World -> Prop)
  (hJ : ∀ pre W v,J pre W -> J pre (W.setCell ⟨bn,0,none⟩ v)) (hJd : ∀ pre W k,J pre W -> J pre (W.drewN k))
  (hY : ∀ pre x W,J pre W -> pre.length < (nameSeq (s.length + 1) s).length -> YieldAt Fence.wide (n - 1) Try.prog l (encLab x) W fun e W'=>∃ b,e = .returned (.bool b) /\ YRes J Jx pre x bn W b W')
  (W : World) (hb : Boxed W bn 9 (str s)) (h0 : J [] W) :
  CallsIn Fence.wide n Try.prog 95 #[.func (.yield l) #[] #[],.pointer (some ⟨bn,0,none⟩)] W fun e W'=>(∃ v,e = .returned v) /\
   ((∃ xs,xs = nameSeq (s.length + 1) s /\ J xs W') \/ (∃ pre,(∃ r,nameSeq (s.length + 1) s = pre++r /\ pre ≠ []) /\ Jx pre W')):=by
 refine callsIn_of_wp Try.func95 rfl trivial ?_ rfl
 simp only [Try.ntmps95,List.size_toArray,List.length_cons,List.length_nil,Nat.reduceAdd,Nat.reduceSub,Array.replicate_succ,Array.replicate_zero,List.push_toArray,List.append_toArray,List.nil_append,List.cons_append]
 gi_wp2
 gi_loopg [] (s.length + 1) (fun (g : Nat) (wr : World)=>∃ (m : Bs) (pre : List (Option Bs)),m.length < g /\ m.length<=s.length /\ Boxed wr bn 9 (str m) /\ J pre wr /\ Hid (nameSeq (s.length + 1) s = pre++nameSeq g m))
 case atStart=>exact ⟨s,[],by omega,Nat.le_refl _,hb,h0,rfl⟩
 case round =>
  obtain ⟨m,pre,hg,hms,hb,hJp,HS⟩:=hrel
  obtain ⟨g,rfl⟩ : ∃ g',gk = g' + 1:=⟨gk - 1,by omega⟩
  have hc:=hb.cell
  have hf:=hb.frozen
  have hbl:=bt_lt m 0
  by_cases h1 : m = [0]
  ·have h1' : (m == [0]) = true:=by simpa using h1
   have hz : nameSeq (g + 1) m = []:=by rw [nameSeq,if_pos h1]
   have HZ:=Lib.hid hz
   clear h1 hz
   gi_wp2
   refine bodyPost_ret (results_none rfl _ _ _) rfl ?_
   exact ⟨⟨_,rfl⟩,.inl ⟨pre,by rw [HS.out,HZ.out,List.append_nil],hJp⟩⟩
  ·have h1' : (m == [0]) = false:=by simpa using h1
   by_cases hbad : m.length = 0 \/ bt m 0 = 0 \/ 63 < bt m 0 \/ m.length<=bt m 0
   ·have hz : nameSeq (g + 1) m = [none]:=by rw [nameSeq,if_neg h1,if_pos hbad]
    have HZ:=Lib.hid hz
    clear hz
    have hcase : ((m.length : Int) == 0) = true \/ (((m.length : Int) == 0) = false /\ ((bt m 0 : Int) == 0) = true) \/ (((m.length : Int) == 0) = false /\ ((bt m 0 : Int) == 0) = false /\ decide (63 < (bt m 0 : Int)) = true) \/
      (((m.length : Int) == 0) = false /\ ((bt m 0 : Int) == 0) = false /\ decide (63 < (bt m 0 : Int)) = false /\ decide (m.length<=bt m 0) = true):=by
     simp only [beq_iff_eq,beq_eq_false_iff_ne,decide_eq_true_eq,decide_eq_false_iff_not];omega
    clear hbad h1
    rcases hcase with h2' | ⟨h2',h3'⟩ | ⟨h2',h3',h4'⟩ | ⟨h2',h3',h4',h5'⟩
    all_goals try have hix:=fun (w : World)=>idx_mk (w:=w) 9 m .i64 0 Try.underlying9 (by omega) (by rw [beq_eq_false_iff_ne] at h2';omega)
    all_goals
     gi_wp2
     refine wpIn_wide.2 ?_
     go_quiet (fail)
     gi_wp2
     obtain ⟨fn,tmps,assign,body,hy,hR⟩:=hY pre none (wr.drewN nq) (hJd _ _ _ hJp) (by rw [HS.out,HZ.out];simp)
     dsimp only [encLab] at hy
     rw [hy]
     gi_wp2
     refine hR.mono ?_
     rintro e W3 ⟨b,rfl,hr⟩
     gi_wp2
     refine bodyPost_ret (results_none rfl _ _ _) rfl ?_
     rcases hr with ⟨_,hJ3,_⟩ | ⟨_,hJx3⟩
     ·exact ⟨⟨_,rfl⟩,.inl ⟨pre++[none],by rw [HS.out,HZ.out],hJ3⟩⟩
     ·exact ⟨⟨_,rfl⟩,.inr ⟨pre++[none],⟨[],by rw [HS.out,HZ.out,List.append_nil],by simp⟩,hJx3⟩⟩
   ·have hz : nameSeq (g + 1) m = some (m.tail.take (bt m 0)) :: nameSeq g (m.drop (1 + bt m 0)):=by rw [nameSeq,if_neg h1,if_neg hbad]
    have HZ:=Lib.hid hz
    clear hz
    have h2' : ((m.length : Int) == 0) = false:=by rw [beq_eq_false_iff_ne];omega
    have hix:=fun (w : World)=>idx_mk (w:=w) 9 m .i64 0 Try.underlying9 (by omega) (by omega)
    have h3' : ((bt m 0 : Int) == 0) = false:=by rw [beq_eq_false_iff_ne];omega
    have h4' : decide (63 < (bt m 0 : Int)) = false:=by simp;omega
    have h5' : decide (m.length<=bt m 0) = false:=by simp;omega
    have hlb : bt m 0 < m.length:=by omega
    have hlb63 : bt m 0<=63:=by omega
    clear hbad h1
    gi_wp2
    refine wpIn_wide.2 ?_
    go_quiet (fail)
    gi_wp2
    obtain ⟨fn,tmps,assign,body,hy,hR⟩:=hY pre (some (m.tail.take (bt m 0))) (wr.drewN (nq + 1)) (hJd _ _ _ hJp) (by rw [HS.out,HZ.out];simp)
    dsimp only [encLab] at hy
    have e1 : IntKind.i64.wrap (1 + (bt m 0 : Int)) = 1 + (bt m 0 : Int):=IntWalk.i64_in _ (by omega)
    have hsl : ∀ w : World,(Instr.slice 9 (str m) (some (.int .i64 1)) (some (.int .i64 (1 + (bt m 0 : Int)))) none).run Try.prog w = .ok (str (m.tail.take (bt m 0))) w:=fun w=>by
     rw [slice_mk (w:=w) 9 m .i64 .i64 1 (1 + (bt m 0 : Int)) Try.underlying9 (by omega) (by omega) (by omega)]
     have : (1 + (bt m 0 : Int)).toNat - (1 : Int).toNat = bt m 0:=by omega
     rw [this];simp
    have e0 : IntKind.i64.wrap (bt m 0 : Int) = (bt m 0 : Int):=IntWalk.i64_in _ (by omega)
    have e0' : wrap64 (bt m 0 : Int) = (bt m 0 : Int):=IntWalk.wrap64_in _ (by omega)
    have e1' : wrap64 (1 + (bt m 0 : Int)) = 1 + (bt m 0 : Int):=IntWalk.wrap64_in _ (by omega)
    gi_region_with (refine hR.mono ?_;rintro e W3 ⟨b,rfl,hr⟩)
    all_goals
     rcases hr with ⟨rfl,hJ3,hbx⟩ | ⟨rfl,hJx3⟩
     ·have hb3 : Boxed W3 bn 9 (str m):=hbx.trans hb
      have hc3:=hb3.cell
      have hf3:=hb3.frozen
      have hsf : ∀ w : World,(Instr.slice 9 (str m) (some (.int .i64 (1 + (bt m 0 : Int)))) none none).run Try.prog w = .ok (str (m.drop (1 + bt m 0))) w:=fun w=>by
       rw [zPz (w:=w) 9 m .i64 (1 + (bt m 0 : Int)) Try.underlying9 (by omega) (by omega)]
       have : (1 + (bt m 0 : Int)).toNat = 1 + bt m 0:=by omega
       rw [this]
      gi_wp2
      refine wpIn_wide.2 ?_
      go_region
      all_goals
       gi_wp2
       gi_roundg g
       case rel =>
        refine ⟨m.drop (1 + bt m 0),pre++[some (m.tail.take (bt m 0))],by simp only [List.length_drop];omega,by simp only [List.length_drop];omega,?_,?_,?_⟩
        ·exact hb3.set _
        ·exact hJd _ _ 1 (hJ _ _ _ hJ3)
        ·unfold Hid;rw [HS.out,HZ.out,List.append_assoc];rfl
       case measure=>omega
     ·gi_wp2
      refine bodyPost_ret (results_none rfl _ _ _) rfl ?_
      exact ⟨⟨_,rfl⟩,.inr ⟨pre++[some (m.tail.take (bt m 0))],⟨nameSeq g (m.drop (1 + bt m 0)),by rw [HS.out,HZ.out,List.append_assoc];rfl,by simp⟩,hJx3⟩⟩
theorem zHa : ∀ (f : Nat) (n : Bs),(nameSeq f n).length<=f
 | 0,_=>by simp [nameSeq]
 | f + 1,n=>by
  rw [nameSeq]
  split
  ·simp
  ·split
   ·simp
   ·simp only [List.length_cons];have := zHa f (n.drop (1 + bt n 0));omega
theorem all_seq (n : Nat) (hn : 1<=n) (bn : Nat) (s : Bs) (hs : s.length<=1000000000) (w : World) (hb : Boxed w bn 9 (str s)) :
  SeqStopsX Fence.wide n Try.prog 95 #[.pointer (some ⟨bn,0,none⟩)] encLab (· = bn) (fun W W'=>W'.heap[bn]? = W.heap[bn]?) (· = nameSeq (s.length + 1) s)
   (fun pre=>∃ r,nameSeq (s.length + 1) s = pre++r /\ pre ≠ []) (nameSeq (s.length + 1) s).length w:=by
 intro l J Jx W hW hJ hJx hY h0
 have hbW : Boxed W bn 9 (str s):=(hW.block bn hb.lt).trans hb
 refine all1_in n hn l bn s hs J Jx (fun pre W v h=>hJ pre W _ (some bn) h (grownBy_setCell' W bn v) (fun r e=>.inr (by cases e;rfl)))
  (fun pre W k h=>hJ pre W _ none h ⟨rfl,rfl,rfl,Nat.le_refl _,fun _ _ _=>rfl⟩ (fun r e=>by cases e)) ?_ W hbW h0
 intro pre x W1 hJ1 hlen
 obtain ⟨fn,tmps,assign,body,hy,hR⟩:=hY pre x W1 hJ1 hlen
 refine ⟨fn,tmps,assign,body,hy,hR.mono ?_⟩
 rintro e W' (⟨rfl,h1,h2⟩ | ⟨rfl,h1⟩)
 ·exact ⟨true,rfl,.inl ⟨rfl,h1,h2⟩⟩
 ·exact ⟨false,rfl,.inr ⟨rfl,h1⟩⟩
end
section
open Go.RowKit Go.Shelf
theorem rt_texts : RowT Try.prog 118 9 1 16:=RowT.mk' (z:=.string ⟨#[]⟩) Try.underlying118 (by kernel_rfl) rfl (by decide) (by decide)
def labels (s : Bs) : List Bs × Int :=
 if none ∈ nameSeq (s.length + 1) s then ([],4) else if 255 < s.length then ([],3) else ((nameSeq (s.length + 1) s).filterMap id,0)
theorem nameAll (s : Bs) (w : World) : Calls Try.prog 90 #[str s] w fun e w' =>
  e = .returned (.func (.func 95) #[] #[.pointer (some ⟨w.heap.size,0,none⟩)]) /\ w' = w.alloc (.cells #[str s] 9):=by
 go_enter Try.func90,Try.ntmps90
 go_wp2
 go_ret
 exact ⟨rfl,rfl⟩
theorem zRj {w : World} {B B' : Nat} {e : TypeId} {sz : Nat} {v : Value} {n : Nat} {xs : List Value} (h : w.ownsRow B e sz v n xs) (hB : B'<=B) : w.ownsRow B' e sz v n xs:=by
 refine ⟨h.1,?_⟩
 rcases h.2 with h2 | ⟨g,cap,cur,hv,hg,r⟩
 ·exact .inl h2
 ·exact .inr ⟨g,cap,cur,hv,by omega,r⟩
theorem boxedX {W W' : World} {row : Option Nat} {B b bn : Nat} {t : TypeId} {v : Value} (h : Boxed W b t v) (hg : W.grownBy W' row)
  (hr : ∀ r,row = some r -> (B<=r /\ ∃ o : Obj,W.heap[r]? = some o /\ o.isCells = false) \/ r = bn) (hb : b ≠ bn) : Boxed W' b t v:=by
 refine h.kept hg (fun e=>?_)
 rcases hr b e.symm with ⟨_,o,ho,hc⟩ | rfl
 ·have h' : W.heap[b]? = _:=h
  rw [h'] at ho;cases ho;cases hc
 ·exact hb rfl
theorem zPo {W W' : World} {row : Option Nat} {B bn base : Nat} {e : TypeId} {sz : Nat} {v : Value} {k : Nat} {xs : List Value} (h : W.ownsRow base e sz v k xs) (hg : W.grownBy W' row)
  (hr : ∀ r,row = some r -> (B<=r /\ ∃ o : Obj,W.heap[r]? = some o /\ o.isCells = false) \/ r = bn) (hb : bn < base) : W'.ownsRow base e sz v k xs:=by
 refine h.kept hg ?_
 rcases h.2 with ⟨rfl,_⟩ | ⟨g,cap,cur,rfl,hbg,hgg,_⟩
 ·exact .inl rfl
 ·refine .inr (fun e=>?_)
  simp only [Value.ownBlock] at e
  rcases hr g e.symm with ⟨_,o,ho,hc⟩ | rfl
  ·rw [hgg] at ho;cases ho;cases hc
  ·omega
theorem belowX {W W' w : World} {row : Option Nat} {B bn N : Nat} (h : Below N w W) (hg : W.grownBy W' row) (hN : N<=W.heap.size)
  (hr : ∀ r,row = some r -> (B<=r /\ ∃ o : Obj,W.heap[r]? = some o /\ o.isCells = false) \/ r = bn) (hB : N<=B) (hb : N<=bn) : Below N w W' :=
 h.grown hg hN (fun k hk=>by rcases hr k hk with ⟨h1,_⟩ | rfl <;> omega)
theorem zCl {W : World} {b D : Nat} {t : TypeId} {v : Value} (h : Boxed W b t v) (hne : b < D) (o : Obj) : Boxed (W.putObj D o) b t v:=by
 refine Eq.trans ?_ h
 exact World.putObj_heap_other (by omega)
def LabI (w : World) (pre : List (Option Bs)) (W : World) : Prop :=
 none ∉ pre /\ Boxed W w.heap.size 118 (.slice none 0 0) /\ Boxed W (w.heap.size + 1) 33 (.int .i64 0) /\
  (∃ v,Boxed W (w.heap.size + 1 + 1) 118 v /\ W.ownsRow (w.heap.size + 4) 9 1 v (pre.filterMap id).length ((pre.filterMap id).map str) /\ (pre.filterMap id = [] -> v = .slice none 0 0)) /\ Below w.heap.size w W /\ w.heap.size + 4<=W.heap.size
def LabX (w : World) (c : Code) (pre : List (Option Bs)) (W : World) : Prop :=
 c = .ret /\ none ∈ pre /\ Boxed W w.heap.size 118 (.slice none 0 0) /\ Boxed W (w.heap.size + 1) 33 (.int .i64 4) /\ Below w.heap.size w W /\ w.heap.size + 4<=W.heap.size
theorem LabI_own (w : World) {B : Nat} (hB : w.heap.size + 4<=B) : OwnX B (· = w.heap.size + 3) (LabI w):=by
 rintro pre W W' row ⟨h0,h1,h2,⟨v,h3,h4,hv0⟩,h5,h6⟩ hg hr
 exact ⟨h0,boxedX h1 hg hr (by omega),boxedX h2 hg hr (by omega),⟨v,boxedX h3 hg hr (by omega),zPo h4 hg hr (by omega),hv0⟩,belowX h5 hg (by omega) hr (by omega) (by omega),Nat.le_trans h6 hg.size⟩
theorem LabX_own (w : World) {B : Nat} (hB : w.heap.size + 4<=B) (c : Code) : OwnX B (· = w.heap.size + 3) (LabX w c):=by
 rintro pre W W' row ⟨h0,h1,h2,h3,h5,h6⟩ hg hr
 exact ⟨h0,h1,boxedX h2 hg hr (by omega),boxedX h3 hg hr (by omega),belowX h5 hg (by omega) hr (by omega) (by omega),Nat.le_trans h6 hg.size⟩
section
attribute [local go_sem] Oper.semAt_some
theorem zXw (s : Bs) (w : World) (hs : s.length<=1000000000) :
  Calls Try.prog 81 #[str s] w fun e w'=>∃ v,e = .returned (.tuple #[v,.int .i64 (labels s).2]) /\
   Below w.heap.size w w' /\ w'.ownsRow w.heap.size 9 1 v (labels s).1.length ((labels s).1.map str) /\ ((labels s).1 = [] -> v = .slice none 0 0):=by
 refine (callsIn_wide (n:=5)).1 ?_
 refine callsIn_of_wp_marks Try.func81 rfl trivial ?_ rfl
 simp only [Try.ntmps81,List.size_toArray,List.length_cons,List.length_nil,Nat.reduceAdd,Nat.reduceSub,Array.replicate_succ,Array.replicate_zero,List.push_toArray,List.append_toArray,List.nil_append,List.cons_append]
 gi_wp2_with (refine ⟨trivial,?_⟩;gi_at_call 90;refine (callsIn_wide.2 (nameAll _ _)).mono ?_;rintro e w' ⟨rfl,rfl⟩)
 obtain ⟨W0,hW0⟩ : ∃ W0,W0 = (((w.alloc (Obj.cells #[Value.slice none 0 0] 118)).alloc (Obj.cells #[Value.int IntKind.i64 0] 33)).alloc (Obj.cells #[Value.slice none 0 0] 118)).alloc (Obj.cells #[str s] 9):=⟨_,rfl⟩
 have b2 : Boxed W0 w.heap.size 118 (.slice none 0 0):=by rw [hW0];exact (((Boxed.new _ _ _).alloc _).alloc _).alloc _
 have b3 : Boxed W0 (w.heap.size + 1) 33 (.int .i64 0):=by
  have := Boxed.new (w.alloc (Obj.cells #[Value.slice none 0 0] 118)) 33 (.int .i64 0);rw [World.size_alloc] at this
  rw [hW0];exact (this.alloc _).alloc _
 have b4 : Boxed W0 (w.heap.size + 1 + 1) 118 (.slice none 0 0):=by
  have := Boxed.new ((w.alloc (Obj.cells #[Value.slice none 0 0] 118)).alloc (Obj.cells #[Value.int IntKind.i64 0] 33)) 118 (.slice none 0 0);simp only [World.size_alloc] at this
  rw [hW0];exact this.alloc _
 have bN : Boxed W0 (w.heap.size + 3) 9 (str s):=by
  have := Boxed.new (((w.alloc (Obj.cells #[Value.slice none 0 0] 118)).alloc (Obj.cells #[Value.int IntKind.i64 0] 33)).alloc (Obj.cells #[Value.slice none 0 0] 118)) 9 (str s);simp only [World.size_alloc] at this
  rw [hW0];exact this
 have hsz : W0.heap.size = w.heap.size + 4:=by rw [hW0];simp
 have hB0 : Below w.heap.size w W0:=by rw [hW0];exact ((((Below.refl _ w).alloc (Nat.le_refl _) _).alloc (by simp) _).alloc (by simp;omega) _).alloc (by simp;omega) _
 rw [<- hW0]
 clear hW0
 refine zYe rfl (by omega) (gf:=95) (lb:=#[.pointer (some ⟨w.heap.size + 3,0,none⟩)]) rfl trivial (enters_of Try.func95 (by kernel_rfl) rfl)
  (all_seq (5 - 1) (by omega) (w.heap.size + 3) s hs W0 bN) (fun r e=>by subst e;omega) (fun h1 h2=>h2.trans h1) (fun W l o o' hl h _ _=>World.putObj_heap_other (by omega)) (Below.refl _ _) (fun x=>by cases x <;> rfl)
  (LabI w) (LabX w) (LabI_own w (by omega)) (LabX_own w (by omega)) ⟨by simp,b2,b3,⟨_,b4,World.ownsRow_nil _ _ _ _,fun _=>rfl⟩,hB0,by omega⟩
  (fun x=>{ tmps:=#[str s,undef,.pointer (some ⟨w.heap.size,0,none⟩),.pointer (some ⟨w.heap.size + 1,0,none⟩),.pointer (some ⟨w.heap.size + 1 + 1,0,none⟩),str (x.getD []),.bool x.isSome,str s,.func (.func 95) #[] #[.pointer (some ⟨w.heap.size + 1 + 1 + 1,0,none⟩)],str (x.getD []),.bool x.isSome,undef,undef,undef,undef,undef,undef,undef,undef,undef,undef],defers:=[] }) ?assign ?body ?done ?stop
 case assign =>
  intro l x W K hK
  cases x
  all_goals
   dsimp only [encLab]
   gi_wp2
   exact hK
 case body =>
  rintro l pre x W ⟨h0,h1,h2,⟨v,h3,h4,hv0⟩,h5,h6⟩ hlt
  have hlt' : pre.length < s.length + 1:=Nat.lt_of_lt_of_le hlt (zHa _ _)
  have hpl : (pre.filterMap id).length<=pre.length:=List.length_filterMap_le _ _
  cases x with
  | none =>
   have c2:=h1.cell
   have f2:=h1.frozen
   have c3:=h2.cell
   have f3:=h2.frozen
   dsimp only [Option.getD_none,Option.isSome_none]
   gi_wp2
   refine ⟨((KeepsOthers.setCell _ _ _).trans (KeepsOthers.setCell _ _ _)).from _,rfl,by simp,?_,?_,?_,?_⟩
   ·exact Boxed.other (h1.set _) (by omega) _
   ·exact Boxed.set _ (Boxed.other h2 (by omega) _)
   ·exact (h5.setCell (p:=⟨w.heap.size,0,none⟩) (Nat.le_refl _) _).setCell (p:=⟨w.heap.size + 1,0,none⟩) (by simp) _
   ·simpa using h6
  | some x =>
   have c4:=h3.cell
   have f4:=h3.frozen
   dsimp only [Option.getD_some,Option.isSome_some]
   gi_wp2_with (gi_at_builtin;refine halt ?_)
   refine unhalt ?_
   refine zJx rt_texts _ _ rfl rfl h4 (Below.refl _ W) _ rfl (by simp) rfl rfl rfl (by unfold room;omega) h6 ?_
   intro g cap w1 hg1 ho1 hb1 hs1 hgr1 _
   have h3':=h3.kept hgr1 (fun e=>by have := (h4.lt _ e.symm).1;omega)
   have c4':=h3'.cell
   have f4':=h3'.frozen
   clear c4 f4
   gi_wp2
   have hcells : ∀ j o,v.ownBlock = some j -> W.heap[j]? = some o -> o.isCells = true:=by
    intro j o ej hj
    rcases h4.2 with ⟨rfl,_⟩ | ⟨g',cap',cur,rfl,_,hgg,_⟩
    ·cases ej
    ·simp only [Value.ownBlock,Option.some.injEq] at ej;subst ej;rw [hgg] at hj;cases hj;rfl
   have hrow : ∀ b,b < w.heap.size + 4 -> some b ≠ v.ownBlock:=fun b hb e=>by have := (h4.lt _ e.symm).1;omega
   have hrow' : ∀ b,b < w.heap.size + 4 -> b ≠ g:=fun b hb e=>by omega
   refine ⟨((KeepsOthers.of_grownBy hgr1 hcells).trans (KeepsOthers.setCell _ _ _)).from _,?_,by simp [h0],?_,?_,⟨_,h3'.set _,?_,fun e=>by simp at e⟩,?_,?_⟩
   ·exact (Below.heap_setCell _ _ _ _ (by simp)).trans (hgr1.block _ (by omega) (hrow _ (by omega)))
   ·exact (h1.kept hgr1 (hrow _ (by omega))).other (by omega) _
   ·exact (h2.kept hgr1 (hrow _ (by omega))).other (by omega) _
   ·refine World.ownsRow.kept (by simpa using ho1) (grownBy_setCell' w1 _ _) (.inr ?_)
    simp only [Value.ownBlock,ne_eq,Option.some.injEq];omega
   ·exact (h5.grown hgr1 (by omega) (fun k hk=>by have := (h4.lt _ hk).1;omega)).setCell (p:=⟨w.heap.size + 1 + 1,0,none⟩) (by simp;omega) _
   ·simp;omega
 case done =>
  rintro D ys W hD rfl hI hK
  obtain ⟨h0,h1,h2,⟨v,h3,h4,hv0⟩,h5,h6⟩:=hI
  have c2:=h1.cell
  have f2:=h1.frozen
  have c3:=h2.cell
  have f3:=h2.frozen
  obtain ⟨va,vk,vc,rfl⟩ : ∃ a k c,v = .slice a k c:=by
   rcases h4.2 with ⟨rfl,_⟩ | ⟨g',cap',cur,rfl,_⟩ <;> exact ⟨_,_,_,rfl⟩
  have c4:=h3.cell
  by_cases hl : 255 < s.length
  ·have hl' : decide ((255 : Int) < (s.length : Int)) = true:=by simp;omega
   have hR : labels s = ([],3):=by unfold labels;rw [if_neg h0,if_pos hl]
   have HR:=Lib.hid hR
   clear hR
   gi_wp2
   refine ⟨by simp,.inl ⟨_,_,rfl,run_takeDeferred (((KeepsOthers.setCell _ _ _).trans (KeepsOthers.setCell _ _ _)).same D _ hK rfl),?_⟩⟩
   have r2:=zCl (Boxed.other (h1.set (.slice none 0 0)) (B':=w.heap.size + 1) (by omega) (.int .i64 3)) (D:=D) (by omega) (.deferred none)
   have r3:=zCl ((Boxed.other h2 (B':=w.heap.size) (by omega) (.slice none 0 0)).set (.int .i64 3)) (D:=D) (by omega) (.deferred none)
   refine ⟨.tuple #[.slice none 0 0,.int .i64 3],by simp [results,Try.results81,go_sem,r2.cell,r3.cell],_,by rw [HR.out],?_,?_,?_⟩
   ·exact ((h5.setCell (p:=⟨w.heap.size,0,none⟩) (Nat.le_refl _) _).setCell (p:=⟨w.heap.size + 1,0,none⟩) (by simp) _).grown (grownBy_putObj' _ D _) (by simp;omega) (fun k e=>by cases e;omega)
   ·rw [HR.out];exact World.ownsRow_nil _ _ _ _
   ·exact fun _=>rfl
  ·have hl' : decide ((255 : Int) < (s.length : Int)) = false:=by simp;omega
   have hR : labels s = ((nameSeq (s.length + 1) s).filterMap id,0):=by unfold labels;rw [if_neg h0,if_neg hl]
   have HR:=Lib.hid hR
   clear hR
   gi_wp2
   refine ⟨by simp,.inl ⟨_,_,rfl,run_takeDeferred (((KeepsOthers.setCell _ _ _).trans (KeepsOthers.setCell _ _ _)).same D _ hK rfl),?_⟩⟩
   have r2:=zCl (Boxed.other (h1.set (.slice va vk vc)) (B':=w.heap.size + 1) (by omega) (.int .i64 0)) (D:=D) (by omega) (.deferred none)
   have r3:=zCl ((Boxed.other h2 (B':=w.heap.size) (by omega) (.slice va vk vc)).set (.int .i64 0)) (D:=D) (by omega) (.deferred none)
   refine ⟨.tuple #[.slice va vk vc,.int .i64 0],by simp [results,Try.results81,go_sem,r2.cell,r3.cell],_,by rw [HR.out],?_,?_,?_⟩
   ·exact ((h5.setCell (p:=⟨w.heap.size,0,none⟩) (Nat.le_refl _) _).setCell (p:=⟨w.heap.size + 1,0,none⟩) (by simp) _).grown (grownBy_putObj' _ D _) (by simp;omega) (fun k e=>by cases e;omega)
   ·rw [HR.out]
    have hb : ∀ b,b < w.heap.size + 4 -> Value.ownBlock (.slice va vk vc) ≠ some b:=fun b hb e=>by have := (h4.lt _ e).1;omega
    refine ownsRow_putObj (zRj (World.ownsRow.kept (World.ownsRow.kept h4 (grownBy_setCell' _ _ _) (.inr (hb _ (by omega)))) (grownBy_setCell' _ _ _) (.inr (hb _ (by omega)))) (by omega)) _ (o:=.deferred (some [])) ?_ rfl
    exact (((KeepsOthers.setCell _ _ _).trans (KeepsOthers.setCell _ _ _)).same D _ hK rfl)
   ·rw [HR.out];exact hv0
 case stop =>
  rintro D c pre W hD ⟨r,hr,hne⟩ ⟨rfl,hm,h2,h3,h5,h6⟩ hK
  have c2:=h2.cell
  have c3:=h3.cell
  have hR : labels s = ([],4):=by unfold labels;rw [if_pos (by rw [hr];simp [hm])]
  have HR:=Lib.hid hR
  clear hR
  gi_wp2
  refine ⟨by simp,.inl ⟨_,_,rfl,run_takeDeferred hK,?_⟩⟩
  have r2:=zCl h2 (D:=D) (by omega) (.deferred none)
  have r3:=zCl h3 (D:=D) (by omega) (.deferred none)
  refine ⟨.tuple #[.slice none 0 0,.int .i64 4],by simp [results,Try.results81,go_sem,r2.cell,r3.cell],_,by rw [HR.out],?_,?_,?_⟩
  ·exact h5.grown (grownBy_putObj' _ D _) (by omega) (fun k e=>by cases e;omega)
  ·rw [HR.out];exact World.ownsRow_nil _ _ _ _
  ·exact fun _=>rfl
end
end
section
open Go.RowKit
theorem zPk (s : Bs) (w : World) (hs : s.length<=1000000000) :
  Calls Try.prog 66 #[str s] w fun e w'=>e = .returned (.int .i64 (labels s).2) /\ Below w.heap.size w w':=by
 go_enter Try.func66,Try.ntmps66
 go_wp2_with (go_at_call 81;refine (zXw s _ hs).mono ?_;rintro e w' ⟨v,rfl,hb,-⟩)
 go_ret
 exact ⟨rfl,hb⟩
def lo (c : UInt8) : UInt8:=if 65<=c.toNat /\ c.toNat<=90 then c + 32 else c
end
section
open Go.RowKit
attribute [local go_sem] wrap_bt ByteArray.extract_mk
end
section
open Go.RowKit
end
end Go.Proofs.Ytknpgjeclmadkaa
