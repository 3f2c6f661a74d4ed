/- DERIVED. Parts. -/
import Derived.Deep.Slices
import Derived.HandedShaped
import Derived.Test.YtknpgjeclmadkaaZ14
import Derived.Test.YtknpgjeclmadkaaZ15
import Derived.Test.YtknpgjeclmadkaaZ18
set_option maxRecDepth 1000000
set_option maxHeartbeats 32000000
namespace Go.Proofs.Ytknpgjeclmadkaa
section
open Go Go.Joins Go.ChangeShapes Go.WideShapes Go.RowKit Go.Deep
def WinAt (w : World) (b off : Nat) (c : List Value) : Prop:=∀ j v,c[j]? = some v -> w.cell? ⟨b,off + j,none⟩ = some v
structure Win where
 b : Nat
 off : Nat
 c : List Value
 z : Nat
instance : Inhabited Win:=⟨⟨0,0,[],0⟩⟩
def Env.wins (ws : List Win) : Env:=⟨fun k=>k < ws.length,fun k=>(ws.getD k default).b,fun _=>0,fun k=>(ws.getD k default).z,fun k=>(ws.getD k default).off,fun k=>k < ws.length,fun _=>none⟩
def zFa : Nat -> List Win -> List (Nat × AObj)
 | _,[]=>[]
 | k,x :: l=>(k,.win x.c x.z) :: zFa (k + 1) l
theorem zDf : ∀ (ws : List Win) (k : Nat) (p : Nat × AObj),p ∈ zFa k ws -> ∃ x,k<=p.1 /\ ws[p.1 - k]? = some x /\ p.2 = .win x.c x.z
 | x :: l,k,p,h=>by
  rcases aK.1 h with e | e
  ·subst e;exact ⟨x,aJ _,by simp,rfl⟩
  obtain ⟨y,h1,h2,h3⟩:=zDf l (k + 1) p e
  exact ⟨y,by omega,by rw [show p.1 - k = (p.1 - (k + 1)) + 1 by omega];simpa using h2,h3⟩
theorem zKe {d : Nat} {bs : List (Nat × AObj)} {k : Nat} {o : AObj} (h : (heap d bs).get k = some o) : (k,o) ∈ bs:=by
 unfold heap at h
 rw [zDo] at h
 split at h
 ·rw [aS,Nat.one_mul] at h
  rcases zEr k none bs with ⟨v,h1,h2⟩ | h2
  ·rw [h2] at h;cases h;exact h1
  rw [h2] at h;cases h
 cases h
def Win.ok (w : World) (x : Win) : Prop:=x.b < w.heap.size /\ WinAt w x.b x.off x.c /\ plainL x.c = true
theorem hr_wins {P : Program} {w : World} {ws : List Win} {d : Nat} (hw : ∀ x ∈ ws,x.ok w) (hpos : 0 < w.heap.size) : HR P (Env.wins ws) (heap d (zFa 0 ws)).get w:=by
 have gd : ∀ k x,ws[k]? = some x -> ws.getD k default = x:=fun k x h=>by rw [List.getD_eq_getElem?_getD,h];rfl
 refine ⟨fun k hk=>?_,fun k hk=>?_,fun k o ho=>?_,fun i j hi hj hro _=>?_,fun k o ho _=>?_,(fun _ _ h=>by cases h),(fun _ _ _=>rfl),hpos⟩
 ·have hk : k < ws.length:=hk
  show (ws.getD k default).b < _
  rw [gd k _ (gG hk)]
  exact (hw _ (aV hk)).1
 ·cases hg : (heap d (zFa 0 ws)).get k with
  | none=>rfl
  | some o =>
   obtain ⟨x,_,h2,_⟩:=zDf ws 0 _ (zKe hg)
   exact ab (gS.1 h2).1 (fun h=>hk h)
 ·obtain ⟨x,_,h2,h3⟩:=zDf ws 0 _ (zKe ho)
  simp only [Nat.sub_zero] at h2 h3
  subst h3
  have e:=gd k x h2
  obtain ⟨_,h4,h5⟩:=hw x (List.mem_of_getElem? h2)
  refine ⟨by show (ws.getD k default).z = _;rw [e],x.c,rfl,zBu h5,fun j v hj=>?_⟩
  show w.cell? ⟨(ws.getD k default).b,(ws.getD k default).off + j,none⟩ = _
  rw [e];exact h4 j v hj
 ·have live : ∀ i,(heap d (zFa 0 ws)).get i ≠ none -> i < ws.length:=fun i hi=>by
   cases hg : (heap d (zFa 0 ws)).get i with
   | none=>exact ab hg hi
   | some o =>
    obtain ⟨x,_,h2,_⟩:=zDf ws 0 _ (zKe hg)
    exact (gS.1 h2).1
  rcases hro with h | h
  ·exact ab (live i hi) h
  exact ab (live j hj) h
 obtain ⟨x,_,_,h3⟩:=zDf ws 0 _ (zKe ho)
 have h3 : o = .win x.c x.z:=h3
 subst h3;trivial
section
variable {H : Type} {enc : TypeId × Value -> H} {P : Program} {w : World} {base : Nat} {spare : Nat -> Bool} {held : Bool}
theorem zXn {r : Reach} {b0 : Nat} {t e : TypeId} {a : Addr} {len cap : Nat} (ht : P.underlying t = some (.slice e)) (h : Cell.okWide P w r b0 t (.slice (some a) len cap)) : a.spot = none /\ a.block < w.heap.size:=by
 simp only [Cell.okWide,ht,Cell.ok] at h
 obtain ⟨_,h1,row,cells,h2,_⟩:=h.2.2
 refine ⟨h1,?_⟩
 unfold World.shape? at h2
 rcases Nat.lt_or_ge a.block w.heap.size with hl | hl
 ·exact hl
 rw [Array.getElem?_eq_none hl] at h2;cases h2
theorem open_lay {α : Type} (L : Lay α) {r : Reach} {b0 : Nat} {t e : TypeId} {v : Value} {fuel : Nat} {x : DataW H × List MemPlace} (ht : P.underlying t = some (.slice e)) (hC : P.cellsOf e = L.k)
  (hopen : ∀ n cs y,DataW.trod enc P w base spare held n e cs = some y -> ∃ x,cs = L.g x) (hv : Cell.okWide P w r b0 t v) (h : DataW.trod enc P w base spare held fuel t [v] = some x) (hpos : 0 < w.heap.size) :
  ∃ (l : List α) (c b off : Nat),b < w.heap.size /\ WinAt w b off (l.flatMap L.g) /\ l.length<=c /\ c<=maxLen /\ ∀ (E : Env) (k : Nat),E.dom k -> E.ρ k = b -> E.sh k = off -> VR E (.slice (some ⟨k,0,none⟩) l.length c) v:=by
 rcases open_slice ht h with ⟨h0,_⟩ | ⟨a,len,cap,m,n,D,Pl,hcs,hb,hl,hm,hmm,hx,hi⟩
 ·simp only [aQ,and_true] at h0
  subst h0
  exact ⟨[],0,0,0,hpos,fun j v hj=>by simp at hj,aJ _,aH _,fun E k hd _ _=>.se k 0 0 none hd (fun _=>rfl) (.inr rfl)⟩
 simp only [aQ,and_true] at hcs
 subst hcs
 obtain ⟨hs,hbl⟩:=zXn ht hv
 obtain ⟨ab,ao,asp⟩:=a
 simp only at hs hbl hb
 subst hs
 have hlm : len<=m:=by rw [hmm];split <;> omega
 have hel : ∀ i,i < len -> ∃ y : α,∀ j v,(L.g y)[j]? = some v -> w.cell? ⟨ab,ao + i * L.k + j,none⟩ = some v:=fun i hi'=>by
  obtain ⟨cs',h1,h2⟩:=hi i (by omega)
  obtain ⟨y,rfl⟩:=hopen _ _ _ h2
  obtain ⟨_,hcl,hat⟩:=World.cells?_some h1
  refine ⟨y,fun j v hj=>?_⟩
  have hjl : j < L.k:=by have := (gS.1 hj).1;rw [L.len] at this;exact this
  have := hat j (by rw [hC];exact hjl)
  rw [hj] at this
  rw [<- this,hC]
  congr 1
  rw [zBh,zBh]
 have build : ∀ n,n<=len -> ∃ l : List α,l.length = n /\ ∀ i (hi : i < l.length) j v,(L.g l[i])[j]? = some v -> w.cell? ⟨ab,ao + i * L.k + j,none⟩ = some v:=by
  intro n
  induction n with
  | zero=>intro _;exact ⟨[],rfl,fun i hi=>by simp at hi⟩
  | succ n ih =>
   intro hn
   obtain ⟨l,hll,h1⟩:=ih (by omega)
   obtain ⟨y,hy⟩:=hel n (by omega)
   refine ⟨l++[y],by simp [hll],fun i hi' j v hj=>?_⟩
   by_cases hin : i < l.length
   ·rw [List.getElem_append_left hin] at hj;exact h1 i hin j v hj
   have hin : i = n:=by simp at hi';omega
   subst hin
   rw [List.getElem_append_right (by omega)] at hj
   simp at hj
   exact hy j v hj
 obtain ⟨l,hll,h1⟩:=build len (aJ _)
 have hcap : cap ≠ U:=by
  have : maxLen = 9223372036854775807:=by decide
  have : U = 1180591620717411303424:=rfl
  omega
 refine ⟨l,cap,ab,ao,hbl,fun j v hj=>?_,by omega,hm,fun E k hd h2 h3=>?_⟩
 ·have hpos':=L.pos
  have hjl : j < l.length * L.k:=by have := (gS.1 hj).1;rw [zAf L.g L.k L.len] at this;exact this
  have hi' : j / L.k < l.length:=Nat.div_lt_of_lt_mul (by rw [Nat.mul_comm];exact hjl)
  have hr : j % L.k < L.k:=Nat.mod_lt _ hpos'
  have hj2 : j = j / L.k * L.k + j % L.k:=by have := Nat.div_add_mod j L.k;rw [Nat.mul_comm] at this;exact this.symm
  obtain ⟨q1,q2⟩:=zHd L.g L.k L.len l (j / L.k) hi'
  have : (L.g l[j / L.k])[j % L.k]? = some v:=by
   rw [<- q2,List.getElem?_take_of_lt hr,List.getElem?_drop,<- hj2];exact hj
  have := h1 _ hi' _ v this
  rw [Nat.add_assoc,<- hj2] at this
  exact this
 rw [hll]
 have := VR.sl (E:=E) k 0 len cap hd hcap
 rw [h2,h3] at this
 exact this
end
section
variable {H : Type} {enc : TypeId × Value -> H} {P : Program} {w : World} {base : Nat} {spare : Nat -> Bool} {held : Bool}
end
theorem pos_of_shaped {P : Program} {W : World} (h : W.ShapedOpen P) (hk : Nat.blt P.globals.size (begin P (fun _ _=>0) default).world.heap.size = true) : 0 < W.heap.size:=by
 obtain ⟨o,_,h1,_⟩:=h.2 P.globals.size (aJ _) (aE hk)
 have := (gA.1 h1).1
 omega
end
section
open Go Go.Joins Go.ChangeShapes Go.WideShapes Go.RowKit Go.Deep
def flatOK (P : Program) : Nat -> TypeId -> List TypeId -> Bool
 | 0,_,_=>false
 | n + 1,t,ts=>match P.underlying t with
  | some (.struct fs)=>Nat.beq ts.length (P.cellsOf t)&&(fs.toList.all fun f=>flatOK P n f.type ((ts.drop f.offset).take (P.cellsOf f.type)))&&((List.range ts.length).all fun i=>fs.toList.any fun f=>Nat.ble f.offset i&&Nat.blt i (f.offset + P.cellsOf f.type))
  | _=>match ts with
   | [u]=>Nat.beq u t
   | _=>false
section
variable {H : Type} {enc : TypeId × Value -> H} {P : Program} {w : World} {base : Nat} {spare : Nat -> Bool} {held : Bool}
theorem zHw : ∀ (n : Nat) (t : TypeId) (ts : List TypeId) (m : Nat) (cs : List Value) (x : DataW H × List MemPlace),flatOK P n t ts = true -> DataW.trod enc P w base spare held m t cs = some x -> cs.length = ts.length -> ∀ (i : Nat) (u : TypeId) (v : Value),ts[i]? = some u -> cs[i]? = some v -> ∃ k y,DataW.trod enc P w base spare held k u [v] = some y
 | 0,_,_,_,_,_,h,_,_,_,_,_,_,_=>by cases h
 | n + 1,t,ts,m,cs,x,h,hx,hlen,i,u,v,hu,hv=>by
  unfold flatOK at h
  split at h
  ·rename_i fs hs
   simp only [bA] at h
   obtain ⟨⟨h1,h2⟩,h3⟩:=h
   obtain ⟨xs,n',_,_,hl,hxl,hf⟩:=DataW.trod_struct hs hx
   have hi : i < ts.length:=(gS.1 hu).1
   have h3:=aG.1 h3 i (List.mem_range.2 hi)
   obtain ⟨f,hfm,h4⟩:=List.any_eq_true.1 h3
   simp only [bA] at h4
   have ha:=aE h4.1
   have hb : i < f.offset + P.cellsOf f.type:=aE h4.2
   obtain ⟨j,hj⟩:=List.getElem?_of_mem hfm
   have hj' : fs[j]? = some f:=by rw [<- Array.getElem?_toList];exact hj
   have hjl : j < xs.length:=by rw [hxl];exact (gA.1 hj').1
   have hg:=hf j f hj'
   rw [gG hjl] at hg
   have hk:=aG.1 h2 f hfm
   refine zHw n f.type _ n' _ _ hk hg ?_ (i - f.offset) u v ?_ ?_
   ·simp only [aU,aM,hlen]
   ·rw [List.getElem?_take_of_lt (by omega),List.getElem?_drop,show f.offset + (i - f.offset) = i by omega];exact hu
   rw [List.getElem?_take_of_lt (by omega),List.getElem?_drop,show f.offset + (i - f.offset) = i by omega];exact hv
  split at h
  ·rename_i u'
   have := aA h
   subst this
   have hc : cs.length = 1:=hlen
   match cs,hc with
   | [c],_ =>
    cases i with
    | zero =>
     simp only [List.getElem?_cons_zero,aP] at hu hv
     subst hu;subst hv
     exact ⟨m,x,hx⟩
    | succ i=>simp at hu
  cases h
structure WinL (α : Type) where
 l : List α
 c : Nat
 b : Nat
 off : Nat
def WinL.good {α : Type} (L : Lay α) (w : World) (x : WinL α) : Prop:=x.b < w.heap.size /\ WinAt w x.b x.off (x.l.flatMap L.g) /\ x.l.length<=x.c /\ x.c<=maxLen
def WinL.rd {α : Type} (x : WinL α) (k : Nat) : RdL α:=⟨k,x.c,[],x.l,[]⟩
def WinL.sl {α : Type} (x : WinL α) (k : Nat) : Value:=(x.rd k).sl
theorem open_winl {α : Type} (L : Lay α) {r : Reach} {b0 : Nat} {t e : TypeId} {v : Value} {fuel : Nat} {x : DataW H × List MemPlace} (ht : P.underlying t = some (.slice e)) (hC : P.cellsOf e = L.k)
  (hopen : ∀ n cs y,DataW.trod enc P w base spare held n e cs = some y -> ∃ x,cs = L.g x) (hv : Cell.okWide P w r b0 t v) (h : DataW.trod enc P w base spare held fuel t [v] = some x) (hpos : 0 < w.heap.size) :
  ∃ y : WinL α,y.good L w /\ ∀ (E : Env) (k : Nat),E.dom k -> E.ρ k = y.b -> E.sh k = y.off -> VR E (y.sl k) v:=by
 obtain ⟨l,c,b,off,h1,h2,h3,h4,h5⟩:=open_lay L ht hC hopen hv h hpos
 exact ⟨⟨l,c,b,off⟩,⟨h1,h2,h3,h4⟩,h5⟩
end
end
section
open Go Go.RowKit
def layBy : Lay UInt8:=⟨fun b=>[byV b],1,5,fun _=>rfl,by decide,fun _=>rfl,fun x y h=>by
 simp only [byV,aQ,Value.int.injEq,true_and,and_true] at h
 exact UInt8.toNat_inj.1 (Int.ofNat.inj h)⟩
abbrev trB (l : Bl) : Value:=treeV 1 l.length (l.flatMap layBy.g)
theorem zNm (l : Bl) : l.flatMap layBy.g = l.map byV:=by
 induction l with
 | nil=>rfl
 | cons x l ih=>rw [List.flatMap_cons,ih];rfl
theorem zRn : ∀ {E : Env} {l l' : List Value},plainL l = true -> VL E l l' -> l' = l
 | _,[],_,_,h=>by cases h;rfl
 | _,v :: l,_,hp,h=>by
  cases h with
  | cons _ v' _ l' h1 h2 =>
   have hp : plainV 8 v = true /\ plainL l = true:=by rw [plainL,List.all_cons,bA] at hp;exact hp
   rw [zBj _ hp.1 h1,zRn hp.2 h2]
theorem zJn {P : Program} {f : FuncId} {l : Bl} {xs : List Value} {v : Value} (hn : l ≠ []) (hxs : plainL xs = true) (hv : plainV 8 v = true)
  (hF : ∀ c,l.length<=c -> c<=maxLen -> ∃ H' m wr,FnS P 0 f (.slice (some ⟨0,0,none⟩) l.length c :: xs) (heap 1 [(0,.win (l.map byV) 1)]) 1 (.ret v H' m wr) /\ ∀ k ∈ wr,1<=k) (H : Tr AObj) (n : Nat) : CallOK P 0 f (trB l :: xs) H n (.ret v H n []):=by
 refine ⟨Grw.refl _ _ _,fun E w args' hgl hva hE hl hf=>?_⟩
 obtain ⟨x0,xs',hargs,hva1,hva2⟩ : ∃ x0 xs',args'.toList = x0 :: xs' /\ VR E (trB l) x0 /\ VL E xs xs':=by
  cases ha : args'.toList with
  | nil=>rw [ha] at hva;cases hva
  | cons a ys=>rw [ha] at hva;cases hva with | cons _ _ _ _ h1 h2=>exact ⟨a,ys,rfl,h1,h2⟩
 have exs:=zRn hxs hva2
 subst exs
 obtain ⟨b,o,k,a',x,rfl,hlen,hnk,hkm,ha,h1,h2⟩:=hva1.tree_inv
 have hfl : (l.flatMap layBy.g).toArray.toList = l.map byV:=zNm l
 have h1 : ∀ j,j < (l.map byV).length -> fzc E.fz b (o + j) = some (x j):=fun j hj=>h1 j (by rw [hfl];exact hj)
 have h2 : ∀ (j : Nat) (v : Value),(l.map byV)[j]? = some v -> DV E.fz v (x j):=fun j v hj=>h2 j v (by rw [hfl];exact hj)
 obtain ⟨H',m,wr,hF,hwr⟩:=hF k hnk hkm
 have hmx : maxLen = 9223372036854775807:=by decide
 obtain ⟨W,hW,hWc,hWz,hv0⟩ : ∃ W : Win,W.ok w /\ W.c = l.map byV /\ W.z = 1 /\ VR (Env.wins [W]) (.slice (some ⟨0,0,none⟩) l.length k) (.slice a' l.length k):=by
  have hl0 : 0 < l.length:=List.length_pos_iff.2 hn
  rcases ha with rfl | ⟨h0,_⟩
  ·refine ⟨⟨b,o,l.map byV,1⟩,⟨?_,fun j v hj=>?_,zAc l⟩,rfl,rfl,?_⟩
   ·have := h1 0 (by rw [aT];exact hl0)
    unfold fzc at this
    cases hb : E.fz b with
    | none=>rw [hb] at this;cases this
    | some ob=>exact (gA.1 (hE.fz b ob hb)).1
   ·have hjl : j < (l.map byV).length:=(gS.1 hj).1
    have e:=hE.fzc (h1 j hjl)
    have hp : plainV 8 v = true:=by
     obtain ⟨u,_,rfl⟩:=List.mem_map.1 (List.mem_of_getElem? hj);rfl
    rw [e,zBj 8 hp (h2 j v hj).vr]
   exact .sl 0 0 l.length k (by show 0 < 1;decide) (by unfold U;omega)
  exact ab h0 (by omega)
 have hok : ∀ y ∈ [W],y.ok w:=fun y hy=>by simp only [aK,List.not_mem_nil,or_false] at hy;subst hy;exact hW
 have h0 : HR P (Env.wins [W]) (heap 1 [(0,.win (l.map byV) 1)]).get w:=by
  have := hr_wins (P:=P) (d:=1) hok hE.pos
  have e : zFa 0 [W] = [(0,.win (l.map byV) 1)]:=by show [((0 : Nat),AObj.win W.c W.z)] = _;rw [hWc,hWz]
  rw [e] at this;exact this
 have hva0 : VL (Env.wins [W]) (.slice (some ⟨0,0,none⟩) l.length k :: xs') args'.toList:=by
  rw [hargs];exact .cons _ _ _ _ hv0 (zBu hxs)
 refine (hF (Env.wins [W]) w args' (fun g h=>by omega) hva0 h0 (fun j hj=>?_) (fun j hd=>.inl hd)).mono fun e w' he=>?_
 ·cases hg : (heap 1 [(0,AObj.win (l.map byV) 1)]).get j with
  | none=>rfl
  | some ob=>have := h0.live (id:=j) (by rw [hg];simp);have this : j < 1:=this;omega
 obtain ⟨E',y,rfl,g1,g2,g3⟩:=he
 have hblk : ∀ b,b < w.heap.size -> w'.heap[b]? = w.heap[b]?:=fun b hb=>g3.block b hb fun i hi _=>by
  have hlt : i < 1:=hi.1
  have := hwr i (hi.2.2 hlt).1
  omega
 have ey:=zBj 8 hv g1
 subst ey
 have gv : VR E y y:=by have := zBu (E:=E) (l:=[y]) (by rw [plainL,List.all_cons];rw [hv];rfl);cases this;assumption
 have hlt : ∀ b ob,E.fz b = some ob -> b < w.heap.size:=fun b ob hb=>(gA.1 (hE.fz b ob hb)).1
 refine ⟨E,_,rfl,gv,.refl E,fun _=>⟨.inl,fun h=>h.resolve_right (by omega)⟩,⟨fun id hd=>bB (hE.lt id hd) g3.size,hE.dom,fun id ob ho=>?_,hE.inj,hE.ro,fun b ob hb=>(hblk b (hlt b ob hb)).trans (hE.fz b ob hb),hE.fn,bB hE.pos g3.size⟩,⟨.refl E,g3.os,g3.tp,g3.output,g3.size,fun b hb _=>hblk b hb,fun id h1 h2=>ab h2 h1,fun b ob hb=>.inl hb⟩⟩
 have hd:=hE.live (id:=id) (by rw [ho];simp)
 exact (hE.obj id ob ho).mono (.refl E) hd (hblk _ (hE.lt id hd))
end
end Go.Proofs.Ytknpgjeclmadkaa
