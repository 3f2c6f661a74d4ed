/- DERIVED. Parts. -/
import Derived.BigQuiet
import Derived.Deep.LoopGhost
import Derived.Deep.QuietTactic
import Derived.Handy
import Derived.Lib.Hide
import Derived.WalkKit
import Derived.WalkLawsBesides
import Derived.WalkSpells
set_option maxRecDepth 1000000
set_option maxHeartbeats 32000000
namespace Go.Proofs.Ytknpgjeclmadkaa
open Go.RowKit
abbrev Bs:=List UInt8
def bt (l : Bs) (k : Nat) : Nat:=(l.getD k 0).toNat
theorem bt_lt (l : Bs) (k : Nat) : bt l k < 256:=UInt8.toNat_lt _
theorem idx_mk {P : Program} {w : World} (t : TypeId) (l : Bs) (k : IntKind) (i : Int) (h : P.underlying t = some .string) (h0 : 0<=i) (h1 : i < l.length) :
  (Instr.index t (.string ⟨l.toArray⟩) (.int k i)).run P w = .ok (.int .u8 (bt l i.toNat)) w:=by
 rw [run_index_string w t _ k i h,dif_pos ⟨h0,by simpa [ByteArray.size_mk'] using h1⟩]
 have : i.toNat < l.length:=by omega
 simp only [bt,List.getD_eq_getElem?_getD,List.getElem?_eq_getElem this,Option.getD_some]
 rfl
theorem slice_mk {P : Program} {w : World} (t : TypeId) (l : Bs) (k k' : IntKind) (i j : Int) (h : P.underlying t = some .string)
  (h0 : 0<=i) (h1 : i<=j) (h2 : j<=l.length) :
  (Instr.slice t (.string ⟨l.toArray⟩) (some (.int k i)) (some (.int k' j)) none).run P w = .ok (.string ⟨((l.drop i.toNat).take (j.toNat - i.toNat)).toArray⟩) w:=by
 rw [run_slice_string w t _ k k' i j h h0 h1 (by simpa [ByteArray.size_mk'] using h2),ByteArray.extract_mk]
theorem zPz {P : Program} {w : World} (t : TypeId) (l : Bs) (k : IntKind) (i : Int) (h : P.underlying t = some .string)
  (h0 : 0<=i) (h1 : i<=l.length) :
  (Instr.slice t (.string ⟨l.toArray⟩) (some (.int k i)) none none).run P w = .ok (.string ⟨(l.drop i.toNat).toArray⟩) w:=by
 rw [run_slice_string_from_if w t _ k i h,if_pos ⟨h0,by simpa [ByteArray.size_mk'] using h1⟩,ByteArray.extract_mk]
 congr 4
 rw [List.take_of_length_le (by simp [ByteArray.size_mk'])]
theorem wrap_bt (l : Bs) (k : Nat) : wrap64 (bt l k : Int) = (bt l k : Int):=by
 have := bt_lt l k
 exact IntWalk.wrap64_in _ (by omega)
abbrev str (l : Bs) : Value:=.string ⟨l.toArray⟩
structure RowT (P : Program) (t E : TypeId) (sz bytes : Nat) : Prop where
 und : P.underlying t = some (.slice E)
 ex : ∃ i z,P.info? E = some i /\ i.zero = some z /\ i.size = sz /\ i.bytes = bytes /\ z.cells.size = sz
 pos : 0 < sz
 small : bytes<=1024
theorem RowT.mk' {P : Program} {t E : TypeId} {sz bytes : Nat} {z : Value} (hu : P.underlying t = some (.slice E)) (h : (P.info? E).map (fun i=>(i.zero,i.size,i.bytes)) = some (some z,sz,bytes))
  (hz : z.cells.size = sz) (hp : 0 < sz) (hs : bytes<=1024) : RowT P t E sz bytes:=by
 refine ⟨hu,?_,hp,hs⟩
 cases hi : P.info? E with
 | none=>simp [hi] at h
 | some i =>
  simp only [hi,Option.map_some,Option.some.injEq,Prod.mk.injEq] at h
  exact ⟨i,z,rfl,h.1,h.2.1,h.2.2,hz⟩
def room : Nat:=100000000000
theorem addr_add0 (b j : Nat) : (⟨b,0,none⟩ : Addr).add j = ⟨b,j,none⟩:=by unfold Addr.add;split <;> simp_all
theorem zLz {P : Program} (w : World) (base : Nat) (t ty e : TypeId) (i : TypeInfo) (z : Value) (size bytes : Nat) (ht : P.underlying t = some (.slice e)) (hi : P.info? e = some i) (hz : i.zero = some z)
  (hsize : i.size = size) (hby : i.bytes = bytes) (hzs : z.cells.size = size) (hsz : 0 < size)
  (v : Value) (n : Nat) (xs : List Value) (hown : w.ownsRow base e size v n xs)
  (a : Addr) (m c : Nat) (news : List Value) (hl : news.length = m * size) (hnews : ∀ j u,news[j]? = some u -> w.cell? (a.add j) = some u) (h1 : ∀ u ∈ news,u.oneCell' = true)
  (h63 : n + m<=maxLen) (hbytes : (n + m) * bytes<=140737488355328) (hbase : base<=w.heap.size) :
  ∃ v' w',(Builtin.append_ #[t,t] ty #[v,.slice (some a) m c]).run P w = .ok v' w' /\ w'.ownsRow base e size v' (n + m) (xs++news) /\ w.grownBy w' v.ownBlock /\
   (v' = .slice none 0 0 ↔ v = .slice none 0 0 /\ m = 0) /\ (∀ g,v'.ownBlock = some g -> v.ownBlock = some g \/ g = w.heap.size):=by
 subst hsize
 subst hby
 have hsmall : n + m<=9223372036854775807:=by simp only [maxLen] at h63;omega
 have hlen : (xs++news).length = (n + m) * i.size:=by rw [List.length_append,hown.1,hl,Nat.add_mul]
 have grown : ∀ (old : Nat),old < n + m -> ∀ (row : Option Nat),
   (w.drew.alloc (.cells (xs.toArray++news.toArray++Builtin.zeroCells z.cells (grownCap w (n + m) old e - (n + m))) e)).ownsRow base e i.size
    (.slice (some ⟨w.heap.size,0,none⟩) (n + m) (grownCap w (n + m) old e)) (n + m) (xs++news) /\
   w.grownBy (w.drew.alloc (.cells (xs.toArray++news.toArray++Builtin.zeroCells z.cells (grownCap w (n + m) old e - (n + m))) e)) row:=by
  intro old ho row
  have hge:=grownCap_ge w (n + m) old e
  have hcm : grownCap w (n + m) old e<=maxLen:=grownCap_le_maxLen w (n + m) old e h63
  refine ⟨⟨hlen,.inr ⟨w.heap.size,_,_,rfl,hbase,heap_alloc_new w.drew _,hge,hcm,?_,?_⟩⟩,⟨rfl,rfl,rfl,by simp,fun k hk _=>Below.heap_alloc w.drew _ k hk⟩⟩
  ·simp only [Array.size_append,List.size_toArray,size_zeroCells,hzs,hown.1,hl,<- Nat.add_mul]
   congr 1
   omega
  ·simp only [Array.toList_append,List.append_assoc]
   rw [<- List.append_assoc,<- hlen]
   exact List.take_left
 rcases hown.2 with ⟨rfl,rfl⟩ | ⟨g,cap,cur,rfl,hbg,hg,hnc,hcm,hcs,htake⟩
 ·have hx : xs = []:=List.eq_nil_of_length_eq_zero (by simpa using hown.1)
  subst hx
  by_cases hm : m = 0
  ·subst hm
   have hn : news = []:=List.eq_nil_of_length_eq_zero (by simpa using hl)
   subst hn
   refine ⟨.slice none 0 0,w,?_,World.ownsRow_nil w base e i.size,⟨rfl,rfl,rfl,Nat.le_refl _,fun _ _ _=>rfl⟩,by simp,fun g hg=>.inl hg⟩
   simp [Builtin.append_,run_underlying ht,sizeOf,typeInfo,hi,Builtin.lenOf,Builtin.firstCells,loadCells,loadCellsFrom]
  ·have hr:=run_append_nil (P:=P) w t ty e i z ht hi hz a m c news hl hnews (by omega) (by omega) (by have hb:=hbytes;simp only [Nat.zero_add] at hb;omega)
   have hgr:=grown 0 (by omega) (Value.ownBlock (.slice none 0 0))
   simp only [Nat.zero_add,List.nil_append,Array.empty_append] at hgr ⊢
   exact ⟨_,_,hr,hgr.1,hgr.2,by simp [hm],fun g hg=>.inr (by simpa [Value.ownBlock] using hg.symm)⟩
 ·by_cases hroom : n + m<=cap
  ·have hfit : n * i.size + news.length<=cur.size:=by rw [hl,hcs,<- Nat.add_mul];exact Nat.mul_le_mul_right _ hroom
   have hr:=run_append_room (P:=P) w t ty e i ht hi g n cap cur hg a m c news hl hnews h1 hroom hfit
   refine ⟨_,_,hr,⟨hlen,.inr ⟨g,cap,_,rfl,hbg,setRow_heap w g cur _ e _ hg,hroom,hcm,?_,?_⟩⟩,⟨rfl,rfl,rfl,by simp,fun k _ hk=>setRow_other w g k _ (fun e=>hk (by simp [Value.ownBlock,e]))⟩,by simp,fun g' hg'=>.inl hg'⟩
   ·simp only [List.size_toArray,List.length_append,List.length_take,List.length_drop,Array.length_toList]
    omega
   ·rw [htake,<- hlen]
    exact List.take_left
  ·have holds : ∀ j u,xs[j]? = some u -> w.cell? ((⟨g,0,none⟩ : Addr).add j) = some u:=hown.cells (g:=g) rfl
   have hr:=run_append_grow (P:=P) w t ty e i z ht hi hz ⟨g,0,none⟩ n cap xs hown.1 holds a m c news hl hnews (by omega) (by omega) (growslice_fits (by omega) hbytes)
   have hgr:=grown cap (by omega) (Value.ownBlock (.slice (some ⟨g,0,none⟩) n cap))
   exact ⟨_,_,hr,hgr.1,hgr.2,by simp,fun g' hg'=>.inr (by simpa [Value.ownBlock] using hg'.symm)⟩
theorem zUg {P : Program} {t E : TypeId} {sz bytes : Nat} (T : RowT P t E sz bytes) (ty : TypeId)
  {B : Nat} {W w : World} {v : Value} {n : Nat} {xs : List Value} (hown : w.ownsRow B E sz v n xs) (hW : Below B W w) (news : List Value)
  (hl : news.length = sz) (h1 : news.all (·.oneCell') = true) (hn : n < room) (hbase : B<=w.heap.size) :
  ∃ g cap w',(Builtin.append_ #[t,t] ty #[v,.slice (some ⟨w.heap.size,0,none⟩) 1 1]).run P (w.alloc (.cells news.toArray E (0,0))) = .ok (.slice (some ⟨g,0,none⟩) (n + 1) cap) w' /\
   B<=g /\ w'.ownsRow B E sz (.slice (some ⟨g,0,none⟩) (n + 1) cap) (n + 1) (xs++news) /\ Below B W w' /\ w.heap.size<=w'.heap.size /\ w.grownBy w' v.ownBlock /\ (v.ownBlock = some g \/ w.heap.size<=g):=by
 obtain ⟨i,z,hi,hz,hsz,hby,hzs⟩:=T.ex
 have hgr:=World.grownBy_alloc w (.cells news.toArray E (0,0)) none
 have hc : ∀ j u,news[j]? = some u -> (w.alloc (.cells news.toArray E (0,0))).cell? ((⟨w.heap.size,0,none⟩ : Addr).add j) = some u:=by
  intro j u hj
  rw [addr_add0]
  exact (World.cell?_alloc_mark w news.toArray E (0,0) j).trans (by simpa using hj)
 have hb : (n + 1) * bytes<=140737488355328:=by
  have := T.small
  have h2 : (n + 1) * bytes<=(n + 1) * 1024:=Nat.mul_le_mul_left _ this
  unfold room at hn;omega
 obtain ⟨v',w',hr,ho',hg',hnil,hblk⟩:=zLz (P:=P) (w.alloc (.cells news.toArray E (0,0))) B t ty E i z sz bytes T.und hi hz hsz hby hzs T.pos v n xs (hown.alloc _) ⟨w.heap.size,0,none⟩ 1 1 news (by omega) hc
  (fun u hu=>List.all_eq_true.1 h1 u hu) (by unfold room at hn;unfold maxLen;omega) hb (by simp;omega)
 obtain ⟨g,cap,rfl⟩ : ∃ g cap,v' = .slice (some ⟨g,0,none⟩) (n + 1) cap:=by
  rcases ho'.2 with ⟨_,h0⟩ | ⟨g,cap,cur,rfl,_⟩
  ·omega
  ·exact ⟨g,cap,rfl⟩
 refine ⟨g,cap,w',hr,(ho'.lt g rfl).1,ho',?_,?_,?_,?_⟩
 ·exact (hW.alloc hbase _).grown hg' (by simp;omega) (fun k hk=>(hown.lt k hk).1)
 ·have := hg'.size;simp at this;omega
 ·refine ⟨hg'.os.trans hgr.os,hg'.tape.trans hgr.tape,hg'.output.trans hgr.output,Nat.le_trans hgr.size hg'.size,fun k hk hne=>?_⟩
  rw [hg'.block k (by have := hgr.size;omega) hne]
  exact hgr.block k hk (by simp)
 ·rcases hblk g rfl with h | h
  ·exact .inl h
  ·exact .inr (by rw [h];simp)
theorem zBh (b o j : Nat) : (⟨b,o,none⟩ : Addr).add j = ⟨b,o + j,none⟩:=by unfold Addr.add;split <;> simp_all
def Halt_ (p : Prop) : Prop:=p
theorem halt {p : Prop} (h : Halt_ p) : p:=h
theorem unhalt {p : Prop} (h : p) : Halt_ p:=h
end Go.Proofs.Ytknpgjeclmadkaa
