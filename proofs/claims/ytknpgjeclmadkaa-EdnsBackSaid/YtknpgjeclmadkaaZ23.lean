/- DERIVED. Parts. -/
import Derived.Test.YtknpgjeclmadkaaZ17
import Derived.Test.YtknpgjeclmadkaaZ21
import Derived.Test.YtknpgjeclmadkaaZ22
set_option maxRecDepth 1000000
set_option maxHeartbeats 32000000
namespace Go.Proofs.Ytknpgjeclmadkaa
open Go Go.RowKit
theorem zTd {l : List OpX} {k : Nat} (h : k < l.length) : dataO l = dataO (l.take k)++(optB l[k]++dataO (l.drop (k + 1))):=by
 have e : l = l.take k++(l[k] :: l.drop (k + 1)):=by rw [<- bD h,List.take_append_drop]
 conv=>lhs;rw [e]
 unfold dataO
 rw [List.flatMap_append,List.flatMap_cons]
theorem zWi {l : List OpX} (hC : ∀ o ∈ l,0<=o.c /\ o.c<=65535) (hS : sumO l<=65535) : ∀ k,k<=l.length -> opInv (dataO l) ((dataO (l.take k)).length,l.take k)
 | 0,_=>by rw [List.take_zero];exact opInv.start _
 | k + 1,hk=>by
  have h : k < l.length:=hk
  have ih:=zWi hC hS k (by omega)
  obtain ⟨i,hi⟩ : ∃ i,i = (dataO (l.take k)).length:=⟨_,rfl⟩
  obtain ⟨o,ho⟩ : ∃ o,o = l[k]:=⟨_,rfl⟩
  obtain ⟨R,hR⟩ : ∃ R,R = dataO (l.drop (k + 1)):=⟨_,rfl⟩
  have hs:=zTd h
  rw [<- ho,<- hR] at hs
  have hom : o ∈ l:=ho ▸ aV h
  have hc:=hC o hom
  have hz : 4 + o.d.size<=65535:=aW (zKp hom) hS
  have hd : (dataO l).drop i = optB o++R:=by rw [hs,hi];exact List.drop_left
  have hd2 : (dataO l).drop (i + 2) = by2 o.d.size++(o.d.data.toList++R):=by
   have : (dataO l).drop (i + 2) = ((dataO l).drop i).drop 2:=by rw [List.drop_drop]
   rw [this,hd]
   unfold optB
   rw [aN,aN];rfl
  have hd4 : (dataO l).drop (i + 4) = o.d.data.toList++R:=by
   have : (dataO l).drop (i + 4) = ((dataO l).drop (i + 2)).drop 2:=by rw [List.drop_drop]
   rw [this,hd2];rfl
  have hsz : opSz (dataO l) i = o.d.size:=by
   unfold opSz
   rw [hd2]
   exact zFg (by omega)
  have hlen : (dataO l).length = i + (4 + o.d.size + R.length):=by rw [hs,aB,aB,zPn,hi]
  have hat : opAt (dataO l) i = o:=by
   have e1 : ((beN (((dataO l).drop i).take 2) : Nat) : Int) = o.c:=by
    rw [hd]
    have : (optB o++R).take 2 = by2 o.c.toNat:=by unfold optB;rw [aN];rfl
    rw [this,zFg (by omega)];omega
   have e2 : (⟨(((dataO l).drop (i + 4)).take (opSz (dataO l) i)).toArray⟩ : ByteArray) = o.d:=by
    rw [hd4,hsz,List.take_left' (show o.d.data.toList.length = o.d.size from Array.length_toList ..)]
   unfold opAt
   rw [e1,e2]
  rw [<- hi] at ih
  have st:=ih.step (by rw [hlen];omega) (by rw [hlen];omega) (by rw [hlen,hsz];omega)
  rw [hat,hsz] at st
  rw [zNd h,<- ho,aB,zPn,<- hi,List.take_succ_eq_append_getElem h,<- ho,show i + (4 + o.d.size) = i + 4 + o.d.size by omega]
  exact st
theorem opt_all {l : List OpX} (hC : ∀ o ∈ l,0<=o.c /\ o.c<=65535) (hS : sumO l<=65535) : optL (dataO l) = some l:=by
 have := zWi hC hS l.length (aJ _)
 rw [List.take_length] at this
 exact this.done (Nat.lt_irrefl _)
theorem ttl_nat {e : EdX} {x y : Nat} (hx : e.ext = (x : Int)) (hy : e.ver = (y : Int)) (h1 : x<=127) (h2 : y<=255) : ttlE e = ((2 ^ 24 * x + 2 ^ 16 * y + (if e.dob then 32768 else 0) : Nat) : Int):=by
 rw [ttl_eq ⟨⟨by omega,by omega⟩,by omega,by omega⟩,hx,hy,shl24 h1,shl16 h2]
 cases e.dob with
 | true =>
  simp only [if_true]
  rw [wrapN (x:=((2 ^ 24 * x : Nat) : Int) + ((2 ^ 16 * y : Nat) : Int)) (by omega) (by omega),wrapN (by omega) (by omega)];omega
 | false =>
  simp only [Bool.false_eq_true,if_false]
  rw [wrapN (by omega) (by omega)];omega
theorem ttl_back {e : EdX} {x y : Nat} (hx : e.ext = (x : Int)) (hy : e.ver = (y : Int)) (h1 : x<=127) (h2 : y<=255) : (0<=ttlE e /\ ttlE e<=2147483647) /\ shrI .i64 (ttlE e) 24 = e.ext /\ bitsI .and .i64 (shrI .i64 (ttlE e) 16) 255 = e.ver /\ (bitsI .and .i64 (ttlE e) 32768 != 0) = e.dob:=by
 have ht:=ttl_nat hx hy h1 h2
 have hr : 0<=ttlE e /\ ttlE e<=2147483647:=by rw [ht];cases e.dob <;> simp <;> omega
 have shr : ∀ (n k : Nat),((n : Nat) : Int).fdiv ((k : Nat) : Int) = ((n / k : Nat) : Int):=fun n k=>by rw [Int.ofNat_fdiv]
 refine ⟨hr,?_,?_,?_⟩
 ·rw [ht]
  show ((_ : Nat) : Int).fdiv ((16777216 : Nat) : Int) = _
  rw [shr,hx]
  congr 1
  cases e.dob <;> simp <;> omega
 ·have e1 : shrI .i64 (ttlE e) 16 = ((256 * x + y : Nat) : Int):=by
   rw [ht]
   show ((_ : Nat) : Int).fdiv ((65536 : Nat) : Int) = _
   rw [shr]
   congr 1
   cases e.dob <;> simp <;> omega
  have e2 : bitsI .and .i64 ((256 * x + y : Nat) : Int) 255 = IntKind.i64.wrap (b64 ((256 * x + y : Nat) : Int) &&& b64 255).toNat:=rfl
  rw [e1,e2,BitVec.toNat_and,zOf (by omega),show b64 255 = 255#64 by decide,show (255#64).toNat = 2 ^ 8 - 1 from rfl,Nat.and_two_pow_sub_one_eq_mod,wrapN (by omega) (by omega),hy]
  congr 1
  omega
 rw [<- do_bit hr.1 hr.2]
 have e1 : shrI .i64 (ttlE e) 15 = ((512 * x + 2 * y + (if e.dob then 1 else 0) : Nat) : Int):=by
  rw [ht]
  show ((_ : Nat) : Int).fdiv ((32768 : Nat) : Int) = _
  rw [shr]
  congr 1
  cases e.dob <;> simp <;> omega
 rw [e1]
 have e2 : (((512 * x + 2 * y + (if e.dob then 1 else 0) : Nat) : Int).tmod 2) = (((512 * x + 2 * y + (if e.dob then 1 else 0)) % 2 : Nat) : Int):=by
  rw [Int.tmod_eq_emod_of_nonneg (by omega)];omega
 rw [e2]
 cases e.dob with
 | true =>
  rw [show (512 * x + 2 * y + (if true = true then 1 else 0)) % 2 = 1 by simp;omega];rfl
 | false =>
  rw [show (512 * x + 2 * y + (if false = true then 1 else 0)) % 2 = 0 by simp;omega];rfl
theorem zTk {e : EdX} (h : chkE e = 0) : (0<=e.size /\ e.size<=65535) /\ (0<=e.ext /\ e.ext<=127) /\ (0<=e.ver /\ e.ver<=255) /\ (∀ o ∈ e.o,0<=o.c /\ o.c<=65535) /\ sumO e.o<=65535:=by
 have h0:=chk_ok (e:=e) (by rw [h];rfl)
 unfold chkE at h
 split at h
 ·cases h
 rename_i h1
 have h1 : (fineE e&&e.o.all okC) = true:=by simpa using h1
 have h2:=(Bool.and_eq_true_iff.1 h1).1
 unfold fineE at h2
 simp only [bA,dT] at h2
 exact ⟨⟨by omega,by omega⟩,⟨by omega,by omega⟩,⟨by omega,by omega⟩,h0.1,h0.2⟩
theorem ofM_one {m : MsT} {x : RcX} (c0 : cntO m.ar = 1) (n : cntO m.an + cntO m.ns = 0) (hf : m.ar.find? isO = some x) (ho : edOk x = true) : ofM m = (edOf x,true,0):=by
 unfold ofM
 rw [if_neg (by omega),if_neg (by omega),hf]
 exact if_pos ho
theorem of_put (m : MsT) {e : EdX} (h : chkE e = 0) : ofM (pcM m e) = (e,true,0):=by
 obtain ⟨⟨s1,s2⟩,⟨x1,x2⟩,⟨v1,v2⟩,hC,hS⟩:=zTk h
 obtain ⟨x,hx⟩:=Int.eq_ofNat_of_zero_le x1
 obtain ⟨y,hy⟩:=Int.eq_ofNat_of_zero_le v1
 obtain ⟨⟨t1,t2⟩,t3,t4,t5⟩:=ttl_back hx hy (by omega) (by omega)
 have ho:=opt_all hC hS
 have hod : optL (recE e).d.data.toList = some e.o:=by
  show optL ((dataO e.o).toArray).toList = _
  rw [List.toList_toArray];exact ho
 have c0 : cntO (m.ar.filter nop++[recE e]) = 1:=by
  unfold cntO
  rw [List.filter_append,aB]
  have := zOk m.ar
  unfold cntO at this
  rw [this];rfl
 have hf : (m.ar.filter nop++[recE e]).find? isO = some (recE e):=by
  rw [List.find?_append,List.find?_eq_none.2 (fun r hr=>by
   have := (List.mem_filter.1 hr).2
   unfold nop at this
   unfold isO
   simpa using this)]
  rfl
 have hok : edOk (recE e) = true:=by
  unfold edOk
  rw [hod]
  simp only [Option.isSome_some,Bool.true_and,bA,dT]
  exact ⟨⟨⟨⟨by rfl,s1⟩,s2⟩,t1⟩,t2⟩
 have n1:=zOk m.an
 have n2:=zOk m.ns
 rw [ofM_one (m:=pcM m e) (x:=recE e) c0 (show cntO (m.an.filter nop) + cntO (m.ns.filter nop) = 0 by omega) hf hok]
 have : edOf (recE e) = e:=by
  unfold edOf
  rw [hod]
  show EdX.mk e.size (shrI .i64 (ttlE e) 24) (bitsI .and .i64 (shrI .i64 (ttlE e) 16) 255) (bitsI .and .i64 (ttlE e) 32768 != 0) ((some e.o).getD []) = e
  rw [t3,t4,t5];rfl
 rw [this]
theorem strip_put {m : MsT} {e : EdX} (h : cntO m.an + cntO m.ns + cntO m.ar = 0) : (pcM m e).strip = m:=by
 have a:=zTw (l:=m.an) (by omega)
 have n:=zTw (l:=m.ns) (by omega)
 have r:=zTw (l:=m.ar) (by omega)
 unfold pcM MsT.strip
 simp only [nop_nop,List.filter_append]
 rw [a,n,r]
 have : [recE e].filter nop = []:=by rfl
 rw [this,aF]
theorem put_put {m : MsT} {e : EdX} (h : chkE e = 0) : putF (pcM m e) e = 7:=by
 unfold putF
 rw [if_neg (by rw [h];simp),if_pos]
 have c0 : cntO (m.ar.filter nop++[recE e]) = 1:=by
  unfold cntO
  rw [List.filter_append,aB]
  have := zOk m.ar
  unfold cntO at this
  rw [this];rfl
 show cntO _ + cntO _ + cntO (m.ar.filter nop++[recE e]) > 0
 omega
end Go.Proofs.Ytknpgjeclmadkaa
