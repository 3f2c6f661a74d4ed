/- DERIVED. Parts. -/
import Derived.Test.YtknpgjeclmadkaaZ17
import Derived.Test.YtknpgjeclmadkaaZ19
set_option maxRecDepth 1000000
set_option maxHeartbeats 32000000
namespace Go.Proofs.Ytknpgjeclmadkaa
section
open Go Go.Joins Go.ChangeShapes Go.WideShapes Go.RowKit Go.Deep
section
variable {H : Type} {enc : TypeId × Value -> H} {w : World} {base : Nat} {spare : Nat -> Bool} {held : Bool}
theorem zDp {n : Nat} {c : Value} {y : DataW H × List MemPlace} (h : DataW.trod enc Try.prog w base spare held n 3 [c] = some y) : ∃ x : Int,c = .int .i64 x:=by
 obtain ⟨a,e,_⟩:=DataW.trod_int Try.underlying3 h
 simp only [aQ,and_true] at e
 exact ⟨a,e⟩
theorem zQe {n : Nat} {c : Value} {y : DataW H × List MemPlace} (h : DataW.trod enc Try.prog w base spare held n 9 [c] = some y) : ∃ x : ByteArray,c = .string x:=by
 obtain ⟨a,e,_⟩:=DataW.trod_string Try.underlying9 h
 simp only [aQ,and_true] at e
 exact ⟨a,e⟩
theorem zUu {n : Nat} {cs : List Value} {y : DataW H × List MemPlace} (h : DataW.trod enc Try.prog w base spare held n 48 cs = some y) : ∃ x : RcX,cs = layR.g x:=by
 obtain ⟨_,_,_,_,hl,_⟩:=DataW.trod_struct Try.underlying48 h
 have hl : cs.length = 5:=hl.trans (by kernel_rfl)
 have hf:=zHw 8 48 [9,3,3,3,9] n cs y (by kernel_rfl) h hl
 match cs,hl with
 | [c0,c1,c2,c3,c4],_ =>
  obtain ⟨_,_,h0⟩:=hf 0 _ _ rfl rfl
  obtain ⟨_,_,h1⟩:=hf 1 _ _ rfl rfl
  obtain ⟨_,_,h2⟩:=hf 2 _ _ rfl rfl
  obtain ⟨_,_,h3⟩:=hf 3 _ _ rfl rfl
  obtain ⟨_,_,h4⟩:=hf 4 _ _ rfl rfl
  obtain ⟨x0,rfl⟩:=zQe h0
  obtain ⟨x1,rfl⟩:=zDp h1
  obtain ⟨x2,rfl⟩:=zDp h2
  obtain ⟨x3,rfl⟩:=zDp h3
  obtain ⟨x4,rfl⟩:=zQe h4
  exact ⟨⟨x0,x1,x2,x3,x4⟩,rfl⟩
theorem trod_qu {n : Nat} {cs : List Value} {y : DataW H × List MemPlace} (h : DataW.trod enc Try.prog w base spare held n 57 cs = some y) : ∃ x : QuX,cs = layQ.g x:=by
 obtain ⟨_,_,_,_,hl,_⟩:=DataW.trod_struct Try.underlying57 h
 have hl : cs.length = 3:=hl.trans (by kernel_rfl)
 have hf:=zHw 8 57 [9,3,3] n cs y (by kernel_rfl) h hl
 match cs,hl with
 | [c0,c1,c2],_ =>
  obtain ⟨_,_,h0⟩:=hf 0 _ _ rfl rfl
  obtain ⟨_,_,h1⟩:=hf 1 _ _ rfl rfl
  obtain ⟨_,_,h2⟩:=hf 2 _ _ rfl rfl
  obtain ⟨x0,rfl⟩:=zQe h0
  obtain ⟨x1,rfl⟩:=zDp h1
  obtain ⟨x2,rfl⟩:=zDp h2
  exact ⟨⟨x0,x1,x2⟩,rfl⟩
def msTypes : List TypeId:=[3,3,22,23,23,23]
end
end
section
open Go Go.RowKit
end
end Go.Proofs.Ytknpgjeclmadkaa
