/- DERIVED. Parts. -/
import Derived.Test.YtknpgjeclmadkaaZ14
import Derived.Test.YtknpgjeclmadkaaZ15
import Derived.Test.YtknpgjeclmadkaaZ17
set_option maxRecDepth 1000000
set_option maxHeartbeats 32000000
namespace Go.Proofs.Ytknpgjeclmadkaa
open Go Go.RowKit
noncomputable def tbWr : Tb Try.prog 0:=tbOf mixed [zOn,zIr,zVm]
theorem zMe {G : Gh} {b c sz : Nat} {l : Bl} (hs : sz = 1) (hG : (G b).bind AObj.look = some (l.map byV)) : zAl G sz (sq b l.length c) = some (l.length,l.map byV):=by
 subst hs
 unfold zAl
 cases hl : Nat.beq l.length 0 with
 | true =>
  have : l = []:=List.length_eq_zero_iff.1 (aA hl)
  subst this
  simp [hl]
 | false =>
  simp only [hl,cF,hG]
  rw [show (0 + l.length * 1).ble (l.map byV).length = true from bL (by simp)]
  simp only [cT,List.drop_zero,aR]
  rw [aD (by simp)]
theorem oneB (l : Bl) : oneL (l.map byV) = true:=by
 induction l with
 | nil=>rfl
 | cons x l ih =>
  unfold oneL at ih ⊢
  rw [List.map_cons,List.all_cons,ih];rfl
theorem map_ro {σ : Nat -> Nat -> Prop} (T F G : List (Bl × Nat)) (ck : Nat) : RO Try.prog σ (.map (encT ((T++F)++G)) (ck + F.length + G.length)) (.map (encT (T++(F++G))) (ck + (F++G).length)):=by
 rw [<- aN,aB,<- Nat.add_assoc];exact RO.map _ _ _ (zAk _)
theorem zAz {σ : Nat -> Nat -> Prop} (b b' : Nat) (h : σ b b') (en : Nat) : RO Try.prog σ (.cells [.map (some b),.int .i64 (en : Int)] 102) (.cells [.map (some b'),.int .i64 (en : Int)] 102):=RO.cells [_,_] [] _ _ (.cons _ _ _ _ (.map _ _ h) (.cons _ _ _ _ (.int _ _) .nil))
def wrE (a : Int) (ps : List (Bs × Bool)) (c : Nat) (T : List (Bl × Nat)) (ck : Nat) (i : Nat) (out : Bl) (F : List (Bl × Nat)) (en : Nat) (f : Nat -> Option Value) : Fs:=match out with
 | []=>⟨slots 7 [(0,pt 0),(1,.int .i64 a),(15,.slice none 0 0),(40,sq 2 ps.length c),(41,.int .i64 ps.length),(42,.int .i64 (i : Int))] f,heap 3 [(0,.cells [.map (some 1),.int .i64 (en : Int)] 102),(1,.map (encT (T++F)) (ck + F.length)),(2,.cells (ps.flatMap pc) 128)],3,[0,1],[]⟩
 | u :: us=>⟨slots 7 [(0,pt 0),(1,.int .i64 a),(15,sq 3 (us.length + 1) U),(40,sq 2 ps.length c),(41,.int .i64 ps.length),(42,.int .i64 (i : Int))] f,heap 3 [(0,.cells [.map (some 1),.int .i64 (en : Int)] 102),(1,.map (encT (T++F)) (ck + F.length)),(2,.cells (ps.flatMap pc) 128),(3,.cells ((u :: us).map byV) 5)],4,[0,1],[]⟩
def wrpS (a : Int) (ps : List (Bs × Bool)) (c : Nat) (T : List (Bl × Nat)) (ck : Nat) (x : Nat × Bl × List (Bl × Nat) × Nat) (f : Nat -> Option Value) : Fs:=wrE a ps c T ck x.1 x.2.1 x.2.2.1 x.2.2.2 f
theorem wr_loop (a : Int) (ps : List (Bs × Bool)) (c : Nat) (T : List (Bl × Nat)) (ck en0 : Nat) (hT : goodT T) (hps : ∀ p ∈ ps,p.1.length<=65535) (hl : ps.length<=1000) (R : Int × Bl × List (Bl × Nat) × Nat) (hR : wrN a T ps [] [] en0 = R) {s0 : Fs} {K : Ex -> Fs -> Prop}
  (h0 : ∃ f,RcM Try.prog 0 2 (4 + (Try.f73.ntmps - 4)) none s0 (wrpS a ps c T ck (0,[],[],en0) f))
  (hex : ∀ out F en f,R = (0,out,F,en) -> out.length<=100000000 -> K (.exit 0) (wrE a ps c T ck ps.length out F en f))
  (hret : ∀ (e : Int) (F : List (Bl × Nat)) (en : Nat) f,e ≠ 0 -> R = (e,[],F,en) -> K .ret ⟨slots 7 [(8,.slice none 0 0),(9,.int .i64 e)] f,heap 3 [(0,.cells [.map (some 1),.int .i64 (en : Int)] 102),(1,.map (encT (T++F)) (ck + F.length))],2,[0,1],[]⟩) :
  LW Try.prog 0 2 (4 + (Try.f73.ntmps - 4)) none (loopAt Try.f73 0) s0 K:=by
 have h1s : (Try.prog.types[5]).size = 1:=by kernel_rfl
 have hby : (Try.prog.types[5]).bytes = 1:=by kernel_rfl
 have h2s : (Try.prog.types[128]).size = 2:=by kernel_rfl
 have pP : plainL (ps.flatMap pc) = true:=zAb _ zCx ps
 refine zAp (wrpS a ps c T ck) (fun x=>ps.length - x.1) (fun x=>x.1<=ps.length /\ goodT (T++x.2.2.1) /\ x.2.1.length<=70000 * x.1 /\ wrN a T (ps.drop x.1) x.2.1 x.2.2.1 x.2.2.2 = R) (0,[],[],en0) ⟨aH _,by rw [aF];exact hT,aJ _,by rw [List.drop_zero];exact hR⟩ h0 ?_
 rintro ⟨i,out,F,en⟩ f ⟨hi,hg,hol,hR⟩
 have hi : i<=ps.length:=hi
 have hg : goodT (T++F):=hg
 have hol : out.length<=70000 * i:=hol
 have hR : wrN a T (ps.drop i) out F en = R:=hR
 have hend : ¬ i < ps.length -> i = ps.length /\ R = (0,out,F,en):=fun h=>by
  have e : i = ps.length:=by omega
  rw [e,List.drop_length] at hR
  exact ⟨e,hR.symm⟩
 have step : ∀ (h : i < ps.length) (s : Bs) (b : Bool),ps[i] = (s,b) -> wrN a T ((s,b) :: ps.drop (i + 1)) out F en = R /\ s.length<=65535 /\ ((ps.flatMap pc).drop (i * 2)).take 2 = [.string (mkS s),.bool b]:=fun h s b e=>by
  refine ⟨by rw [<- e,<- bD h];exact hR,?_,?_⟩
  ·have := hps _ (aV h)
   rw [e] at this;exact this
  have := (zHd pc 2 zJq ps i h).2
  rw [e] at this;exact this
 have ldOK : ∀ (h : i < ps.length),0 + ((i : Int)).toNat * (Try.prog.types[128]).size + (Try.prog.types[128]).size<=(ps.flatMap pc).length:=fun h=>by
  rw [h2s,aO,aS];exact (zHd pc 2 zJq ps i h).1
 have hdrop : ∀ s b,wrN a T ((s,b) :: ps.drop (i + 1)) out F en = wrN a T ((s,b) :: ps.drop (i + 1)) out F en:=fun _ _=>rfl
 cases out with
 | nil =>
  refine zAq tbWr [2,4] 2 _ none mixed _ _ _ ?_
  refine ifK (fun h1=>?_) (fun h1=>?_)
  ·have h1 : i < ps.length:=by have := oT h1;omega
   obtain ⟨s,b,hp⟩ : ∃ s b,ps[i] = (s,b):=⟨_,_,rfl⟩
   obtain ⟨hR,hsl,hat⟩:=step h1 s b hp
   refine ifK (fun _=>?_) (fun h2=>ab h2 (by simp [inI];omega))
   have hat2 : ((ps.flatMap pc).drop (0 + ((i : Int)).toNat * (Try.prog.types[128]).size)).take (Try.prog.types[128]).size = [.string (mkS s),.bool b]:=by rw [h2s,aO,aS];exact hat
   cases b with
   | false =>
    unfold wrN at hR
    refine eI (mkS s) (eI false (aI ⟨ldOK h1,hat2⟩ ?_))
    cases s with
    | nil =>
     refine ⟨(i + 1,[],F,en),⟨h1,hg,by show 0<=_;omega,by show wrN a T (ps.drop (i + 1)) _ F en = R;rw [aF] at hR;exact hR⟩,by show ps.length - (i + 1) < ps.length - i;omega,?_⟩
     exact rcq [2] ⟨(sP rfl rfl),(sI rfl),⟨_,rfl,zAu 8 rfl⟩,(sL rfl rfl),(sI rfl),zAa rfl (by rw [wrapN (by omega) (by omega)];omega),tv⟩ ⟨⟨by decide,_,rfl,zAz 1 1 (by exact rfl) en⟩,⟨by decide,_,rfl,RO.map _ _ _ (zAk _)⟩,bpo (pP),tv⟩ .nil
    | cons x s =>
     refine aI (by rw [hby,bA];exact ⟨aX (show (x :: s).length * 1<=140737488355328 by omega),aX (show (x :: s).length<=9223372036854775807 by omega)⟩) ?_
     refine ⟨(i + 1,x :: s,F,en),⟨h1,hg,by show (x :: s).length<=_;omega,by show wrN a T (ps.drop (i + 1)) (x :: s) F en = R;exact hR⟩,by show ps.length - (i + 1) < ps.length - i;omega,?_⟩
     exact rcq [2,4] ⟨(sP rfl rfl),(sI rfl),(sL rfl rfl),(sL rfl rfl),(sI rfl),zAa rfl (by rw [wrapN (by omega) (by omega)];omega),tv⟩ ⟨⟨by decide,_,rfl,zAz 1 1 (by exact rfl) en⟩,⟨by decide,_,rfl,RO.map _ _ _ (zAk _)⟩,bpo (pP),bpo (zAc (x :: s)),tv⟩ .nil
   | true =>
    obtain ⟨a',ha'⟩ : ∃ a',a' = IntKind.i64.wrap (a + ((0 : Nat) : Int)):=⟨_,rfl⟩
    unfold wrN at hR
    simp only [show (List.length ([] : Bl)) = 0 from rfl,<- ha'] at hR
    have hsh : shortB (mkS s) = true:=by unfold shortB;rw [zEx];exact bL (by omega)
    refine eI (mkS s) (eI true (aI ⟨ldOK h1,hat2⟩ ?_))
    by_cases he : pnE en a' (mkS s) ≠ 0
    ·rw [if_pos he] at hR
     refine eI (⟨0,1,en,T++F,ck + F.length,a',mkS s,true,[],[]⟩ : PkX) (aI ⟨(by rw [ha'] <;> rfl),(show Tr.get _ 0 = some (AObj.cells [.map (some 1),.int .i64 (en : Int)] _) from rfl),(show Tr.get _ 1 = some (AObj.map (encT (T++F)) (ck + F.length)) from rfl),hg,hsh,(aX he).symm,fun h=>by cases h⟩ ?_)
     refine ifK (fun _=>?_) (fun g=>ab (show pnE en a' (mkS s) = 0 by have g : (pnE en a' (mkS s) != 0) = false:=g;simpa using g) he)
     refine aI rfl (zAh (rcq [] (d:=7) (d2:=3) (lv:=[(8,.slice none 0 0),(9,.int .i64 (pnE en a' (mkS s)))]) (bs:=[(0,.cells [.map (some 1),.int .i64 (en : Int)] 102),(1,.map (encT (T++F)) (ck + F.length))]) (W:=[0,1]) (m:=2) (df:=[]) ⟨⟨_,rfl,zAu 8 rfl⟩,(sI rfl),tv⟩ ⟨⟨by decide,_,rfl,zAz 1 1 (by exact rfl) en⟩,⟨by decide,_,rfl,RO.map _ _ _ (zAk _)⟩,tv⟩ .nil) (fun f=>?_))
     exact hret _ F en f he hR.symm
    rw [if_neg he] at hR
    have he : pnE en a' (mkS s) = 0:=Decidable.not_not.1 he
    have eb : bs (mkS s) = s:=by simp [bs,mkS]
    obtain ⟨⟨p1,p2⟩,p3,p4,p5⟩:=zHh he
    rw [eb] at p4 p5
    have hpos:=((zCf s).1 p4).1.pos
    obtain ⟨r,hr⟩ : ∃ r,packN (T++F) a'.toNat s.length s 0 = r:=⟨_,rfl⟩
    have hne:=zPp (T++F) a'.toNat s.length s 0 hpos
    have hl1:=zCr (T++F) a'.toNat s.length s 0
    have hgd:=zEf hg a'.toNat s.length s 0
    rw [hr] at hne hl1 hgd hR
    obtain ⟨o,F'⟩:=r
    cases o with
    | nil=>exact ab rfl hne
    | cons v vs =>
     have hvl : vs.length + 1<=s.length + 2:=hl1
     refine eI (⟨0,1,en,T++F,ck + F.length,a',mkS s,false,v :: vs,F'⟩ : PkX) (aI ⟨(by rw [ha'] <;> rfl),(show Tr.get _ 0 = some (AObj.cells [.map (some 1),.int .i64 (en : Int)] _) from rfl),(show Tr.get _ 1 = some (AObj.map (encT (T++F)) (ck + F.length)) from rfl),hg,hsh,(aY (aL he)).symm,fun _=>by rw [eb];exact hr⟩ ?_)
     refine eI ((v :: vs).map byV) (aI (zMe (l:=v :: vs) h1s rfl) ?_)
     refine aI (by rw [hby];simp only [bA];exact ⟨aX (by simp;omega),aX (by simp;omega)⟩) ?_
     refine ⟨(i + 1,v :: vs,F++F',a'.toNat + (vs.length + 1)),⟨h1,by rw [<- aN];exact hgd,by show (v :: vs).length<=_;simp;omega,by show wrN a T (ps.drop (i + 1)) _ _ _ = R;exact hR⟩,by show ps.length - (i + 1) < ps.length - i;omega,?_⟩
     exact rcq [2,5] ⟨(sP rfl rfl),(sI rfl),(sL rfl rfl),(sL rfl rfl),(sI rfl),zAa rfl (by rw [wrapN (by omega) (by omega)];omega),tv⟩ ⟨⟨by decide,_,rfl,zAz 1 1 (by exact rfl) _⟩,⟨by decide,_,rfl,map_ro T F F' ck⟩,bpo (pP),bpo (zAc (v :: vs)),tv⟩ .nil
  obtain ⟨e1,e2⟩:=hend (by have := oF h1;omega)
  subst e1
  refine aI rfl (zAh (rcq [2] (d:=7) (d2:=3) (lv:=[(0,pt 0),(1,.int .i64 a),(15,.slice none 0 0),(40,sq 2 ps.length c),(41,.int .i64 ps.length),(42,.int .i64 ps.length)]) (bs:=[(0,.cells [.map (some 1),.int .i64 (en : Int)] 102),(1,.map (encT (T++F)) (ck + F.length)),(2,.cells (ps.flatMap pc) 128)]) (W:=[0,1]) (m:=3) (df:=[]) ⟨(sP rfl rfl),(sI rfl),⟨_,rfl,zAu 8 rfl⟩,(sL rfl rfl),(sI rfl),(sI rfl),tv⟩ ⟨⟨by decide,_,rfl,zAz 1 1 (by exact rfl) en⟩,⟨by decide,_,rfl,RO.map _ _ _ (zAk _)⟩,bpo (pP),tv⟩ .nil) (fun f=>?_))
  exact hex _ F en f e2 (by first | (show us.length + 1<=_;have := hl;have := hol;omega) | simp)
 | cons u us =>
  have hol : us.length + 1<=70000 * i:=hol
  refine zAq tbWr [2,5] 2 _ none mixed _ _ _ ?_
  refine ifK (fun h1=>?_) (fun h1=>?_)
  ·have h1 : i < ps.length:=by have := oT h1;omega
   obtain ⟨s,b,hp⟩ : ∃ s b,ps[i] = (s,b):=⟨_,_,rfl⟩
   obtain ⟨hR,hsl,hat⟩:=step h1 s b hp
   refine ifK (fun _=>?_) (fun h2=>ab h2 (by simp [inI];omega))
   have hat2 : ((ps.flatMap pc).drop (0 + ((i : Int)).toNat * (Try.prog.types[128]).size)).take (Try.prog.types[128]).size = [.string (mkS s),.bool b]:=by rw [h2s,aO,aS];exact hat
   cases b with
   | false =>
    unfold wrN at hR
    refine eI (mkS s) (eI false (aI ⟨ldOK h1,hat2⟩ ?_))
    cases s with
    | nil =>
     refine ⟨(i + 1,u :: us,F,en),⟨h1,hg,by show us.length + 1<=_;omega,by show wrN a T (ps.drop (i + 1)) _ F en = R;rw [aF] at hR;exact hR⟩,by show ps.length - (i + 1) < ps.length - i;omega,?_⟩
     exact rcq [2,3] ⟨(sP rfl rfl),(sI rfl),(sL rfl rfl),(sL rfl rfl),(sI rfl),zAa rfl (by rw [wrapN (by omega) (by omega)];omega),tv⟩ ⟨⟨by decide,_,rfl,zAz 1 1 (by exact rfl) en⟩,⟨by decide,_,rfl,RO.map _ _ _ (zAk _)⟩,bpo (pP),bpo (zAc (u :: us)),tv⟩ .nil
    | cons x s =>
     have hone : oneL ((x :: s).map byV) = true:=oneB _
     have hsl : s.length + 1<=65535:=hsl
     refine aI (by rw [h1s,hby];simp only [bA,dT];exact ⟨⟨⟨⟨⟨⟨rfl,rfl⟩,bL (by simp)⟩,hone⟩,(show (us.length + 1 + (s.length + 1)) * 1<=140737488355328 by omega)⟩,(show us.length + 1 + (s.length + 1)<=9223372036854775807 by omega)⟩,bL (by simp [mkS] <;> omega)⟩) ?_
     refine ⟨(i + 1,u :: (us++x :: s),F,en),⟨h1,hg,by show (u :: (us++x :: s)).length<=_;simp at hsl ⊢;omega,by show wrN a T (ps.drop (i + 1)) _ F en = R;exact hR⟩,by show ps.length - (i + 1) < ps.length - i;omega,?_⟩
     have ec : (List.take ((us.length + 1) * 1) (byV u :: us.map byV))++(x :: s).map byV = (u :: (us++x :: s)).map byV:=by rw [aR,aD (by simp)];simp
     have el : us.length + 1 + (x :: s).length = (us++x :: s).length + 1:=by simp;omega
     exact rcq [2,5] ⟨(sP rfl rfl),(sI rfl),⟨_,rfl,by show RV _ (.slice _ (us.length + 1 + (x :: s).length) U) _;rw [el];exact .sl _ _ _ _ _ rfl⟩,(sL rfl rfl),(sI rfl),zAa rfl (by rw [wrapN (by omega) (by omega)];omega),tv⟩ ⟨⟨by decide,_,rfl,zAz 1 1 (by exact rfl) en⟩,⟨by decide,_,rfl,RO.map _ _ _ (zAk _)⟩,bpo (pP),⟨by decide,_,rfl,zAs (by rw [<- ec];rfl) (zAc _)⟩,tv⟩ .nil
   | true =>
    obtain ⟨a',ha'⟩ : ∃ a',a' = IntKind.i64.wrap (a + (((us.length + 1) : Nat) : Int)):=⟨_,rfl⟩
    unfold wrN at hR
    simp only [show (List.length (u :: us)) = (us.length + 1) from rfl,<- ha'] at hR
    have hsh : shortB (mkS s) = true:=by unfold shortB;rw [zEx];exact bL (by omega)
    refine eI (mkS s) (eI true (aI ⟨ldOK h1,hat2⟩ ?_))
    by_cases he : pnE en a' (mkS s) ≠ 0
    ·rw [if_pos he] at hR
     refine eI (⟨0,1,en,T++F,ck + F.length,a',mkS s,true,[],[]⟩ : PkX) (aI ⟨(by rw [ha'] <;> rfl),(show Tr.get _ 0 = some (AObj.cells [.map (some 1),.int .i64 (en : Int)] _) from rfl),(show Tr.get _ 1 = some (AObj.map (encT (T++F)) (ck + F.length)) from rfl),hg,hsh,(aX he).symm,fun h=>by cases h⟩ ?_)
     refine ifK (fun _=>?_) (fun g=>ab (show pnE en a' (mkS s) = 0 by have g : (pnE en a' (mkS s) != 0) = false:=g;simpa using g) he)
     refine aI rfl (zAh (rcq [] (d:=7) (d2:=3) (lv:=[(8,.slice none 0 0),(9,.int .i64 (pnE en a' (mkS s)))]) (bs:=[(0,.cells [.map (some 1),.int .i64 (en : Int)] 102),(1,.map (encT (T++F)) (ck + F.length))]) (W:=[0,1]) (m:=2) (df:=[]) ⟨⟨_,rfl,zAu 8 rfl⟩,(sI rfl),tv⟩ ⟨⟨by decide,_,rfl,zAz 1 1 (by exact rfl) en⟩,⟨by decide,_,rfl,RO.map _ _ _ (zAk _)⟩,tv⟩ .nil) (fun f=>?_))
     exact hret _ F en f he hR.symm
    rw [if_neg he] at hR
    have he : pnE en a' (mkS s) = 0:=Decidable.not_not.1 he
    have eb : bs (mkS s) = s:=by simp [bs,mkS]
    obtain ⟨⟨p1,p2⟩,p3,p4,p5⟩:=zHh he
    rw [eb] at p4 p5
    have hpos:=((zCf s).1 p4).1.pos
    obtain ⟨r,hr⟩ : ∃ r,packN (T++F) a'.toNat s.length s 0 = r:=⟨_,rfl⟩
    have hne:=zPp (T++F) a'.toNat s.length s 0 hpos
    have hl1:=zCr (T++F) a'.toNat s.length s 0
    have hgd:=zEf hg a'.toNat s.length s 0
    rw [hr] at hne hl1 hgd hR
    obtain ⟨o,F'⟩:=r
    cases o with
    | nil=>exact ab rfl hne
    | cons v vs =>
     have hvl : vs.length + 1<=s.length + 2:=hl1
     refine eI (⟨0,1,en,T++F,ck + F.length,a',mkS s,false,v :: vs,F'⟩ : PkX) (aI ⟨(by rw [ha'] <;> rfl),(show Tr.get _ 0 = some (AObj.cells [.map (some 1),.int .i64 (en : Int)] _) from rfl),(show Tr.get _ 1 = some (AObj.map (encT (T++F)) (ck + F.length)) from rfl),hg,hsh,(aY (aL he)).symm,fun _=>by rw [eb];exact hr⟩ ?_)
     refine eI ((v :: vs).map byV) (aI (zMe (l:=v :: vs) h1s rfl) ?_)
     have hone : oneL ((v :: vs).map byV) = true:=oneB _
     refine aI (by rw [h1s,hby];simp only [bA,dT];exact ⟨⟨⟨⟨⟨⟨rfl,rfl⟩,bL (by simp)⟩,hone⟩,(by simp;omega)⟩,(by simp;omega)⟩,bL (by simp <;> omega)⟩) ?_
     have ec : (List.take ((us.length + 1) * 1) (byV u :: us.map byV))++(v :: vs).map byV = (u :: (us++v :: vs)).map byV:=by rw [aR,aD (by simp)];simp
     have el : us.length + 1 + (v :: vs).length = (us++v :: vs).length + 1:=by simp;omega
     refine ⟨(i + 1,u :: (us++v :: vs),F++F',a'.toNat + (vs.length + 1)),⟨h1,by rw [<- aN];exact hgd,by show (u :: (us++v :: vs)).length<=_;simp;omega,by show wrN a T (ps.drop (i + 1)) _ _ _ = R;exact hR⟩,by show ps.length - (i + 1) < ps.length - i;omega,?_⟩
     exact rcq [2,6] ⟨(sP rfl rfl),(sI rfl),⟨_,rfl,by show RV _ (.slice _ (us.length + 1 + (v :: vs).length) U) _;rw [el];exact .sl _ _ _ _ _ rfl⟩,(sL rfl rfl),(sI rfl),zAa rfl (by rw [wrapN (by omega) (by omega)];omega),tv⟩ ⟨⟨by decide,_,rfl,zAz 1 1 (by exact rfl) _⟩,⟨by decide,_,rfl,map_ro T F F' ck⟩,bpo (pP),⟨by decide,_,rfl,zAs (by rw [<- ec];rfl) (zAc _)⟩,tv⟩ .nil
  obtain ⟨e1,e2⟩:=hend (by have := oF h1;omega)
  subst e1
  refine aI rfl (zAh (rcq [2,3] (d:=7) (d2:=3) (lv:=[(0,pt 0),(1,.int .i64 a),(15,sq 3 (us.length + 1) U),(40,sq 2 ps.length c),(41,.int .i64 ps.length),(42,.int .i64 ps.length)]) (bs:=[(0,.cells [.map (some 1),.int .i64 (en : Int)] 102),(1,.map (encT (T++F)) (ck + F.length)),(2,.cells (ps.flatMap pc) 128),(3,.cells ((u :: us).map byV) 5)]) (W:=[0,1]) (m:=4) (df:=[]) ⟨(sP rfl rfl),(sI rfl),(sL rfl rfl),(sL rfl rfl),(sI rfl),(sI rfl),tv⟩ ⟨⟨by decide,_,rfl,zAz 1 1 (by exact rfl) en⟩,⟨by decide,_,rfl,RO.map _ _ _ (zAk _)⟩,bpo (pP),bpo (zAc (u :: us)),tv⟩ .nil) (fun f=>?_))
  exact hex _ F en f e2 (by first | (show us.length + 1<=_;have := hl;have := hol;omega) | simp)
theorem FnS.wr {f : FuncId} {args : List Value} {H H' : Tr AObj} {n0 n : Nat} {v : Value} {wr : List Nat} (W : List Nat) (h : FnS Try.prog 0 f args H n0 (.ret v H' n wr)) : FnS Try.prog 0 f args H n0 (.ret v H' n (W++wr)):=fun E w args' h1 h2 h3 h4 h5 =>
 (h E w args' h1 h2 h3 h4 h5).mono fun e w' ⟨E',v',q1,q2,q3,q4⟩=>⟨E',v',q1,q2,q3,q4.sub (fun k hk _=>List.mem_append.2 (.inr hk))⟩
def ovN (b : Nat) (o : Bl) : Value:=match o with
 | []=>.slice none 0 0
 | _ :: l=>sq b (l.length + 1) U
theorem zWn (en : Nat) : pnE en (-1) (mkS [0]) = 2:=by
 unfold pnE
 have h : (labels (bs (mkS [0]))).2 = 0:=(zCf _).2 ⟨.root,by decide⟩
 rw [if_neg (by simpa using h),if_pos (.inl (by decide))]
theorem checkD_no {t : Int} {l : Bs} (h : (checkD t l != 0) = false) : checkD t l = 0:=by simpa using h
theorem write_fn (a t : Int) (s : ByteArray) (en : Nat) (T : List (Bl × Nat)) (ck : Nat) (hT : goodT T) (hs : shortB s = true) (e : Int) (o : Bl) (F : List (Bl × Nat)) (en' : Nat) (hD : wrD en T a t (bs s) = (e,o,F,en')) :
  ∃ r,FnS Try.prog 0 73 [pt 0,.int .i64 a,.int .i64 t,.string s] (heap 2 [(0,.cells [.map (some 1),.int .i64 (en : Int)] 102),(1,.map (encT T) ck)]) 2 r /\
   ∃ H m wr b,r = .ret (.tuple #[ovN b o,.int .i64 e]) H m wr /\ (o ≠ [] -> 2<=b /\ b < JJ /\ H.get b = some (.cells (o.map byV) 5)) /\ H.get 0 = some (.cells [.map (some 1),.int .i64 (en' : Int)] 102) /\ H.get 1 = some (.map (encT (T++F)) (ck + F.length)):=by
 refine zBo mixed tbWr [1] Try.func73 (c:=bodyOf Try.f73) (by kernel_rfl) ?_
 have hroot : pnR en T (-1) (mkS [0]) true [] []:=⟨by rw [zWn];rfl,fun h=>by cases h⟩
 refine eI (⟨0,1,en,T,ck,-1,mkS [0],true,[],[]⟩ : PkX) (aI ⟨rfl,rfl,(show Tr.get _ 1 = some (AObj.map (encT T) ck) from rfl),hT,rfl,hroot⟩ ?_)
 refine aI hs ?_
 unfold wrD at hD
 refine ifK (fun g=>?_) (fun g=>?_)
 ·have g : checkD t (bs s) ≠ 0:=by simpa using g
  rw [if_pos g] at hD
  simp only [Prod.mk.injEq] at hD
  obtain ⟨rfl,rfl,rfl,rfl⟩:=hD
  exact ⟨_,_,_,0,rfl,fun h=>ab rfl h,rfl,by rw [aF];rfl⟩
 have g:=checkD_no g
 rw [if_neg (by simpa using g)] at hD
 obtain ⟨k1,k2,k3,k4⟩:=zLt g
 have hps : ∀ p ∈ pcsD t (bs s),p.1.length<=65535:=fun p hp=>by
  obtain ⟨i,hi,e1⟩:=List.mem_iff_getElem.1 hp
  have := sumL_at _ i hi
  rw [e1] at this;omega
 refine aI hs ?_
 refine ifK (fun g1=>?_) (fun g1=>?_)
 ·obtain ⟨ps,hp⟩:=Option.isSome_iff_exists.1 g1
  have hpcs : pcsD t (bs s) = outP t (bs s):=by unfold pcsD;rw [hp]
  rw [hpcs] at hD hps k3
  refine ifK (fun g2=>?_) (fun g2=>?_)
  ·refine wr_loop a (outP t (bs s)) U T ck en hT hps (by omega) _ hD (rcq [2] ⟨(sP rfl rfl),(sI rfl),⟨_,rfl,zAu 8 rfl⟩,(sL rfl rfl),(sI rfl),(sI rfl),tv⟩ ⟨⟨by decide,_,rfl,zAz 1 1 (by exact rfl) en⟩,⟨by decide,_,rfl,(by show RO Try.prog _ (.map (encT T) ck) (.map (encT (T++[])) (ck + 0));rw [aF];exact RO.map _ _ _ (zAk _))⟩,bpo (zAb _ zCx _),tv⟩ .nil) ?_ ?_
   ·intro out G en2 f hR hl
    simp only [Prod.mk.injEq] at hR
    obtain ⟨rfl,rfl,rfl,rfl⟩:=hR
    cases o with
    | nil=>exact ⟨_,_,_,0,rfl,fun h=>ab rfl h,rfl,rfl⟩
    | cons u us=>exact ⟨_,_,_,3,rfl,fun _=>⟨by decide,by decide,rfl⟩,rfl,rfl⟩
   intro e2 G en2 f he hR
   simp only [Prod.mk.injEq] at hR
   obtain ⟨rfl,rfl,rfl,rfl⟩:=hR
   exact ⟨_,_,_,0,rfl,fun h=>ab rfl h,rfl,rfl⟩
  exfalso
  obtain ⟨o',_,q⟩:=zOx hp (zGd g).2.2.2
  rw [q] at g2;cases g2
 have hp : ptsT t = none:=by simpa using g1
 have hpcs : pcsD t (bs s) = [(bs s,false)]:=by unfold pcsD;rw [hp]
 rw [hpcs] at hD hps k3
 refine wr_loop a [(bs s,false)] 1 T ck en hT hps (by simp) _ hD (rcq [2] ⟨(sP rfl rfl),(sI rfl),⟨_,rfl,zAu 8 rfl⟩,(sL rfl rfl),(sI rfl),(sI rfl),tv⟩ ⟨⟨by decide,_,rfl,zAz 1 1 (by exact rfl) en⟩,⟨by decide,_,rfl,(by show RO Try.prog _ (.map (encT T) ck) (.map (encT (T++[])) (ck + 0));rw [aF];exact RO.map _ _ _ (zAk _))⟩,⟨by decide,_,rfl,zAs (by rw [str_mk s];rfl) rfl⟩,tv⟩ .nil) ?_ ?_
 ·intro out G en2 f hR hl
  simp only [Prod.mk.injEq] at hR
  obtain ⟨rfl,rfl,rfl,rfl⟩:=hR
  cases o with
  | nil=>exact ⟨_,_,_,0,rfl,fun h=>ab rfl h,rfl,rfl⟩
  | cons u us=>exact ⟨_,_,_,3,rfl,fun _=>⟨by decide,by decide,rfl⟩,rfl,rfl⟩
 intro e2 G en2 f he hR
 simp only [Prod.mk.injEq] at hR
 obtain ⟨rfl,rfl,rfl,rfl⟩:=hR
 exact ⟨_,_,_,0,rfl,fun h=>ab rfl h,rfl,rfl⟩
structure WrX where
 pb : Nat
 mb : Nat
 en : Nat
 T : List (Bl × Nat)
 ck : Nat
 a : Int
 t : Int
 s : ByteArray
 e : Int
 o : Bl
 F : List (Bl × Nat)
 en' : Nat
def packO (pb mb : Nat) (T : List (Bl × Nat)) (ck : Nat) (e : Int) (o : Bl) (F : List (Bl × Nat)) (en' : Nat) (H : Tr AObj) (n : Nat) : Res:=match o with
 | []=>.ret (.tuple #[.slice none 0 0,.int .i64 e]) ((H.set pb (some (.cells [.map (some mb),.int .i64 (en' : Int)] 102))).set mb (some (.map (encT (T++F)) (ck + F.length)))) n [pb,mb]
 | u :: us=>.ret (.tuple #[sq n (us.length + 1) U,.int .i64 e]) (((H.set pb (some (.cells [.map (some mb),.int .i64 (en' : Int)] 102))).set mb (some (.map (encT (T++F)) (ck + F.length)))).set n (some (.cells ((u :: us).map byV) 5))) (n + 1) [pb,mb]
theorem zJm {f : FuncId} {args args0 : List Value} {H H0 H' : Tr AObj} {n m pb mb b en ck en' : Nat} {wr : List Nat} {T F : List (Bl × Nat)} {e : Int} {o : Bl} (hF : FnS Try.prog 0 f args0 H0 2 (.ret (.tuple #[ovN b o,.int .i64 e]) H' m wr))
  (hA : [pb,mb].Nodup) (hcb : CallB Try.prog [pb,mb] H H0) (harg : RL (caR [pb,mb]) args args0) (h2 : H.get pb = some (.cells [.map (some mb),.int .i64 (en : Int)] 102)) (h3 : H.get mb = some (.map (encT T) ck)) (w0 : 0 ∈ wr) (w1 : 1 ∈ wr)
  (gb : o ≠ [] -> 2<=b /\ b < JJ /\ H'.get b = some (.cells (o.map byV) 5)) (g2 : H'.get 0 = some (.cells [.map (some 1),.int .i64 (en' : Int)] 102)) (g3 : H'.get 1 = some (.map (encT (T++F)) (ck + F.length))) (hw0 : ∀ j,j < 2 -> ∀ o,H0.get j = some o -> ¬ o.isWin) :
  CallOK Try.prog 0 f args H n (packO pb mb T ck e o F en' H n):=by
 have hw : ∀ j ∈ [pb,mb],∃ o,H.get j = some o /\ ¬ o.isWin:=fun j hj=>by
  simp only [aK,List.not_mem_nil,or_false] at hj
  rcases hj with rfl | rfl
  ·exact ⟨_,h2,fun h=>h⟩
  exact ⟨_,h3,fun h=>h⟩
 have hw0' : ∀ k o,H0.get k = some o -> k < [pb,mb].length -> ¬ o.isWin:=fun k o h1 h2=>hw0 k h2 o h1
 have hbx : ∀ B : List Nat,RO Try.prog (tau [pb,mb] B n) (.cells [.map (some 1),.int .i64 (en' : Int)] 102) (.cells [.map (some mb),.int .i64 (en' : Int)] 102):=fun B=>zAz 1 mb (zJh rfl) en'
 cases o with
 | nil =>
  refine zKx [pb,mb] [] [(pb,some (.cells [.map (some mb),.int .i64 (en' : Int)] 102)),(mb,some (.map (encT (T++F)) (ck + F.length)))] hF hA hcb harg hw0' hw List.nodup_nil (fun x hx=>by cases hx) (.tuple _ _ (.cons _ _ _ _ (.snil _ _) (.cons _ _ _ _ (.int _ _) .nil)))
   (fun p hp=>by simp at hp;rcases hp with rfl | rfl <;> simp) (fun k j e1 _=>.inl (by have := List.mem_of_getElem? e1;simp at this;rcases this with rfl | rfl <;> simp)) (fun j ob hm=>?_)
  rcases aK.1 hm with e | hm
  ·cases e;exact ⟨0,_,zJh rfl,g2,hbx _,fun _=>w0⟩
  rcases aK.1 hm with e | hm
  ·cases e;exact ⟨1,_,zJh rfl,g3,RO.map _ _ _ (zAk _),fun _=>w1⟩
  cases hm
 | cons u us =>
  obtain ⟨b1,b2,b3⟩:=gb (aZ _ _)
  refine zKx [pb,mb] [b] [(pb,some (.cells [.map (some mb),.int .i64 (en' : Int)] 102)),(mb,some (.map (encT (T++F)) (ck + F.length))),(n,some (.cells ((u :: us).map byV) 5))] hF hA hcb harg hw0' hw (by simp) (fun x hx=>by simp at hx;subst hx;exact ⟨b1,b2,by rw [b3];simp⟩) (.tuple _ _ (.cons _ _ _ _ (.sl _ _ _ _ _ (zJg (A:=[pb,mb]) b1)) (.cons _ _ _ _ (.int _ _) .nil)))
   (fun p hp=>by simp at hp;rcases hp with rfl | rfl | rfl <;> simp) (fun k j e1 _=>.inl (by have := List.mem_of_getElem? e1;simp at this;rcases this with rfl | rfl <;> simp)) (fun j ob hm=>?_)
  rcases aK.1 hm with e | hm
  ·cases e;exact ⟨0,_,zJh rfl,g2,hbx _,fun _=>w0⟩
  rcases aK.1 hm with e | hm
  ·cases e;exact ⟨1,_,zJh rfl,g3,RO.map _ _ _ (zAk _),fun _=>w1⟩
  rcases aK.1 hm with e | hm
  ·cases e;exact ⟨b,_,zJg (A:=[pb,mb]) b1,b3,.same (zAc _),fun h=>by have h : b < 2:=h;omega⟩
  cases hm
theorem packB {pb mb en : Nat} {T : List (Bl × Nat)} {ck : Nat} {H : Tr AObj} (h2 : H.get pb = some (.cells [.map (some mb),.int .i64 (en : Int)] 102)) (h3 : H.get mb = some (.map (encT T) ck)) :
  [pb,mb].Nodup /\ CallB Try.prog [pb,mb] H (heap 2 [(0,.cells [.map (some 1),.int .i64 (en : Int)] 102),(1,.map (encT T) ck)]) /\ ∀ j,j < 2 -> ∀ o,(heap 2 [(0,AObj.cells [.map (some 1),.int .i64 (en : Int)] 102),(1,.map (encT T) ck)]).get j = some o -> ¬ o.isWin:=by
 have hne : pb ≠ mb:=fun e=>by subst e;rw [h2] at h3;cases h3
 refine ⟨by simp [hne],zOh ⟨⟨pb,_,rfl,h2,zAz mb 1 rfl en⟩,⟨mb,_,rfl,h3,RO.map _ _ _ (zAk _)⟩,tv⟩,fun j hj ob ho=>?_⟩
 match j,hj,ho with
 | 0,_,ho=>have ho : some (AObj.cells _ _) = some ob:=ho;cases ho;exact fun h=>h
 | 1,_,ho=>have ho : some (AObj.map _ _) = some ob:=ho;cases ho;exact fun h=>h
theorem zRl {pb mb mb' en en' : Nat} {T T' : List (Bl × Nat)} {ck ck' : Nat} {H : Tr AObj} (h2 : H.get pb = some (.cells [.map (some mb),.int .i64 (en : Int)] 102)) (h3 : H.get mb = some (.map (encT T) ck)) (k2 : H.get pb = some (.cells [.map (some mb'),.int .i64 (en' : Int)] 102)) (k3 : H.get mb' = some (.map (encT T') ck')) : mb = mb' /\ en = en' /\ T = T' /\ ck = ck':=by
 rw [h2] at k2
 simp only [aP,AObj.cells.injEq,aQ,Value.map.injEq,Value.int.injEq,true_and,and_true] at k2
 obtain ⟨rfl,e⟩:=k2
 rw [h3] at k3
 simp only [aP,AObj.map.injEq] at k3
 exact ⟨rfl,by omega,zOq k3.1,k3.2⟩
theorem zRk {pb mb : Nat} {T : List (Bl × Nat)} {ck : Nat} {e : Int} {o : Bl} {F : List (Bl × Nat)} {en' : Nat} {H : Tr AObj} {n : Nat} {K : Res -> Prop} (h : frcN pb fun pb=>frcN mb fun mb=>K (packO pb mb T ck e o F en' H n)) : K (packO pb mb T ck e o F en' H n):=by rw [zDg,zDg] at h;exact h
noncomputable def ct_write : Ct Try.prog 0 :=
 CtR.ct { f:=73,X:=WrX,
          pre:=fun x as0 H _=>as0 = [.pointer (some ⟨x.pb,0,none⟩),.int .i64 x.a,.int .i64 x.t,.string x.s] /\ H.get x.pb = some (.cells [.map (some x.mb),.int .i64 (x.en : Int)] 102) /\ H.get x.mb = some (.map (encT x.T) x.ck) /\ goodT x.T /\ shortB x.s = true /\ wrD x.en x.T x.a x.t (bs x.s) = (x.e,x.o,x.F,x.en'),
          out:=fun x H n=>packO x.pb x.mb x.T x.ck x.e x.o x.F x.en' H n,
          tr:=fun x H n K=>frcN x.pb fun pb=>frcN x.mb fun mb=>K (packO pb mb x.T x.ck x.e x.o x.F x.en' H n),
          trOk:=fun x H n K h=>zRk h,
          ok:=fun x as0 H n ⟨h1,h2,h3,h4,h5,h6⟩=>by
           subst h1
           obtain ⟨pb,mb,en,T,ck,a,t,s,e,o,F,en'⟩:=x
           obtain ⟨q1,q2,q3⟩:=packB h2 h3
           obtain ⟨r,hF,H',m,wr,b,rfl,g1,g2,g3⟩:=write_fn a t s en T ck h4 h5 e o F en' h6
           have := zJm (n:=n) (hF.wr [0,1]) q1 q2 (.cons _ _ _ _ (.ptr _ _ _ rfl) (.cons _ _ _ _ (.int _ _) (.cons _ _ _ _ (.int _ _) (.cons _ _ _ _ (.string _) .nil)))) h2 h3 (by simp) (by simp) g1 g2 g3 q3
           cases o <;> exact this,
          uniq:=fun x y as0 H n ⟨h1,h2,h3,_,_,h6⟩ ⟨k1,k2,k3,_,_,k6⟩=>by
           obtain ⟨pb,mb,en,T,ck,a,t,s,e,o,F,en1⟩:=x
           obtain ⟨pb',mb',en',T',ck',a',t',s',e',o',F',en1'⟩:=y
           rw [h1] at k1
           simp only [aQ,Value.pointer.injEq,aP,Addr.mk.injEq,and_true,Value.int.injEq,true_and,Value.string.injEq] at k1
           obtain ⟨rfl,rfl,rfl,rfl⟩:=k1
           obtain ⟨rfl,rfl,rfl,rfl⟩:=zRl h2 h3 k2 k3
           have := h6.symm.trans k6
           simp only [Prod.mk.injEq] at this
           obtain ⟨rfl,rfl,rfl,rfl⟩:=this
           rfl }
theorem zKk (T : List (Bl × Nat)) (a : Nat) : ∀ (f : Nat) (t : Bl) (o : Nat),Nm t -> (packN T a f t o).1.length<=t.length
 | 0,_,_,_=>aH _
 | f + 1,t,o,h=>by
  unfold packN
  have hp:=h.pos
  by_cases hc : (t.getD 0 0).toNat = 0
  ·simp only [hc,if_true];exact hp
  simp only [hc,if_false]
  cases h with
  | root=>exact ab rfl hc
  | lab c x r h1 h2 hx hr =>
   have hrp:=hr.pos
   cases hl : lookT T (c :: (x++r)) with
   | some k=>simp;omega
   | none =>
    have e : (c :: (x++r)).drop (((c :: (x++r)).getD 0 0).toNat + 1) = r:=by
     show (c :: (x++r)).drop (c.toNat + 1) = r
     rw [List.drop_succ_cons,<- hx,List.drop_left]
    simp only [e]
    have ih:=zKk T a f r (o + ((c :: (x++r)).getD 0 0).toNat + 1) hr
    have e2 : ((c :: (x++r)).getD 0 0).toNat = c.toNat:=rfl
    simp only [aB,aU,aC,e2] at ih ⊢
    omega
theorem wrN_le (a : Int) {T : List (Bl × Nat)} : ∀ (ps : List (Bs × Bool)) (out : Bl) (F : List (Bl × Nat)) (en : Nat),(wrN a T ps out F en).2.1.length<=out.length + sumL ps
 | [],_,_,_=>by simp [wrN,sumL]
 | (s,false) :: ps,out,F,en=>by
  unfold wrN
  have h:=wrN_le a (T:=T) ps (out++s) F en
  simp only [sumL,List.flatMap_cons,aB] at h ⊢;omega
 | (s,true) :: ps,out,F,en=>by
  unfold wrN
  simp only []
  split
  ·exact aH _
  rename_i he
  obtain ⟨_,_,p4,p5⟩:=zHh (Decidable.not_not.1 he)
  have eb : bs (mkS s) = s:=by simp [bs,mkS]
  rw [eb] at p4 p5
  have l1:=zKk (T++F) (IntKind.i64.wrap (a + (out.length : Int))).toNat s.length s 0 ((zCf s).1 p4).1
  have h:=wrN_le a (T:=T) ps (out++(packN (T++F) (IntKind.i64.wrap (a + (out.length : Int))).toNat s.length s 0).1) (F++(packN (T++F) (IntKind.i64.wrap (a + (out.length : Int))).toNat s.length s 0).2) ((IntKind.i64.wrap (a + (out.length : Int))).toNat + (packN (T++F) (IntKind.i64.wrap (a + (out.length : Int))).toNat s.length s 0).1.length)
  simp only [sumL,List.flatMap_cons,aB] at h l1 ⊢;omega
theorem wrD_le {en : Nat} {T : List (Bl × Nat)} {a t : Int} {l : Bs} : (wrD en T a t l).2.1.length<=l.length:=by
 unfold wrD
 split
 ·exact aH _
 rename_i h
 have h2:=(zLt (Decidable.not_not.1 h)).2.1
 have := wrN_le a (T:=T) (pcsD t l) [] [] en
 simp only [List.length_nil,aS] at this
 omega
def askD (en : Nat) (T : List (Bl × Nat)) (a : Int) (n : ByteArray) (t c : Int) : Int × Bl × List (Bl × Nat) × Nat :=
 if (labels (bs n)).2 ≠ 0 then ((labels (bs n)).2,[],[],en)
 else if numB t 65535&&numB c 65535 then
  (if pnE en a n ≠ 0 then (pnE en a n,[],[],en)
   else let r:=packN T a.toNat (bs n).length (bs n) 0
    (0,r.1++by2 t.toNat++by2 c.toNat,r.2,a.toNat + r.1.length))
 else (5,[],[],en)
def recD (en : Nat) (T : List (Bl × Nat)) (a : Int) (x : RcX) : Int × Bl × List (Bl × Nat) × Nat :=
 if recC x ≠ 0 then (recC x,[],[],en)
 else let A:=askD en T a x.n x.t x.c
  if A.1 ≠ 0 then (A.1,[],[],en)
  else let out:=A.2.1++by4 x.ttl.toNat
   let D:=wrD A.2.2.2 (T++A.2.2.1) ((a.toNat + out.length + 2 : Nat) : Int) x.t (bs x.d)
   if D.1 ≠ 0 then (D.1,[],A.2.2.1++D.2.2.1,D.2.2.2) else (0,out++by2 D.2.1.length++D.2.1,A.2.2.1++D.2.2.1,D.2.2.2)
theorem zQk {en : Nat} {T : List (Bl × Nat)} {a : Int} {n : ByteArray} {t c : Int} (h : goodT T) : goodT (T++(askD en T a n t c).2.2.1):=by
 unfold askD
 split
 ·simpa using h
 split
 ·split
  ·simpa using h
  exact zEf h _ _ _ _
 simpa using h
theorem recD_good {en : Nat} {T : List (Bl × Nat)} {a : Int} {x : RcX} (h : goodT T) : goodT (T++(recD en T a x).2.2.1):=by
 unfold recD
 split
 ·simpa using h
 simp only []
 split
 ·simpa using h
 have h1 : goodT (T++(askD en T a x.n x.t x.c).2.2.1):=zQk h
 split
 ·show goodT (T++(_++_));rw [<- aN];exact zXc h1
 show goodT (T++(_++_));rw [<- aN];exact zXc h1
structure RR where
 s : Bl
 next : Int
 e : Int
 pos : Int
def rrV (r : RR) : Value:=.tuple #[str r.s,.int .i64 r.next,.agg #[.int .i64 r.e,.int .i64 r.pos]]
theorem rrV_plain (r : RR) : plainV 8 (rrV r) = true:=rfl
def cB (B : Bl) (i : Nat) : Nat:=(B.getD i 0).toNat
def toB (B : Bl) (i : Nat) : Nat:=256 * (cB B i - 192) + cB B (i + 1)
inductive Rd (B : Bl) (a : Nat) : Nat -> Nat -> Bl -> Int -> RR -> Prop
 | over {p i : Nat} {out : Bl} {bh : Int} (h : B.length<=i) : Rd B a p i out bh ⟨[],0,4,B.length⟩
 | zero {p i : Nat} {out : Bl} {bh : Int} (h : i < B.length) (hc : cB B i = 0) : Rd B a p i out bh ⟨out++[0],if bh < 0 then (i : Int) + 1 else bh,0,0⟩
 | pshort {p i : Nat} {out : Bl} {bh : Int} (h : i < B.length) (hc : 192<=cB B i) (h2 : B.length < i + 2) : Rd B a p i out bh ⟨[],0,4,B.length⟩
 | ploop {p i : Nat} {out : Bl} {bh : Int} (h : i < B.length) (hc : 192<=cB B i) (h2 : i + 2<=B.length) (h3 : p<=toB B i) : Rd B a p i out bh ⟨[],0,150,i⟩
 | ptr {p i : Nat} {out : Bl} {bh : Int} {r : RR} (h : i < B.length) (hc : 192<=cB B i) (h2 : i + 2<=B.length) (h3 : toB B i < p) (hr : Rd B a (toB B i) (toB B i) out (if bh < 0 then (i : Int) + 2 else bh) r) : Rd B a p i out bh r
 | bad {p i : Nat} {out : Bl} {bh : Int} (h : i < B.length) (hc : 63 < cB B i) (hc2 : cB B i < 192) : Rd B a p i out bh ⟨[],0,4,i⟩
 | short {p i : Nat} {out : Bl} {bh : Int} (h : i < B.length) (hc : 0 < cB B i) (hc2 : cB B i<=63) (h2 : B.length < i + (cB B i + 1)) : Rd B a p i out bh ⟨[],0,4,B.length⟩
 | long {p i : Nat} {out : Bl} {bh : Int} (h : i < B.length) (hc : 0 < cB B i) (hc2 : cB B i<=63) (h2 : i + (cB B i + 1)<=B.length) (h3 : 254 < out.length + (cB B i + 1)) : Rd B a p i out bh ⟨[],0,3,a⟩
 | lab {p i : Nat} {out : Bl} {bh : Int} {r : RR} (h : i < B.length) (hc : 0 < cB B i) (hc2 : cB B i<=63) (h2 : i + (cB B i + 1)<=B.length) (h3 : out.length + (cB B i + 1)<=254) (hr : Rd B a p (i + (cB B i + 1)) (out++(B.drop i).take (cB B i + 1)) bh r) : Rd B a p i out bh r
theorem Rd.det {B : Bl} {a : Nat} {p i : Nat} {out : Bl} {bh : Int} {r r' : RR} (h : Rd B a p i out bh r) (k : Rd B a p i out bh r') : r = r':=by
 induction h generalizing r' with
 | ptr h hc h2 h3 hr ih=>cases k <;> first | exact ih (by assumption) | (exfalso;omega)
 | lab h hc hc2 h2 h3 hr ih=>cases k <;> first | exact ih (by assumption) | (exfalso;omega)
 | _=>cases k <;> first | rfl | (exfalso;omega)
def rdOk (B : Bl) (x : Int) (r : RR) : Prop:=(x < 0 \/ (B.length : Int) < x) /\ r = ⟨[],0,5,0⟩ \/ ∃ a : Nat,x = (a : Int) /\ a<=B.length /\ Rd B a a a [] (-1) r
theorem zAr {B : Bl} {x : Int} {r r' : RR} (h : rdOk B x r) (k : rdOk B x r') : r = r':=by
 rcases h with ⟨h1,rfl⟩ | ⟨a,rfl,h2,h3⟩ <;> rcases k with ⟨k1,rfl⟩ | ⟨b,k0,k2,k3⟩
 ·rfl
 ·omega
 ·omega
 have : a = b:=by omega
 subst this
 exact h3.det k3
theorem cB_lt (B : Bl) (i : Nat) : cB B i < 256:=UInt8.toNat_lt _
theorem and_low (N : Nat) (h : N < 65536) : bitsI .and .i64 (N : Int) 16383 = ((N % 16384 : Nat) : Int):=by
 unfold bitsI
 simp only []
 have e : (BitVec.ofInt IntKind.i64.bits (N : Int) &&& BitVec.ofInt IntKind.i64.bits 16383).toNat = N % 16384:=by
  rw [BitVec.toNat_and,bvN _ (by omega),show (BitVec.ofInt IntKind.i64.bits 16383).toNat = 2 ^ 14 - 1 from rfl,Nat.and_two_pow_sub_one_eq_mod]
 rw [e,wrapM (by omega) (by omega)]
theorem two_eq (B : Bl) (i : Nat) (h : i + 2<=B.length) (hc : 192<=cB B i) : bitsI .and .i64 (beN ((B.drop i).take 2) : Int) 16383 = (toB B i : Int):=by
 have e : (B.drop i).take 2 = [B.getD i 0,B.getD (i + 1) 0]:=by
  have g1 : B.getD i 0 = B[i]'(by omega):=by simp [List.getD_eq_getElem?_getD,gG (show i < B.length by omega)]
  have g2 : B.getD (i + 1) 0 = B[i + 1]'(by omega):=by simp [List.getD_eq_getElem?_getD,gG (show i + 1 < B.length by omega)]
  rw [g1,g2,bD (show i < B.length by omega),List.take_succ_cons,bD (show i + 1 < B.length by omega),List.take_succ_cons,List.take_zero]
 have h1:=cB_lt B i
 have h2:=cB_lt B (i + 1)
 have e2 : beN [B.getD i 0,B.getD (i + 1) 0] = 256 * cB B i + cB B (i + 1):=by
  show (0 * 256 + cB B i) * 256 + cB B (i + 1) = _;omega
 rw [e,e2,and_low _ (by omega)]
 unfold toB
 congr 1;omega
def wrS (o n c : Nat) (l : Bl) (a : Nat) (x : Nat × Nat × Bl × Int) (f : Nat -> Option Value) : Fs :=
 match x with
 | (p,i,out,bh) =>
  match out with
  | []=>⟨slots 7 [(0,.slice (some ⟨0,o,none⟩) n c),(1,.int .i64 a),(6,.pointer (some ⟨1,0,none⟩)),(7,.slice none 0 0),(8,.int .i64 p),(9,.int .i64 i),(10,.int .i64 bh)] f,
    heap 2 [(0,.win (l.map byV) 1),(1,.cells [.int .i64 0,.int .i64 0] 53)],2,[],[]⟩
  | u :: us=>⟨slots 7 [(0,.slice (some ⟨0,o,none⟩) n c),(1,.int .i64 a),(6,.pointer (some ⟨1,0,none⟩)),(7,.slice (some ⟨2,0,none⟩) (us.length + 1) U),(8,.int .i64 p),(9,.int .i64 i),(10,.int .i64 bh)] f,
    heap 3 [(0,.win (l.map byV) 1),(1,.cells [.int .i64 0,.int .i64 0] 53),(2,.cells ((u :: us).map byV) 5)],3,[],[]⟩
def muR (n : Nat) (x : Nat × Nat × Bl × Int) : Nat:=x.1 * (n + 2) + (n + 1 - x.2.1)
inductive Nw (B : Bl) : Nat -> Nat -> Bl -> Nat -> Prop
 | zero {p i : Nat} (h : i < B.length) (hc : cB B i = 0) : Nw B p i [0] (i + 1)
 | lab {p i : Nat} {c : UInt8} {x r : Bl} {e : Nat} (h1 : c ≠ 0) (h2 : c.toNat<=63) (hx : x.length = c.toNat) (h : i + (x.length + 1)<=B.length) (hb : (B.drop i).take (x.length + 1) = c :: x) (hr : Nw B p (i + (x.length + 1)) r e) : Nw B p i (c :: (x++r)) e
 | ptr {p i k : Nat} {s : Bl} {e : Nat} (h : i + 2<=B.length) (hc : 192<=cB B i) (hk : toB B i = k) (hp : k < p) (hr : Nw B k k s e) : Nw B p i s (i + 2)
theorem Nw.mono {B : Bl} {p q i : Nat} {s : Bl} {e : Nat} (h : Nw B p i s e) (hq : p<=q) : Nw B q i s e:=by
 induction h with
 | zero h hc=>exact .zero h hc
 | lab h1 h2 hx h hb hr ih=>exact .lab h1 h2 hx h hb (ih hq)
 | ptr h hc hk hp hr ih=>exact .ptr h hc hk (by omega) hr
theorem Nw.pos {B : Bl} {p i : Nat} {s : Bl} {e : Nat} (h : Nw B p i s e) : 1<=s.length:=by
 induction h with
 | zero=>simp
 | lab=>simp
 | ptr _ _ _ _ _ ih=>exact ih
theorem Nw.rd {B : Bl} {a p i : Nat} {s : Bl} {e : Nat} (h : Nw B p i s e) : ∀ (out : Bl) (bh : Int),out.length + s.length<=255 -> Rd B a p i out bh ⟨out++s,if bh < 0 then (e : Int) else bh,0,0⟩:=by
 induction h with
 | zero h hc=>intro out bh _;exact .zero h hc
 | @lab p i c x r e h1 h2 hx h hb hr ih =>
  intro out bh hl
  have hpos:=hr.pos
  simp only [aC,aB] at hl
  have hB : cB B i = c.toNat:=by
   unfold cB
   have : (B.drop i).getD 0 0 = c:=by
    have h0 : ((B.drop i).take (x.length + 1)).getD 0 0 = c:=by rw [hb];rfl
    rw [List.getD_eq_getElem?_getD,List.getElem?_take_of_lt (by omega),<- List.getD_eq_getElem?_getD] at h0;exact h0
   rw [List.getD_eq_getElem?_getD,List.getElem?_drop,Nat.add_zero,<- List.getD_eq_getElem?_getD] at this
   rw [this]
  have hc0 : 0 < c.toNat:=by
   rcases Nat.eq_zero_or_pos c.toNat with h0 | h0
   ·exact ab (UInt8.toNat_inj.1 (h0.trans rfl)) h1
   exact h0
  have e1 : cB B i + 1 = x.length + 1:=by rw [hB,hx]
  refine .lab (by omega) (by omega) (by omega) (by omega) (by omega) ?_
  rw [e1,hb]
  have := ih (out++c :: x) bh (by simp;omega)
  rw [show out++c :: (x++r) = (out++c :: x)++r by simp]
  exact this
 | @ptr p i k s e h hc hk hp hr ih =>
  intro out bh hl
  refine .ptr (by omega) hc h (by omega) ?_
  rw [hk]
  have := ih out (if bh < 0 then (i : Int) + 2 else bh) hl
  by_cases hb : bh < 0
  ·rw [if_pos hb] at this ⊢
   rw [if_neg (by omega)] at this
   rw [if_pos hb]
   exact this
  rw [if_neg hb] at this ⊢
  rw [if_neg hb] at this
  rw [if_neg hb]
  exact this
def knowsN (B : Bl) (T : List (Bl × Nat)) (a : Nat) : Prop:=∀ t k,(t,k) ∈ T -> k < a /\ k < 16384 /\ ∃ e,Nw B k k t e
theorem knowsN.mono {B : Bl} {T : List (Bl × Nat)} {a b : Nat} (h : knowsN B T a) (hab : a<=b) : knowsN B T b:=fun t k hm=>let ⟨h1,h2,e,h3⟩:=h t k hm;⟨by omega,h2,e,h3⟩
theorem zWd {s : Bl} {k : Nat} : ∀ {T : List (Bl × Nat)},lookT T s = some k -> (s,k) ∈ T
 | [],h=>by cases h
 | (t,j) :: T,h=>by
  unfold lookT at h
  by_cases e : s = t
  ·rw [if_pos e] at h;cases h;subst e;exact List.mem_cons_self ..
  rw [if_neg e] at h;exact List.mem_cons_of_mem _ (zWd h)
theorem zIk {B o : Bl} {i k : Nat} (h : (B.drop i).take o.length = o) (hk : k<=o.length) : (B.drop (i + k)).take (o.length - k) = o.drop k:=by
 rw [<- List.drop_drop,<- List.drop_take,h]
theorem zPq {B : Bl} {T : List (Bl × Nat)} {a : Nat} (hT : knowsN B T a) : ∀ (f : Nat) (t : Bl) (o : Nat),Nm t -> t.length<=f -> a + o + (packN T a f t o).1.length<=B.length -> (B.drop (a + o)).take (packN T a f t o).1.length = (packN T a f t o).1 ->
  Nw B a (a + o) t (a + o + (packN T a f t o).1.length) /\ ∀ s k,(s,k) ∈ (packN T a f t o).2 -> a<=k /\ k < a + o + (packN T a f t o).1.length /\ k < 16384 /\ ∃ e,Nw B k k s e
 | 0,t,o,hm,hl,_,_=>ab hm.pos (by omega)
 | f + 1,t,o,hm,hl,hB,hb=>by
  cases hm with
  | root =>
   have e : packN T a (f + 1) [0] o = ([0],[]):=by unfold packN;simp
   rw [e] at hB hb ⊢
   refine ⟨.zero (by simp at hB;omega) ?_,fun s k h=>by cases h⟩
   unfold cB
   have : ((B.drop (a + o)).take 1).getD 0 0 = 0:=by
    have hb : (B.drop (a + o)).take 1 = [0]:=hb
    rw [hb];rfl
   rw [List.getD_eq_getElem?_getD,List.getElem?_take_of_lt (by omega),List.getElem?_drop,Nat.add_zero,<- List.getD_eq_getElem?_getD] at this
   rw [this];rfl
  | lab c x r h1 h2 hx hr =>
   have hne : ¬ c.toNat = 0:=by omega
   have hc0 : c ≠ 0:=fun e=>by subst e;simp at h1
   have e0 : ((c :: (x++r)).getD 0 0).toNat = c.toNat:=rfl
   have edrop : (c :: (x++r)).drop (c.toNat + 1) = r:=by rw [List.drop_succ_cons,<- hx,List.drop_left]
   have etake : (c :: (x++r)).take (c.toNat + 1) = c :: x:=by rw [List.take_succ_cons,<- hx,List.take_left]
   cases hk : lookT T (c :: (x++r)) with
   | some k =>
    obtain ⟨k1,k2,e,k3⟩:=hT _ _ (zWd hk)
    have ep : packN T a (f + 1) (c :: (x++r)) o = ([UInt8.ofNat (192 + k / 256),UInt8.ofNat (k % 256)],[]):=by
     unfold packN;simp only [e0,hne,if_false,hk]
    rw [ep] at hB hb ⊢
    have hB : a + o + 2<=B.length:=hB
    have hb : (B.drop (a + o)).take 2 = [UInt8.ofNat (192 + k / 256),UInt8.ofNat (k % 256)]:=hb
    have g0 : cB B (a + o) = 192 + k / 256:=by
     have : ((B.drop (a + o)).take 2).getD 0 0 = UInt8.ofNat (192 + k / 256):=by rw [hb];rfl
     rw [List.getD_eq_getElem?_getD,List.getElem?_take_of_lt (by omega),List.getElem?_drop,Nat.add_zero,<- List.getD_eq_getElem?_getD] at this
     unfold cB;rw [this];simp;omega
    have g1 : cB B (a + o + 1) = k % 256:=by
     have : ((B.drop (a + o)).take 2).getD 1 0 = UInt8.ofNat (k % 256):=by rw [hb];rfl
     rw [List.getD_eq_getElem?_getD,List.getElem?_take_of_lt (by omega),List.getElem?_drop,<- List.getD_eq_getElem?_getD] at this
     unfold cB;rw [this];simp
    refine ⟨.ptr hB (by omega) (k:=k) ?_ k1 k3,fun s k h=>by cases h⟩
    unfold toB;rw [g0,g1];omega
   | none =>
    obtain ⟨R,hR⟩ : ∃ R,packN T a f r (o + c.toNat + 1) = R:=⟨_,rfl⟩
    have ep : packN T a (f + 1) (c :: (x++r)) o = (c :: x++R.1,if a + o < 16384 then (c :: (x++r),a + o) :: R.2 else R.2):=by
     unfold packN;simp only [e0,hne,if_false,hk,edrop,etake,hR]
    rw [ep] at hB hb ⊢
    have hlen : (c :: x++R.1).length = c.toNat + 1 + R.1.length:=by simp;omega
    have hB : a + o + (c :: x++R.1).length<=B.length:=hB
    have hb : (B.drop (a + o)).take (c :: x++R.1).length = c :: x++R.1:=hb
    rw [hlen] at hB
    simp only [aC,aB] at hl
    have hb2 : (B.drop (a + (o + c.toNat + 1))).take R.1.length = R.1:=by
     have := zIk (B:=B) (i:=a + o) (k:=c.toNat + 1) hb (by omega)
     rw [hlen,show c.toNat + 1 + R.1.length - (c.toNat + 1) = R.1.length by omega,show a + o + (c.toNat + 1) = a + (o + c.toNat + 1) by omega,<- hx] at this
     rw [<- hx,this]
     show List.drop (x.length + 1) (c :: (x++R.1)) = R.1
     rw [List.drop_succ_cons,List.drop_left]
    have hb1 : (B.drop (a + o)).take (x.length + 1) = c :: x:=by
     have := congrArg (List.take (x.length + 1)) hb
     rw [List.take_take,Nat.min_eq_left (by rw [hlen];omega)] at this
     rw [this]
     show List.take (x.length + 1) (c :: (x++R.1)) = c :: x
     rw [List.take_succ_cons,List.take_left]
    obtain ⟨ih1,ih2⟩:=zPq hT f r (o + c.toNat + 1) hr (by omega) (by rw [hR];omega) (by rw [hR];exact hb2)
    rw [hR] at ih1 ih2
    have hN : Nw B a (a + o) (c :: (x++r)) (a + o + (c :: x++R.1).length):=by
     refine .lab hc0 h2 hx (by omega) hb1 ?_
     rw [hlen,hx,show a + o + (c.toNat + 1) = a + (o + c.toNat + 1) by omega,show a + o + (c.toNat + 1 + R.1.length) = a + (o + c.toNat + 1) + R.1.length by omega];exact ih1
    have hF : ∀ s k,(s,k) ∈ R.2 -> a<=k /\ k < a + o + (c :: x++R.1).length /\ k < 16384 /\ ∃ e,Nw B k k s e:=fun s k h=>by
     obtain ⟨q1,q2,q3⟩:=ih2 s k h
     exact ⟨q1,by rw [hlen];omega,q3⟩
    refine ⟨hN,fun s k h=>?_⟩
    by_cases hlt : a + o < 16384
    ·have h : (s,k) ∈ (c :: (x++r),a + o) :: R.2:=by rw [if_pos hlt] at h;exact h
     rcases aK.1 h with e | h
     ·cases e
      exact ⟨by omega,by rw [hlen];omega,hlt,_,hN.mono (by omega)⟩
     exact hF s k h
    have h : (s,k) ∈ R.2:=by rw [if_neg hlt] at h;exact h
    exact hF s k h
theorem lenB {l : Bl} {o n : Nat} (h : o + n<=l.length) : ((l.drop o).take n).length = n:=by rw [aU,aM];omega
theorem cellB {l : Bl} {o n i : Nat} (h : o + n<=l.length) (hi : i < n) : (l.map byV)[o + i * 1]? = some (.int .u8 (cB ((l.drop o).take n) i : Int)):=by
 have h1 : o + i < l.length:=by omega
 have e : ((l.drop o).take n).getD i 0 = l[o + i]:=by
  rw [List.getD_eq_getElem?_getD,List.getElem?_take_of_lt hi,List.getElem?_drop,gG h1];rfl
 unfold cB
 rw [e,aR]
 simp [gG h1,byV]
theorem takeB {l : Bl} {o n i k : Nat} (hi : i + k<=n) : (l.drop (o + i)).take k = ((((l.drop o).take n)).drop i).take k:=by
 rw [List.drop_take,List.take_take,List.drop_drop,Nat.min_eq_left (by omega)]
noncomputable def tbW3 : Tb Try.prog 0:=tbOf mixed [zVl,zOm]
theorem read_loop (l : Bl) (o n c a : Nat) (h : o + n<=l.length) (hn : n<=1000000000) (hcap : c = U \/ n<=c /\ c<=9223372036854775807) (ha : a<=n) {s0 : Fs} {K : Ex -> Fs -> Prop}
  (h0 : ∃ f,RcM Try.prog 0 1 (2 + (Try.f86.ntmps - 2)) none s0 (wrS o n c l a (a,a,[],-1) f))
  (hret : ∀ e pos f,Rd ((l.drop o).take n) a a a [] (-1) ⟨[],0,e,pos⟩ -> K .ret ⟨slots 7 [(4,.string ⟨#[]⟩),(5,.int .i64 0),(6,.pointer (some ⟨1,0,none⟩))] f,heap 2 [(1,.cells [.int .i64 e,.int .i64 pos] 53)],2,[],[]⟩)
  (hex0 : ∀ bh f,Rd ((l.drop o).take n) a a a [] (-1) ⟨[0],bh,0,0⟩ -> K (.exit 0) ⟨slots 7 [(6,.pointer (some ⟨1,0,none⟩)),(7,.slice none 0 0),(10,.int .i64 bh)] f,heap 2 [(1,.cells [.int .i64 0,.int .i64 0] 53)],2,[],[]⟩)
  (hex1 : ∀ u us bh f,(u :: us).length<=254 -> Rd ((l.drop o).take n) a a a [] (-1) ⟨(u :: us)++[0],bh,0,0⟩ -> K (.exit 0) ⟨slots 7 [(6,.pointer (some ⟨1,0,none⟩)),(7,.slice (some ⟨2,0,none⟩) (us.length + 1) U),(10,.int .i64 bh)] f,heap 3 [(1,.cells [.int .i64 0,.int .i64 0] 53),(2,.cells ((u :: us).map byV) 5)],3,[],[]⟩) :
  LW Try.prog 0 1 (2 + (Try.f86.ntmps - 2)) none (loopAt Try.f86 0) s0 K:=by
 obtain ⟨B,hB⟩ : ∃ B,B = (l.drop o).take n:=⟨_,rfl⟩
 have hlB : B.length = n:=by rw [hB];exact lenB h
 have hcell : ∀ i,i < n -> (l.map byV)[o + i * 1]? = some (.int .u8 (cB B i : Int)):=fun i hi=>by rw [hB];exact cellB h hi
 have htake : ∀ i k,i + k<=n -> (l.drop (o + i)).take k = (B.drop i).take k:=fun i k hik=>by rw [hB];exact takeB hik
 rw [<- hB] at hret hex0 hex1
 refine zAp (wrS o n c l a) (muR n) (fun x=>x.1<=n /\ x.2.1<=n /\ x.2.2.1.length<=254 /\ (-1<=x.2.2.2 /\ x.2.2.2<=n) /\ ∀ r,Rd B a x.1 x.2.1 x.2.2.1 x.2.2.2 r -> Rd B a a a [] (-1) r) (a,a,[],-1) ⟨ha,ha,by simp,⟨by simp,by show (-1 : Int)<=n;omega⟩,fun r hr=>hr⟩ h0 ?_
 rintro ⟨p,i,out,bh⟩ f ⟨hp,hi,hout,⟨hb1,hb2⟩,hinv⟩
 have hp : p<=n:=hp
 have hi : i<=n:=hi
 have hout : out.length<=254:=hout
 have hb1 : -1<=bh:=hb1
 have hb2 : bh<=n:=hb2
 have hinv : ∀ r,Rd B a p i out bh r -> Rd B a a a [] (-1) r:=hinv
 have hb:=cB_lt B i
 have hsz0 : (Try.prog.types[53]).size = 2:=by kernel_rfl
 have h1s : (Try.prog.types[5]).size = 1:=by kernel_rfl
 have hby : (Try.prog.types[5]).bytes = 1:=by kernel_rfl
 have hsz : 0 + (Try.prog.types[53]).size<=2:=by rw [hsz0];decide
 cases out with
 | nil =>
  refine zAq tbW3 [0,2] 1 _ none mixed _ _ _ ?_
  refine ifK (fun h1=>?_) (fun h1=>?_)
  ·have h1 : n<=i:=by have := oT h1;omega
   refine aI rfl (zAh (rcq [1] (d:=7) (d2:=2) (lv:=[(4,.string ⟨#[]⟩),(5,.int .i64 0),(6,.pointer (some ⟨1,0,none⟩))]) (bs:=[(1,.cells [.int .i64 (4),.int .i64 ((n : Int))] 53)]) (W:=[]) (m:=2) (df:=[]) ⟨⟨_,rfl,.string _⟩,(sI rfl),(sP rfl rfl),tv⟩ ⟨bpo rfl,tv⟩ .nil) (fun f=>hret (4) ((n : Int)) f (hinv _ ?_)))
   rw [<- hlB];exact .over (by omega)
  have h1 : i < n:=by have := oF h1;omega
  refine ifK (fun _=>?_) (fun h2=>ab h2 (by simp [inI];omega))
  refine eI (cB B i : Int) (aI (by rw [aO];exact hcell i h1) ?_)
  have ec : IntKind.i64.wrap (cB B i : Int) = (cB B i : Int):=wrapM (by omega) (by omega)
  refine ifK (fun h2=>?_) (fun h2=>?_)
  ·have h2 : cB B i = 0:=by rw [ec] at h2;have h9 : (cB B i : Int) = 0:=(by simpa using h2);omega
   have hz:=hinv _ (Rd.zero (B:=B) (a:=a) (p:=p) (i:=i) (out:=[]) (bh:=bh) (by omega) h2)
   refine ifK (fun h3=>?_) (fun h3=>?_)
   ·have h3 : bh < 0:=oT h3
    rw [if_pos h3] at hz
    rw [show (i : Int) + 1 = IntKind.i64.wrap ((i : Int) + 1) by rw [wrapM (by omega) (by omega)]] at hz
    exact aI rfl (zAh (rcq [1] (d:=7) (d2:=2) (lv:=[(6,.pointer (some ⟨1,0,none⟩)),(7,.slice none 0 0),(10,.int .i64 (IntKind.i64.wrap ((i : Int) + 1)))]) (bs:=[(1,.cells [.int .i64 0,.int .i64 0] 53)]) (W:=[]) (m:=2) (df:=[]) ⟨(sP rfl rfl),⟨_,rfl,zAu 8 rfl⟩,(sI rfl),tv⟩ ⟨bpo rfl,tv⟩ .nil) (fun f=>hex0 _ f hz))
   have h3 : ¬ bh < 0:=oF h3
   rw [if_neg h3] at hz
   exact aI rfl (zAh (rcq [1] (d:=7) (d2:=2) (lv:=[(6,.pointer (some ⟨1,0,none⟩)),(7,.slice none 0 0),(10,.int .i64 (bh))]) (bs:=[(1,.cells [.int .i64 0,.int .i64 0] 53)]) (W:=[]) (m:=2) (df:=[]) ⟨(sP rfl rfl),⟨_,rfl,zAu 8 rfl⟩,(sI rfl),tv⟩ ⟨bpo rfl,tv⟩ .nil) (fun f=>hex0 _ f hz))
  have h2 : 0 < cB B i:=by rw [ec] at h2;have h9 : (cB B i : Int) ≠ 0:=(by simpa using h2);omega
  refine ifK (fun h3=>?_) (fun h3=>?_)
  ·have h3 : 192<=cB B i:=by rw [ec] at h3;have := oT h3;omega
   refine eI (⟨0,o,n,c,l⟩,(i : Int)) (aI ⟨rfl,⟨rfl,h⟩,hn⟩ ?_)
   refine ifK (fun h4=>ab h4 (by simp;omega)) (fun _=>?_)
   refine ifK (fun h4=>?_) (fun h4=>?_)
   ·have h4 : i + 2<=n:=aE (show Nat.ble (i + 2) n = true from h4)
    refine eI (0 : Int) (aI rfl ?_)
    have et : bitsI .and .i64 (beN ((l.drop (o + ((i : Nat) : Int).toNat)).take 2) : Int) 16383 = (toB B i : Int):=by rw [aO,htake i 2 h4,two_eq B i (by omega) h3]
    refine ifK (fun h5=>?_) (fun h5=>?_)
    ·have h5 : p<=toB B i:=by have := oT h5;rw [et] at this;omega
     refine aI rfl (zAh (rcq [1] (d:=7) (d2:=2) (lv:=[(4,.string ⟨#[]⟩),(5,.int .i64 0),(6,.pointer (some ⟨1,0,none⟩))]) (bs:=[(1,.cells [.int .i64 (150),.int .i64 ((i : Int))] 53)]) (W:=[]) (m:=2) (df:=[]) ⟨⟨_,rfl,.string _⟩,(sI rfl),(sP rfl rfl),tv⟩ ⟨bpo rfl,tv⟩ .nil) (fun f=>hret (150) ((i : Int)) f (hinv _ ?_)))
     exact .ploop (by omega) h3 (by omega) h5
    have h5 : toB B i < p:=by have := oF h5;rw [et] at this;omega
    have hst : ∀ r,Rd B a (toB B i) (toB B i) [] (if bh < 0 then (i : Int) + 2 else bh) r -> Rd B a a a [] (-1) r:=fun r hr=>hinv r (.ptr (by omega) h3 (by omega) h5 hr)
    have hmu : (toB B i) * (n + 2) + (n + 1 - toB B i) < p * (n + 2) + (n + 1 - i):=by
     have := Nat.mul_le_mul_right (n + 2) (show toB B i + 1<=p from h5)
     rw [Nat.add_mul,Nat.one_mul] at this;omega
    refine ifK (fun h6=>?_) (fun h6=>?_)
    ·have h6 : bh < 0:=oT h6
     simp only [if_pos h6] at hst
     refine ⟨(toB B i,toB B i,[],((i + 2 : Nat) : Int)),⟨by show toB B i<=n;omega,by show toB B i<=n;omega,hout,⟨by show -1<=((i + 2 : Nat) : Int);omega,by show ((i + 2 : Nat) : Int)<=_;omega⟩,fun r hr=>hst r (by have e : ((i + 2 : Nat) : Int) = (i : Int) + 2:=(by omega);rw [<- e];exact hr)⟩,hmu,?_⟩
     exact rcq [1] ⟨(sL rfl rfl),(sI rfl),(sP rfl rfl),⟨_,rfl,zAu 8 rfl⟩,⟨_,rfl,by rw [<- et];exact .int _ _⟩,⟨_,rfl,by rw [<- et];exact .int _ _⟩,(sI rfl),tv⟩ ⟨bpo (zAc _),bpo rfl,tv⟩ .nil
    have h6 : ¬ bh < 0:=oF h6
    simp only [if_neg h6] at hst
    refine ⟨(toB B i,toB B i,[],bh),⟨by show toB B i<=n;omega,by show toB B i<=n;omega,hout,⟨by show -1<=bh;omega,by show bh<=_;omega⟩,fun r hr=>hst r hr⟩,hmu,?_⟩
    exact rcq [1] ⟨(sL rfl rfl),(sI rfl),(sP rfl rfl),⟨_,rfl,zAu 8 rfl⟩,⟨_,rfl,by rw [<- et];exact .int _ _⟩,⟨_,rfl,by rw [<- et];exact .int _ _⟩,(sI rfl),tv⟩ ⟨bpo (zAc _),bpo rfl,tv⟩ .nil
   have h4 : n < i + 2:=by have h9 : ¬ i + 2<=n:=fun e=>(by have h8:=bL e;have h4 : Nat.ble (i + 2) n = false:=h4;rw [h8] at h4;cases h4);omega
   refine eI (4 : Int) (aI rfl ?_)
   refine aI ?_ ?_
   ·kernel_rfl
   refine eI (4 : Int) (eI (n : Int) (aI ⟨hsz,rfl⟩ ?_))
   refine aI rfl (zAh (rcq [1] (d:=7) (d2:=2) (lv:=[(4,.string ⟨#[]⟩),(5,.int .i64 0),(6,.pointer (some ⟨1,0,none⟩))]) (bs:=[(1,.cells [.int .i64 (4),.int .i64 ((n : Int))] 53)]) (W:=[]) (m:=2) (df:=[]) ⟨⟨_,rfl,.string _⟩,(sI rfl),(sP rfl rfl),tv⟩ ⟨bpo rfl,tv⟩ .nil) (fun f=>hret (4) ((n : Int)) f (hinv _ ?_)))
   rw [<- hlB];exact .pshort (by omega) h3 (by omega)
  have h3 : cB B i < 192:=by rw [ec] at h3;have := oF h3;omega
  refine ifK (fun h4=>?_) (fun h4=>?_)
  ·have h4 : 63 < cB B i:=by rw [ec] at h4;have := oT h4;omega
   refine aI rfl (zAh (rcq [1] (d:=7) (d2:=2) (lv:=[(4,.string ⟨#[]⟩),(5,.int .i64 0),(6,.pointer (some ⟨1,0,none⟩))]) (bs:=[(1,.cells [.int .i64 (4),.int .i64 ((i : Int))] 53)]) (W:=[]) (m:=2) (df:=[]) ⟨⟨_,rfl,.string _⟩,(sI rfl),(sP rfl rfl),tv⟩ ⟨bpo rfl,tv⟩ .nil) (fun f=>hret (4) ((i : Int)) f (hinv _ ?_)))
   exact .bad (by omega) h4 h3
  have h4 : cB B i<=63:=by rw [ec] at h4;have := oF h4;omega
  have ez : IntKind.i64.wrap (IntKind.i64.wrap (cB B i : Int) + 1) = ((cB B i + 1 : Nat) : Int):=by rw [ec,wrapM (by omega) (by omega)];omega
  refine eI (⟨0,o,n,c,l⟩,((i : Int),((cB B i + 1 : Nat) : Int))) (aI ⟨by rw [ez];rfl,⟨rfl,h⟩,hn,hcap⟩ ?_)
  refine ifK (fun h5=>ab h5 (by simp;omega)) (fun _=>?_)
  refine ifK (fun h5=>?_) (fun h5=>?_)
  ·have h5 : n < i + (cB B i + 1):=by have h5 : (n : Int) - (i : Int) < ((cB B i + 1 : Nat) : Int):=(oT h5);omega
   refine eI (4 : Int) (aI rfl ?_)
   refine aI ?_ ?_
   ·kernel_rfl
   refine eI (4 : Int) (eI (n : Int) (aI ⟨hsz,rfl⟩ ?_))
   refine aI rfl (zAh (rcq [1] (d:=7) (d2:=2) (lv:=[(4,.string ⟨#[]⟩),(5,.int .i64 0),(6,.pointer (some ⟨1,0,none⟩))]) (bs:=[(1,.cells [.int .i64 (4),.int .i64 ((n : Int))] 53)]) (W:=[]) (m:=2) (df:=[]) ⟨⟨_,rfl,.string _⟩,(sI rfl),(sP rfl rfl),tv⟩ ⟨bpo rfl,tv⟩ .nil) (fun f=>hret (4) ((n : Int)) f (hinv _ ?_)))
   rw [<- hlB];exact .short (by omega) h2 h4 (by omega)
  have h5 : i + (cB B i + 1)<=n:=by have h5 : ¬ (n : Int) - (i : Int) < ((cB B i + 1 : Nat) : Int):=(oF h5);omega
  have hst : ∀ r,Rd B a p (i + (cB B i + 1)) ([]++(B.drop i).take (cB B i + 1)) bh r -> [].length + (cB B i + 1)<=254 -> Rd B a a a [] (-1) r:=fun r hr hl=>hinv r (.lab (by omega) h2 h4 (by omega) hl hr)
  have htl : ((B.drop i).take (cB B i + 1)).length = cB B i + 1:=by rw [aU,aM];omega
  have hsrc : ∀ G : Gh,G 2 = some (.cells (((l.drop (o + i)).take (cB B i + 1)).map byV) 5) -> zAl G 1 (.slice (some ⟨2,0,none⟩) (cB B i + 1) U) = some (cB B i + 1,((B.drop i).take (cB B i + 1)).map byV):=fun G hG=>by
   unfold zAl
   simp only [hG,Option.bind_some,AObj.look,show (cB B i + 1).beq 0 = false from rfl,cF]
   rw [htake i _ h5,bL (by rw [aT,htl];omega)]
   simp only [cT,List.drop_zero,aR]
   rw [aD (by rw [aT,htl];omega)]
  refine eI (((B.drop i).take (cB B i + 1)).map byV) (aI (by rw [h1s];exact hsrc _ rfl) ?_)
  refine aI (by rw [aO,hby];simp;omega) ?_
  refine ifK (fun h6=>ab (oT h6) (by rw [aO];omega)) (fun _=>?_)
  obtain ⟨u,us,hu⟩ : ∃ u us,(B.drop i).take (cB B i + 1) = u :: us:=by
   cases hq : (B.drop i).take (cB B i + 1) with
   | nil=>rw [hq] at htl;cases htl
   | cons u us=>exact ⟨u,us,rfl⟩
  have hul : us.length + 1 = cB B i + 1:=by rw [<- htl,hu];rfl
  refine ⟨(p,i + (cB B i + 1),u :: us,bh),⟨hp,h5,by show us.length + 1<=254;omega,⟨hb1,hb2⟩,fun r hr=>hst r (by rw [hu];exact hr) (by simp;omega)⟩,?_,?_⟩
  ·show p * (n + 2) + (n + 1 - (i + (cB B i + 1))) < p * (n + 2) + (n + 1 - i);omega
  exact rcq [1,4] ⟨(sL rfl rfl),(sI rfl),(sP rfl rfl),⟨_,rfl,by rw [hul];exact .sl _ _ _ _ _ rfl⟩,(sI rfl),⟨_,rfl,by rw [show ((i + (cB B i + 1) : Nat) : Int) = (i : Int) + ((cB B i + 1 : Nat) : Int) by omega];exact .int _ _⟩,(sI rfl),tv⟩ ⟨bpo (zAc _),bpo rfl,⟨by decide,_,rfl,zAs (by rw [hu]) (zAc _)⟩,tv⟩ .nil
 | cons u us =>
  refine zAq tbW3 [0,3] 1 _ none mixed _ _ _ ?_
  refine ifK (fun h1=>?_) (fun h1=>?_)
  ·have h1 : n<=i:=by have := oT h1;omega
   refine aI rfl (zAh (rcq [1] (d:=7) (d2:=2) (lv:=[(4,.string ⟨#[]⟩),(5,.int .i64 0),(6,.pointer (some ⟨1,0,none⟩))]) (bs:=[(1,.cells [.int .i64 (4),.int .i64 ((n : Int))] 53)]) (W:=[]) (m:=2) (df:=[]) ⟨⟨_,rfl,.string _⟩,(sI rfl),(sP rfl rfl),tv⟩ ⟨bpo rfl,tv⟩ .nil) (fun f=>hret (4) ((n : Int)) f (hinv _ ?_)))
   rw [<- hlB];exact .over (by omega)
  have h1 : i < n:=by have := oF h1;omega
  refine ifK (fun _=>?_) (fun h2=>ab h2 (by simp [inI];omega))
  refine eI (cB B i : Int) (aI (by rw [aO];exact hcell i h1) ?_)
  have ec : IntKind.i64.wrap (cB B i : Int) = (cB B i : Int):=wrapM (by omega) (by omega)
  refine ifK (fun h2=>?_) (fun h2=>?_)
  ·have h2 : cB B i = 0:=by rw [ec] at h2;have h9 : (cB B i : Int) = 0:=(by simpa using h2);omega
   have hz:=hinv _ (Rd.zero (B:=B) (a:=a) (p:=p) (i:=i) (out:=(u :: us)) (bh:=bh) (by omega) h2)
   refine ifK (fun h3=>?_) (fun h3=>?_)
   ·have h3 : bh < 0:=oT h3
    rw [if_pos h3] at hz
    rw [show (i : Int) + 1 = IntKind.i64.wrap ((i : Int) + 1) by rw [wrapM (by omega) (by omega)]] at hz
    exact aI rfl (zAh (rcq [1,2] (d:=7) (d2:=3) (lv:=[(6,.pointer (some ⟨1,0,none⟩)),(7,.slice (some ⟨2,0,none⟩) (us.length + 1) U),(10,.int .i64 (IntKind.i64.wrap ((i : Int) + 1)))]) (bs:=[(1,.cells [.int .i64 0,.int .i64 0] 53),(2,.cells ((u :: us).map byV) 5)]) (W:=[]) (m:=3) (df:=[]) ⟨(sP rfl rfl),(sL rfl rfl),(sI rfl),tv⟩ ⟨bpo rfl,bpo (zAc _),tv⟩ .nil) (fun f=>hex1 _ _ _ f hout hz))
   have h3 : ¬ bh < 0:=oF h3
   rw [if_neg h3] at hz
   exact aI rfl (zAh (rcq [1,2] (d:=7) (d2:=3) (lv:=[(6,.pointer (some ⟨1,0,none⟩)),(7,.slice (some ⟨2,0,none⟩) (us.length + 1) U),(10,.int .i64 (bh))]) (bs:=[(1,.cells [.int .i64 0,.int .i64 0] 53),(2,.cells ((u :: us).map byV) 5)]) (W:=[]) (m:=3) (df:=[]) ⟨(sP rfl rfl),(sL rfl rfl),(sI rfl),tv⟩ ⟨bpo rfl,bpo (zAc _),tv⟩ .nil) (fun f=>hex1 _ _ _ f hout hz))
  have h2 : 0 < cB B i:=by rw [ec] at h2;have h9 : (cB B i : Int) ≠ 0:=(by simpa using h2);omega
  refine ifK (fun h3=>?_) (fun h3=>?_)
  ·have h3 : 192<=cB B i:=by rw [ec] at h3;have := oT h3;omega
   refine eI (⟨0,o,n,c,l⟩,(i : Int)) (aI ⟨rfl,⟨rfl,h⟩,hn⟩ ?_)
   refine ifK (fun h4=>ab h4 (by simp;omega)) (fun _=>?_)
   refine ifK (fun h4=>?_) (fun h4=>?_)
   ·have h4 : i + 2<=n:=aE (show Nat.ble (i + 2) n = true from h4)
    refine eI (0 : Int) (aI rfl ?_)
    have et : bitsI .and .i64 (beN ((l.drop (o + ((i : Nat) : Int).toNat)).take 2) : Int) 16383 = (toB B i : Int):=by rw [aO,htake i 2 h4,two_eq B i (by omega) h3]
    refine ifK (fun h5=>?_) (fun h5=>?_)
    ·have h5 : p<=toB B i:=by have := oT h5;rw [et] at this;omega
     refine aI rfl (zAh (rcq [1] (d:=7) (d2:=2) (lv:=[(4,.string ⟨#[]⟩),(5,.int .i64 0),(6,.pointer (some ⟨1,0,none⟩))]) (bs:=[(1,.cells [.int .i64 (150),.int .i64 ((i : Int))] 53)]) (W:=[]) (m:=2) (df:=[]) ⟨⟨_,rfl,.string _⟩,(sI rfl),(sP rfl rfl),tv⟩ ⟨bpo rfl,tv⟩ .nil) (fun f=>hret (150) ((i : Int)) f (hinv _ ?_)))
     exact .ploop (by omega) h3 (by omega) h5
    have h5 : toB B i < p:=by have := oF h5;rw [et] at this;omega
    have hst : ∀ r,Rd B a (toB B i) (toB B i) (u :: us) (if bh < 0 then (i : Int) + 2 else bh) r -> Rd B a a a [] (-1) r:=fun r hr=>hinv r (.ptr (by omega) h3 (by omega) h5 hr)
    have hmu : (toB B i) * (n + 2) + (n + 1 - toB B i) < p * (n + 2) + (n + 1 - i):=by
     have := Nat.mul_le_mul_right (n + 2) (show toB B i + 1<=p from h5)
     rw [Nat.add_mul,Nat.one_mul] at this;omega
    refine ifK (fun h6=>?_) (fun h6=>?_)
    ·have h6 : bh < 0:=oT h6
     simp only [if_pos h6] at hst
     refine ⟨(toB B i,toB B i,(u :: us),((i + 2 : Nat) : Int)),⟨by show toB B i<=n;omega,by show toB B i<=n;omega,hout,⟨by show -1<=((i + 2 : Nat) : Int);omega,by show ((i + 2 : Nat) : Int)<=_;omega⟩,fun r hr=>hst r (by have e : ((i + 2 : Nat) : Int) = (i : Int) + 2:=(by omega);rw [<- e];exact hr)⟩,hmu,?_⟩
     exact rcq [1,2] ⟨(sL rfl rfl),(sI rfl),(sP rfl rfl),(sL rfl rfl),⟨_,rfl,by rw [<- et];exact .int _ _⟩,⟨_,rfl,by rw [<- et];exact .int _ _⟩,(sI rfl),tv⟩ ⟨bpo (zAc _),bpo rfl,bpo (zAc _),tv⟩ .nil
    have h6 : ¬ bh < 0:=oF h6
    simp only [if_neg h6] at hst
    refine ⟨(toB B i,toB B i,(u :: us),bh),⟨by show toB B i<=n;omega,by show toB B i<=n;omega,hout,⟨by show -1<=bh;omega,by show bh<=_;omega⟩,fun r hr=>hst r hr⟩,hmu,?_⟩
    exact rcq [1,2] ⟨(sL rfl rfl),(sI rfl),(sP rfl rfl),(sL rfl rfl),⟨_,rfl,by rw [<- et];exact .int _ _⟩,⟨_,rfl,by rw [<- et];exact .int _ _⟩,(sI rfl),tv⟩ ⟨bpo (zAc _),bpo rfl,bpo (zAc _),tv⟩ .nil
   have h4 : n < i + 2:=by have h9 : ¬ i + 2<=n:=fun e=>(by have h8:=bL e;have h4 : Nat.ble (i + 2) n = false:=h4;rw [h8] at h4;cases h4);omega
   refine eI (4 : Int) (aI rfl ?_)
   refine aI ?_ ?_
   ·kernel_rfl
   refine eI (4 : Int) (eI (n : Int) (aI ⟨hsz,rfl⟩ ?_))
   refine aI rfl (zAh (rcq [1] (d:=7) (d2:=2) (lv:=[(4,.string ⟨#[]⟩),(5,.int .i64 0),(6,.pointer (some ⟨1,0,none⟩))]) (bs:=[(1,.cells [.int .i64 (4),.int .i64 ((n : Int))] 53)]) (W:=[]) (m:=2) (df:=[]) ⟨⟨_,rfl,.string _⟩,(sI rfl),(sP rfl rfl),tv⟩ ⟨bpo rfl,tv⟩ .nil) (fun f=>hret (4) ((n : Int)) f (hinv _ ?_)))
   rw [<- hlB];exact .pshort (by omega) h3 (by omega)
  have h3 : cB B i < 192:=by rw [ec] at h3;have := oF h3;omega
  refine ifK (fun h4=>?_) (fun h4=>?_)
  ·have h4 : 63 < cB B i:=by rw [ec] at h4;have := oT h4;omega
   refine aI rfl (zAh (rcq [1] (d:=7) (d2:=2) (lv:=[(4,.string ⟨#[]⟩),(5,.int .i64 0),(6,.pointer (some ⟨1,0,none⟩))]) (bs:=[(1,.cells [.int .i64 (4),.int .i64 ((i : Int))] 53)]) (W:=[]) (m:=2) (df:=[]) ⟨⟨_,rfl,.string _⟩,(sI rfl),(sP rfl rfl),tv⟩ ⟨bpo rfl,tv⟩ .nil) (fun f=>hret (4) ((i : Int)) f (hinv _ ?_)))
   exact .bad (by omega) h4 h3
  have h4 : cB B i<=63:=by rw [ec] at h4;have := oF h4;omega
  have ez : IntKind.i64.wrap (IntKind.i64.wrap (cB B i : Int) + 1) = ((cB B i + 1 : Nat) : Int):=by rw [ec,wrapM (by omega) (by omega)];omega
  refine eI (⟨0,o,n,c,l⟩,((i : Int),((cB B i + 1 : Nat) : Int))) (aI ⟨by rw [ez];rfl,⟨rfl,h⟩,hn,hcap⟩ ?_)
  refine ifK (fun h5=>ab h5 (by simp;omega)) (fun _=>?_)
  refine ifK (fun h5=>?_) (fun h5=>?_)
  ·have h5 : n < i + (cB B i + 1):=by have h5 : (n : Int) - (i : Int) < ((cB B i + 1 : Nat) : Int):=(oT h5);omega
   refine eI (4 : Int) (aI rfl ?_)
   refine aI ?_ ?_
   ·kernel_rfl
   refine eI (4 : Int) (eI (n : Int) (aI ⟨hsz,rfl⟩ ?_))
   refine aI rfl (zAh (rcq [1] (d:=7) (d2:=2) (lv:=[(4,.string ⟨#[]⟩),(5,.int .i64 0),(6,.pointer (some ⟨1,0,none⟩))]) (bs:=[(1,.cells [.int .i64 (4),.int .i64 ((n : Int))] 53)]) (W:=[]) (m:=2) (df:=[]) ⟨⟨_,rfl,.string _⟩,(sI rfl),(sP rfl rfl),tv⟩ ⟨bpo rfl,tv⟩ .nil) (fun f=>hret (4) ((n : Int)) f (hinv _ ?_)))
   rw [<- hlB];exact .short (by omega) h2 h4 (by omega)
  have h5 : i + (cB B i + 1)<=n:=by have h5 : ¬ (n : Int) - (i : Int) < ((cB B i + 1 : Nat) : Int):=(oF h5);omega
  have hst : ∀ r,Rd B a p (i + (cB B i + 1)) ((u :: us)++(B.drop i).take (cB B i + 1)) bh r -> (u :: us).length + (cB B i + 1)<=254 -> Rd B a a a [] (-1) r:=fun r hr hl=>hinv r (.lab (by omega) h2 h4 (by omega) hl hr)
  have htl : ((B.drop i).take (cB B i + 1)).length = cB B i + 1:=by rw [aU,aM];omega
  have hsrc : ∀ G : Gh,G 3 = some (.cells (((l.drop (o + i)).take (cB B i + 1)).map byV) 5) -> zAl G 1 (.slice (some ⟨3,0,none⟩) (cB B i + 1) U) = some (cB B i + 1,((B.drop i).take (cB B i + 1)).map byV):=fun G hG=>by
   unfold zAl
   simp only [hG,Option.bind_some,AObj.look,show (cB B i + 1).beq 0 = false from rfl,cF]
   rw [htake i _ h5,bL (by rw [aT,htl];omega)]
   simp only [cT,List.drop_zero,aR]
   rw [aD (by rw [aT,htl];omega)]
  refine eI (((B.drop i).take (cB B i + 1)).map byV) (aI (by rw [h1s];exact hsrc _ rfl) ?_)
  have hul0 : us.length + 1<=254:=hout
  have hone : oneL (((B.drop i).take (cB B i + 1)).map byV) = true:=by unfold oneL;exact aG.2 (fun v hv=>by obtain ⟨b,_,rfl⟩:=List.mem_map.1 hv;rfl)
  refine aI (by rw [aO,hby,h1s];simp only [bA,dT];exact ⟨⟨⟨⟨⟨⟨rfl,rfl⟩,bL (by simp)⟩,hone⟩,(by omega)⟩,(by omega)⟩,bL (by rw [aT,aT,htl,aC];omega)⟩) ?_
  refine ifK (fun h6=>?_) (fun h6=>?_)
  ·have h6 : 254 < (u :: us).length + (cB B i + 1):=by have h6 : (((us.length + 1 + (cB B i + 1) : Nat)) : Int) > 254:=(oT h6);simp only [aC];omega
   refine aI rfl (zAh (rcq [1] (d:=7) (d2:=2) (lv:=[(4,.string ⟨#[]⟩),(5,.int .i64 0),(6,.pointer (some ⟨1,0,none⟩))]) (bs:=[(1,.cells [.int .i64 (3),.int .i64 ((a : Int))] 53)]) (W:=[]) (m:=2) (df:=[]) ⟨⟨_,rfl,.string _⟩,(sI rfl),(sP rfl rfl),tv⟩ ⟨bpo rfl,tv⟩ .nil) (fun f=>hret (3) ((a : Int)) f (hinv _ ?_)))
   exact .long (by omega) h2 h4 (by omega) h6
  have h6 : (u :: us).length + (cB B i + 1)<=254:=by have h6 : ¬ (((us.length + 1 + (cB B i + 1) : Nat)) : Int) > 254:=(oF h6);simp only [aC];omega
  refine ⟨(p,i + (cB B i + 1),u :: (us++(B.drop i).take (cB B i + 1)),bh),⟨hp,h5,by show (us++(B.drop i).take (cB B i + 1)).length + 1<=254;rw [aB,htl];simp only [aC] at h6;omega,⟨hb1,hb2⟩,fun r hr=>hst r hr h6⟩,?_,?_⟩
  ·show p * (n + 2) + (n + 1 - (i + (cB B i + 1))) < p * (n + 2) + (n + 1 - i);omega
  refine rcq [1,5] ⟨(sL rfl rfl),(sI rfl),(sP rfl rfl),⟨_,rfl,?_⟩,(sI rfl),⟨_,rfl,by rw [show ((i + (cB B i + 1) : Nat) : Int) = (i : Int) + ((cB B i + 1 : Nat) : Int) by omega];exact .int _ _⟩,(sI rfl),tv⟩ ⟨bpo (zAc _),bpo rfl,⟨by decide,_,rfl,zAs ?_ (zAc _)⟩,tv⟩ .nil
  ·rw [show (us++(B.drop i).take (cB B i + 1)).length + 1 = us.length + 1 + (cB B i + 1) by rw [aB,htl];omega];exact .sl _ _ _ _ _ rfl
  rw [h1s,aR,aD (by simp)];simp
def wrQ (B : Bl) (x : Int) (r : Res) : Prop:=∃ res,rdOk B x res /\ ∃ H m wr,r = .ret (rrV res) H m wr /\ ∀ k ∈ wr,1<=k
theorem read_fn (l : Bl) (o n c : Nat) (x : Int) (h : o + n<=l.length) (hn : n<=1000000000) (hcap : c = U \/ n<=c /\ c<=9223372036854775807) : ∃ r,FnS Try.prog 0 86 [.slice (some ⟨0,o,none⟩) n c,.int .i64 x] (heap 1 [(0,.win (l.map byV) 1)]) 1 r /\ wrQ ((l.drop o).take n) x r:=by
 have hlB:=lenB h
 refine zBo mixed tbW3 [0,4] Try.func86 (c:=bodyOf Try.f86) (by kernel_rfl) ?_
 refine ifK (fun h1=>?_) (fun h1=>?_)
 ·have h1:=oT h1
  exact ⟨⟨[],0,5,0⟩,.inl ⟨.inl h1,rfl⟩,_,_,_,rfl,zAx rfl⟩
 have h1:=oF h1
 refine ifK (fun h2=>?_) (fun h2=>?_)
 ·have h2:=oT h2
  exact ⟨⟨[],0,5,0⟩,.inl ⟨.inr (by rw [hlB];omega),rfl⟩,_,_,_,rfl,zAx rfl⟩
 have h2:=oF h2
 obtain ⟨a,rfl⟩ : ∃ a : Nat,x = (a : Int):=⟨x.toNat,by omega⟩
 have ha : a<=n:=by omega
 refine read_loop l o n c a h hn hcap ha (rcq [1] ⟨(sL rfl rfl),(sI rfl),(sP rfl rfl),⟨_,rfl,zAu 8 rfl⟩,(sI rfl),(sI rfl),(sI rfl),tv⟩ ⟨bpo (zAc l),bpo rfl,tv⟩ .nil) (fun e pos f hr=>?_) (fun bh f hr=>?_) (fun u us bh f hl hr=>?_)
 ·exact ⟨⟨[],0,e,pos⟩,.inr ⟨a,rfl,by omega,hr⟩,_,_,_,rfl,zAx rfl⟩
 ·exact ⟨⟨[0],bh,0,0⟩,.inr ⟨a,rfl,by omega,hr⟩,_,_,_,rfl,zAx rfl⟩
 have h1s : (Try.prog.types[5]).size = 1:=by kernel_rfl
 have hby : (Try.prog.types[5]).bytes = 1:=by kernel_rfl
 have hl0 : us.length + 1<=254:=hl
 refine aI (by rw [hby,h1s];simp only [bA,dT];exact ⟨⟨⟨⟨⟨⟨rfl,rfl⟩,bL (by simp)⟩,rfl⟩,(by omega)⟩,(by omega)⟩,bL (by simp)⟩) ?_
 refine eI ((u :: us)++[0]) (aI ?_ ?_)
 ·have hsrc : ∀ G : Gh,G 4 = some (.cells ((((u :: us).map byV).take ((us.length + 1) * (Try.prog.types[5]).size))++[.int .u8 0]) 5) -> zAl G 1 (.slice (some ⟨4,0,none⟩) (us.length + 1 + 1) U) = some (us.length + 1 + 1,((u :: us)++[0]).map fun b : UInt8=>Value.int .u8 (b.toNat : Int)):=fun G hG=>by
   rw [h1s,aR,aD (by simp)] at hG
   unfold zAl
   simp only [hG,Option.bind_some,AObj.look,show (us.length + 1 + 1).beq 0 = false from rfl,cF]
   rw [bL (by simp)]
   simp only [cT,List.drop_zero,aR]
   rw [aD (by simp),List.map_append];rfl
  exact hsrc _ rfl
 exact ⟨⟨(u :: us)++[0],bh,0,0⟩,.inr ⟨a,rfl,by omega,hr⟩,_,_,_,rfl,zAx rfl⟩
def RdB.B (x : RdB) : Bl:=(x.l.drop x.o).take x.n
def RdB.small (x : RdB) : Prop:=x.n<=1000000000 /\ (x.c = U \/ x.n<=x.c /\ x.c<=9223372036854775807)
noncomputable def zVk : CtQ Try.prog :=
 { f:=86,X:=RdB × Int,pre:=fun x a H _=>a = [x.1.sl,.int .i64 x.2] /\ x.1.at H /\ x.1.small,Q:=fun x v=>∃ r : RR,v = rrV r /\ rdOk x.1.B x.2 r,
   ok:=fun ⟨⟨b,o,n,c,l⟩,i⟩ a H m ⟨h1,h2,h3⟩=>by
    subst h1
    obtain ⟨r,hF,res,hr,H',m',wr,rfl,hw⟩:=read_fn l o n c i h2.2 h3.1 h3.2
    exact ⟨rrV res,zDb [b] hF hw zKz (.cons _ _ _ _ (.sl _ _ _ _ _ rfl) (zCi rfl)) (zFs h2.1 (zAc l)) (rrV_plain res),res,rfl,hr⟩,
   uniq:=fun ⟨x,i⟩ ⟨y,j⟩ a H m ⟨h1,h2,_⟩ ⟨k1,k2,_⟩=>by
    rw [h1] at k1
    simp only [aQ,Value.int.injEq,true_and,and_true] at k1
    rw [RdB.uniq k1.1 h2 k2,k1.2] }
noncomputable def ct_wread : Ct Try.prog 0:=zVk.ct
theorem Rd.name {B : Bl} {a p i : Nat} {out : Bl} {bh : Int} {r : RR} (h : Rd B a p i out bh r) (ha : a<=B.length) (hi : i<=B.length) (hp : p<=B.length) (hbh : bh<=B.length) : (r.e = 0 \/ r.s = []) /\ (r.e ≠ 0 -> 0<=r.pos /\ r.pos<=B.length) /\ (r.e = 0 -> r.next<=B.length):=by
 have z : ∀ k : Nat,(0 : Int)<=(k : Int):=fun k=>Int.natCast_nonneg k
 have le : ∀ k m : Nat,k<=m -> (k : Int)<=(m : Int):=fun k m h=>Int.ofNat_le.2 h
 induction h with
 | over h=>exact ⟨.inr rfl,fun _=>⟨z _,Int.le_refl _⟩,fun e=>by cases e⟩
 | zero h hc =>
  refine ⟨.inl rfl,fun e=>ab rfl e,fun _=>?_⟩
  dsimp only
  split
  ·exact le (_ + 1) _ h
  exact hbh
 | pshort h hc h2=>exact ⟨.inr rfl,fun _=>⟨z _,Int.le_refl _⟩,fun e=>by cases e⟩
 | ploop h hc h2 h3=>exact ⟨.inr rfl,fun _=>⟨z _,le _ _ (by omega)⟩,fun e=>by cases e⟩
 | ptr h hc h2 h3 hr ih =>
  refine ih (by omega) (by omega) ?_
  split
  ·exact le (_ + 2) _ h2
  exact hbh
 | bad h hc hc2=>exact ⟨.inr rfl,fun _=>⟨z _,le _ _ (by omega)⟩,fun e=>by cases e⟩
 | short h hc hc2 h2=>exact ⟨.inr rfl,fun _=>⟨z _,Int.le_refl _⟩,fun e=>by cases e⟩
 | long h hc hc2 h2 h3=>exact ⟨.inr rfl,fun _=>⟨z _,le _ _ ha⟩,fun e=>by cases e⟩
 | lab h hc hc2 h2 h3 hr ih=>exact ih h2 hp hbh
noncomputable def tbD7 (t : Int) (ps : List Pt) (ht : ∀ H n,partsGo t H n partsTab = partsOut ps.length (ps.flatMap Pt.cell) H n) : Tb Try.prog 0:=tbOf mixed [zGe t ps ht,ct_wread,zIr]
noncomputable def tbD7n (t : Int) (ht : ∀ H n,partsGo t H n partsTab = .ret (.tuple #[.slice none 0 0,.bool false]) H n []) : Tb Try.prog 0:=tbOf mixed [zNc t ht]
theorem Rd.fine {B : Bl} {a p i : Nat} {out : Bl} {bh : Int} {r : RR} (h : Rd B a p i out bh r) (hb : bh = -1 \/ 0<=bh) (ho : out.length<=254) : r.e = 0 -> 0<=r.next /\ r.s.length<=255:=by
 have z : ∀ k : Nat,(0 : Int)<=(k : Int):=fun k=>Int.natCast_nonneg k
 induction h with
 | zero h hc =>
  intro _
  dsimp only
  refine ⟨?_,by rw [aB,List.length_singleton];omega⟩
  split
  ·exact z (_ + 1)
  omega
 | ptr h hc h2 h3 hr ih =>
  refine ih ?_ ho
  split
  ·exact .inr (z (_ + 2))
  exact hb
 | lab h hc hc2 h2 h3 hr ih =>
  refine ih hb ?_
  rw [aB,aU,aM];omega
 | _=>intro e;cases e
theorem rdOk.fine {B : Bl} {x : Int} {r : RR} (h : rdOk B x r) : (r.e ≠ 0 -> 0<=r.pos /\ r.pos<=B.length) /\ (r.e = 0 -> 0<=r.next /\ r.next<=B.length /\ r.s.length<=255):=by
 rcases h with ⟨_,rfl⟩ | ⟨a,rfl,h1,h2⟩
 ·exact ⟨fun _=>⟨Int.le_refl _,Int.natCast_nonneg _⟩,fun e=>by cases e⟩
 obtain ⟨_,q1,q2⟩:=h2.name h1 h1 h1 (by omega)
 have q3:=h2.fine (.inl rfl) (by simp)
 exact ⟨q1,fun e=>⟨(q3 e).1,q2 e,(q3 e).2⟩⟩
inductive RdP (B : Bl) (a e t : Int) : List Pt -> Int -> Bs -> Bs × Int × Int -> Prop
 | fin {i : Int} {out : Bs} (h1 : i = e) (h2 : checkD t out = 0) : RdP B a e t [] i out (out,0,0)
 | off {i : Int} {out : Bs} (h : ¬ (i = e /\ checkD t out = 0)) : RdP B a e t [] i out ([],4,a)
 | nmb {ps : List Pt} {i : Int} {out : Bs} {r : RR} (h : rdOk B i r) (he : r.e ≠ 0) : RdP B a e t (.nm :: ps) i out ([],r.e,r.pos)
 | nmo {ps : List Pt} {i : Int} {out : Bs} {r : RR} (h : rdOk B i r) (he : r.e = 0) (h2 : r.next > e) : RdP B a e t (.nm :: ps) i out ([],4,a)
 | nmc {ps : List Pt} {i : Int} {out : Bs} {r : RR} {y : Bs × Int × Int} (h : rdOk B i r) (he : r.e = 0) (h2 : ¬ r.next > e) (k : RdP B a e t ps r.next (out++r.s) y) : RdP B a e t (.nm :: ps) i out y
 | rest {ps : List Pt} {i : Int} {out : Bs} {y : Bs × Int × Int} (k : RdP B a e t ps e (out++(B.drop i.toNat).take (e.toNat - i.toNat)) y) : RdP B a e t (.rest :: ps) i out y
 | szb {ps : List Pt} {z : Nat} {i : Int} {out : Bs} (h : e - i < z) : RdP B a e t (.sz z :: ps) i out ([],4,a)
 | szc {ps : List Pt} {z : Nat} {i : Int} {out : Bs} {y : Bs × Int × Int} (h : ¬ e - i < z) (k : RdP B a e t ps (i + z) (out++(B.drop i.toNat).take ((i + z).toNat - i.toNat)) y) : RdP B a e t (.sz z :: ps) i out y
theorem RdP.det {B : Bl} {a e t : Int} {ps : List Pt} {i : Int} {out : Bs} {y y' : Bs × Int × Int} (h : RdP B a e t ps i out y) (k : RdP B a e t ps i out y') : y = y':=by
 induction h generalizing y' with
 | fin h1 h2=>cases k with | fin=>rfl | off h=>exact ab ⟨h1,h2⟩ h
 | off h=>cases k with | fin h1 h2=>exact ab ⟨h1,h2⟩ h | off=>rfl
 | nmb h he=>cases k with | nmb h'=>rw [zAr h h'] | nmo h' he'=>rw [zAr h h'] at he;exact ab he' he | nmc h' he'=>rw [zAr h h'] at he;exact ab he' he
 | nmo h he h2=>cases k with | nmb h' he'=>rw [zAr h h'] at he;exact ab he he' | nmo=>rfl | nmc h' he' h2'=>rw [zAr h h'] at h2;exact ab h2 h2'
 | nmc h he h2 _ ih=>cases k with | nmb h' he'=>rw [zAr h h'] at he;exact ab he he' | nmo h' he' h2'=>rw [zAr h h'] at h2;exact ab h2' h2 | nmc h' _ _ k'=>rw [<- zAr h h'] at k';exact ih k'
 | rest _ ih=>cases k with | rest k'=>exact ih k'
 | szb h=>cases k with | szb=>rfl | szc h'=>exact ab h h'
 | szc h _ ih=>cases k with | szb h'=>exact ab h' h | szc _ k'=>exact ih k'
def rrS (l : Bl) (o n c : Nat) (t a e : Int) (ps : List Pt) (x : Nat × Int × ByteArray) (f : Nat -> Option Value) : Fs :=
 ⟨slots 8 [(0,.slice (some ⟨0,o,none⟩) n c),(3,.int .i64 t),(9,pt 1),(10,.int .i64 e),(13,pt 3),(14,.string x.2.2),(15,.int .i64 x.2.1),(76,sq 2 ps.length ps.length),(77,.int .i64 ps.length),(78,.int .i64 x.1)] f,
  heap 3 [(0,.win (l.map byV) 1),(1,.cells [.int .i64 0,.int .i64 0] 53),(2,.cells (ps.flatMap Pt.cell) 138),(3,.cells [.int .i64 4,.int .i64 a] 53)],4,[],[]⟩
theorem rr_loop (l : Bl) (o n c : Nat) (t a e : Int) (ps : List Pt) (ht : ∀ H n,partsGo t H n partsTab = partsOut ps.length (ps.flatMap Pt.cell) H n) (hps : ps.length < 900) (h : o + n<=l.length) (hn : n<=1000000) (hcap : c = U \/ n<=c /\ c<=9223372036854775807) (ha : 0<=a /\ a<=e /\ e<=n) {s0 : Fs} {K : Ex -> Fs -> Prop}
  (h0 : ∃ f,RcM Try.prog 0 1 (4 + (Try.f78.ntmps - 4)) none s0 (rrS l o n c t a e ps (0,a,⟨#[]⟩) f))
  (hret : ∀ er pos f,er ≠ 0 -> 0<=pos -> pos<=(n : Int) -> RdP ((l.drop o).take n) a e t ps a [] ([],er,pos) -> K .ret ⟨slots 8 [(8,.string ⟨#[]⟩),(9,pt 1)] f,heap 2 [(1,.cells [.int .i64 er,.int .i64 pos] 53)],2,[],[]⟩)
  (hex : ∀ i out f,(bs out).length<=1000000000 -> (∀ y,RdP ((l.drop o).take n) a e t [] i (bs out) y -> RdP ((l.drop o).take n) a e t ps a [] y) -> K (.exit 1) ⟨slots 8 [(3,.int .i64 t),(9,pt 1),(10,.int .i64 e),(13,pt 3),(14,.string out),(15,.int .i64 i)] f,heap 3 [(1,.cells [.int .i64 0,.int .i64 0] 53),(3,.cells [.int .i64 4,.int .i64 a] 53)],4,[],[]⟩) :
  LW Try.prog 0 1 (4 + (Try.f78.ntmps - 4)) none (loopAt Try.f78 0) s0 K:=by
 refine zAp (rrS l o n c t a e ps) (fun x=>ps.length - x.1) (fun x=>x.1<=ps.length /\ (0<=x.2.1 /\ x.2.1<=e) /\ (bs x.2.2).length<=x.1 * 1001000 /\ ∀ y,RdP ((l.drop o).take n) a e t (ps.drop x.1) x.2.1 (bs x.2.2) y -> RdP ((l.drop o).take n) a e t ps a [] y) (0,a,⟨#[]⟩) ⟨aH _,⟨ha.1,ha.2.1⟩,by simp [bs],fun y hy=>hy⟩ h0 ?_
 rintro ⟨k,i,out⟩ f ⟨hk,⟨hi1,hi2⟩,hout,hinv⟩
 have hk : k<=ps.length:=hk
 have hi1 : 0<=i:=hi1
 have hi2 : i<=e:=hi2
 have hout : (bs out).length<=k * 1001000:=hout
 have hinv : ∀ y,RdP ((l.drop o).take n) a e t (ps.drop k) i (bs out) y -> RdP ((l.drop o).take n) a e t ps a [] y:=hinv
 have htake : ∀ j m : Nat,j + m<=n -> (l.drop (o + j)).take m = (((l.drop o).take n).drop j).take m:=fun j m hjm=>by rw [List.drop_take,List.take_take,List.drop_drop,Nat.min_eq_left (by omega)]
 obtain ⟨ha1,ha2,ha3⟩:=ha
 have h1s : (Try.prog.types[5]).size = 1:=by kernel_rfl
 have lenB' : ((l.drop o).take n).length = n:=lenB h
 have hmulk : k * 1001000<=900 * 1001000:=Nat.mul_le_mul_right _ (by omega)
 have side : ∀ (h1 : k < ps.length),(0 + ((k : Nat) : Int).toNat * 3 + 3<=(ps.flatMap Pt.cell).length /\ List.take 3 (List.drop (0 + ((k : Nat) : Int).toNat * 3) (ps.flatMap Pt.cell)) = ps[k].cell):=fun h1=>by
  have := zHd Pt.cell 3 Pt.cell_len ps k h1
  rw [aO,aS];exact this
 have srcs : ∀ (x y : Int) (o' c' : Nat) (G : Gh),0<=x -> x<=y -> y<=n -> (o' = o + x.toNat \/ y.toNat - x.toNat = 0) -> G 0 = some (.win (l.map byV) 1) -> zAl G 1 (.slice (some ⟨0,o',none⟩) (y.toNat - x.toNat) c') = some (y.toNat - x.toNat,(((l.drop (o + x.toNat)).take (y.toNat - x.toNat)).map fun b : UInt8=>Value.int .u8 (b.toNat : Int))):=fun x y o' c' G h1 h2 h3 ho hG=>by
  unfold zAl
  by_cases hz : y.toNat - x.toNat = 0
  ·rw [hz];simp
  have ho:=ho.resolve_right hz
  subst ho
  have : (y.toNat - x.toNat).beq 0 = false:=by cases hb : (y.toNat - x.toNat).beq 0;rfl;exact ab (aA hb) hz
  simp only [this,cF,hG,Option.bind_some,AObj.look]
  rw [bL (by simp;omega)]
  simp only [cT,aR,List.map_take,List.map_drop];rfl
 refine zAq (tbD7 t ps ht) [0,2] 1 _ none mixed _ _ _ ?_
 refine ifK (fun h1=>?_) (fun h1=>?_)
 ·have h1 : k < ps.length:=by have := oT h1;omega
  have hsd:=side h1
  have hst : ps.drop k = ps[k] :: ps.drop (k + 1):=bD h1
  have hmul1 : (k + 1) * 1001000 = k * 1001000 + 1001000:=by rw [Nat.add_mul,Nat.one_mul]
  refine ifK (fun _=>?_) (fun h2=>ab h2 (by simp [inI];omega))
  cases hp : ps[k] with
  | nm =>
   rw [hp] at hsd
   refine eI 0 (eI true (eI false (aI hsd ?_)))
   refine eI (⟨0,o,n,c,l⟩,i) (aI ⟨rfl,⟨rfl,h⟩,by show n<=_;omega,hcap⟩ ?_)
   rintro v ⟨r,rfl,hr⟩
   obtain ⟨s,nx,er,pos⟩:=r
   obtain ⟨q1,q2⟩:=hr.fine
   have q1 : er ≠ 0 -> 0<=pos /\ pos<=(((l.drop o).take n).length : Int):=q1
   have q2 : er = 0 -> 0<=nx /\ nx<=(((l.drop o).take n).length : Int) /\ s.length<=255:=q2
   rw [lenB'] at q1 q2
   refine ifK (fun h3=>?_) (fun h3=>?_)
   ·have h3 : er ≠ 0:=by simpa using h3
    refine aI ?_ ?_
    ·kernel_rfl
    exact aI rfl (zAh (rcq [1] (d:=8) (d2:=2) (lv:=[(8,.string ⟨#[]⟩),(9,pt 1)]) (bs:=[(1,.cells [.int .i64 er,.int .i64 pos] 53)]) (W:=[]) (m:=2) (df:=[]) ⟨⟨_,rfl,.string _⟩,(sP rfl rfl),tv⟩ ⟨bpo rfl,tv⟩ .nil) (fun f=>hret _ _ f h3 (q1 h3).1 (q1 h3).2 (hinv _ (by rw [hst,hp];exact .nmb hr h3))))
   have h3 : er = 0:=by simpa using h3
   obtain ⟨q3,q4,q5⟩:=q2 h3
   refine ifK (fun h4=>?_) (fun h4=>?_)
   ·refine aI ?_ ?_
    ·kernel_rfl
    exact aI rfl (zAh (rcq [1] (d:=8) (d2:=2) (lv:=[(8,.string ⟨#[]⟩),(9,pt 1)]) (bs:=[(1,.cells [.int .i64 4,.int .i64 a] 53)]) (W:=[]) (m:=2) (df:=[]) ⟨⟨_,rfl,.string _⟩,(sP rfl rfl),tv⟩ ⟨bpo rfl,tv⟩ .nil) (fun f=>hret _ _ f (by decide) ha1 (by omega) (hinv _ (by rw [hst,hp];exact .nmo hr h3 (oT h4)))))
   have h4 : ¬ nx > e:=oF h4
   have eS : bs ⟨s.toArray⟩ = s:=zXk s
   refine aI (zHq (by rw [eS];have e9 : (bs (k,i,out).2.2).length = (bs out).length:=rfl;omega)) ?_
   refine ⟨(k + 1,nx,catS out ⟨s.toArray⟩),⟨h1,⟨q3,by show nx<=e;omega⟩,?_,fun y hy=>hinv y (by rw [hst,hp];exact .nmc hr h3 h4 (by have hy : RdP _ a e t (ps.drop (k + 1)) nx (bs (catS out ⟨s.toArray⟩)) y:=hy;rw [zGw,eS] at hy;exact hy))⟩,?_,?_⟩
   ·show (bs (catS _ _)).length<=(k + 1) * 1001000
    rw [zGw,eS,aB];omega
   ·show ps.length - (k + 1) < ps.length - k;omega
   exact rcq [1,2,3] ⟨(sL rfl rfl),(sI rfl),(sP rfl rfl),(sI rfl),(sP rfl rfl),⟨_,rfl,.string _⟩,(sI rfl),(sL rfl rfl),(sI rfl),zAa rfl (by rw [wrapN (by omega) (by omega)];omega),tv⟩ ⟨bpo (zAc l),bpo rfl,bpo (zAb _ Pt.cell_plain ps),bpo rfl,tv⟩ .nil
  | rest =>
   rw [hp] at hsd
   refine eI 0 (eI false (eI true (aI hsd ?_)))
   refine ifK (fun hcu=>?_) (fun hcu=>?_)
   ·refine aI (by simp only [inLH,bA,dT];omega) ?_
    refine eI ((l.drop (o + i.toNat)).take ((e).toNat - i.toNat)) (aI (by rw [h1s];exact srcs i (e) (o + i.toNat * (Try.prog.types[5]).size) _ _ hi1 (by omega) (by omega) (.inl (by rw [h1s];omega)) rfl) ?_)
    have eS : bs ⟨((l.drop (o + i.toNat)).take ((e).toNat - i.toNat)).toArray⟩ = (l.drop (o + i.toNat)).take ((e).toNat - i.toNat):=zXk _
    have eL : ((l.drop (o + i.toNat)).take ((e).toNat - i.toNat)).length<=1000000:=by rw [aU];omega
    refine aI (zHq (by rw [eS];have e9 : (bs (k,i,out).2.2).length = (bs out).length:=rfl;omega)) ?_
    refine ⟨(k + 1,e,catS out ⟨((l.drop (o + i.toNat)).take ((e).toNat - i.toNat)).toArray⟩),⟨h1,⟨by show 0<=e;omega,by show e<=e;omega⟩,?_,fun y hy=>hinv y (by rw [hst,hp];refine .rest ?_;have hy : RdP _ a e t (ps.drop (k + 1)) e (bs (catS out ⟨((l.drop (o + i.toNat)).take ((e).toNat - i.toNat)).toArray⟩)) y:=hy;rw [zGw,eS,htake _ _ (by omega)] at hy;exact hy)⟩,?_,?_⟩
    ·show (bs (catS _ _)).length<=(k + 1) * 1001000
     rw [zGw,eS,aB];omega
    ·show ps.length - (k + 1) < ps.length - k;omega
    exact rcq [1,2,3] ⟨(sL rfl rfl),(sI rfl),(sP rfl rfl),(sI rfl),(sP rfl rfl),⟨_,rfl,.string _⟩,(sI rfl),(sL rfl rfl),(sI rfl),zAa rfl (by rw [wrapN (by omega) (by omega)];omega),tv⟩ ⟨bpo (zAc l),bpo rfl,bpo (zAb _ Pt.cell_plain ps),bpo rfl,tv⟩ .nil
   have hcU : c ≠ U:=fun e0=>(by subst e0;cases hcu)
   obtain ⟨hc1,hc2⟩:=hcap.resolve_left hcU
   refine aI (by simp only [inLH,bA,dT];exact ⟨⟨⟨⟨by omega,by omega⟩,by omega⟩,bL hc1⟩,bL (by omega)⟩) ?_
   refine eI ((l.drop (o + i.toNat)).take ((e).toNat - i.toNat)) (aI (by rw [h1s];exact srcs i (e) (bif c.beq i.toNat then o else o + i.toNat * (Try.prog.types[5]).size) _ _ hi1 (by omega) (by omega) ((by cases hb : c.beq i.toNat with | true=>(have hb2:=aA hb;exact .inr (by omega)) | false=>exact .inl (by rw [cF,h1s];omega))) rfl) ?_)
   have eS : bs ⟨((l.drop (o + i.toNat)).take ((e).toNat - i.toNat)).toArray⟩ = (l.drop (o + i.toNat)).take ((e).toNat - i.toNat):=zXk _
   have eL : ((l.drop (o + i.toNat)).take ((e).toNat - i.toNat)).length<=1000000:=by rw [aU];omega
   refine aI (zHq (by rw [eS];have e9 : (bs (k,i,out).2.2).length = (bs out).length:=rfl;omega)) ?_
   refine ⟨(k + 1,e,catS out ⟨((l.drop (o + i.toNat)).take ((e).toNat - i.toNat)).toArray⟩),⟨h1,⟨by show 0<=e;omega,by show e<=e;omega⟩,?_,fun y hy=>hinv y (by rw [hst,hp];refine .rest ?_;have hy : RdP _ a e t (ps.drop (k + 1)) e (bs (catS out ⟨((l.drop (o + i.toNat)).take ((e).toNat - i.toNat)).toArray⟩)) y:=hy;rw [zGw,eS,htake _ _ (by omega)] at hy;exact hy)⟩,?_,?_⟩
   ·show (bs (catS _ _)).length<=(k + 1) * 1001000
    rw [zGw,eS,aB];omega
   ·show ps.length - (k + 1) < ps.length - k;omega
   exact rcq [1,2,3] ⟨(sL rfl rfl),(sI rfl),(sP rfl rfl),(sI rfl),(sP rfl rfl),⟨_,rfl,.string _⟩,(sI rfl),(sL rfl rfl),(sI rfl),zAa rfl (by rw [wrapN (by omega) (by omega)];omega),tv⟩ ⟨bpo (zAc l),bpo rfl,bpo (zAb _ Pt.cell_plain ps),bpo rfl,tv⟩ .nil
  | sz z =>
   rw [hp] at hsd
   refine eI (z : Int) (eI false (eI false (aI hsd ?_)))
   have ew : IntKind.i64.wrap (e - i) = e - i:=wrapN (by omega) (by omega)
   refine ifK (fun h3=>?_) (fun h3=>?_)
   ·refine aI ?_ ?_
    ·kernel_rfl
    exact aI rfl (zAh (rcq [1] (d:=8) (d2:=2) (lv:=[(8,.string ⟨#[]⟩),(9,pt 1)]) (bs:=[(1,.cells [.int .i64 4,.int .i64 a] 53)]) (W:=[]) (m:=2) (df:=[]) ⟨⟨_,rfl,.string _⟩,(sP rfl rfl),tv⟩ ⟨bpo rfl,tv⟩ .nil) (fun f=>hret _ _ f (by decide) ha1 (by omega) (hinv _ (by rw [hst,hp];exact .szb (by have h3:=oT h3;rw [ew] at h3;exact h3)))))
   have h3 : ¬ e - i < z:=by have h3:=oF h3;rw [ew] at h3;exact h3
   have ey : IntKind.i64.wrap (i + (z : Int)) = i + z:=wrapN (by omega) (by omega)
   refine aI ?_ ?_
   ·kernel_rfl
   refine ifK (fun hcu=>?_) (fun hcu=>?_)
   ·refine aI (by simp only [inLH,bA,dT];omega) ?_
    refine eI ((l.drop (o + i.toNat)).take ((IntKind.i64.wrap (i + (z : Int))).toNat - i.toNat)) (aI (by rw [h1s];exact srcs i (IntKind.i64.wrap (i + (z : Int))) (o + i.toNat * (Try.prog.types[5]).size) _ _ hi1 (by omega) (by omega) (.inl (by rw [h1s];omega)) rfl) ?_)
    have eS : bs ⟨((l.drop (o + i.toNat)).take ((IntKind.i64.wrap (i + (z : Int))).toNat - i.toNat)).toArray⟩ = (l.drop (o + i.toNat)).take ((IntKind.i64.wrap (i + (z : Int))).toNat - i.toNat):=zXk _
    have eL : ((l.drop (o + i.toNat)).take ((IntKind.i64.wrap (i + (z : Int))).toNat - i.toNat)).length<=1000000:=by rw [aU];omega
    refine aI (zHq (by rw [eS];have e9 : (bs (k,i,out).2.2).length = (bs out).length:=rfl;omega)) ?_
    refine ⟨(k + 1,IntKind.i64.wrap (i + (z : Int)),catS out ⟨((l.drop (o + i.toNat)).take ((IntKind.i64.wrap (i + (z : Int))).toNat - i.toNat)).toArray⟩),⟨h1,⟨by show 0<=IntKind.i64.wrap (i + (z : Int));omega,by show IntKind.i64.wrap (i + (z : Int))<=e;omega⟩,?_,fun y hy=>hinv y (by rw [hst,hp];refine .szc h3 ?_;have hy : RdP _ a e t (ps.drop (k + 1)) (IntKind.i64.wrap (i + (z : Int))) (bs (catS out ⟨((l.drop (o + i.toNat)).take ((IntKind.i64.wrap (i + (z : Int))).toNat - i.toNat)).toArray⟩)) y:=hy;rw [zGw,eS,htake _ _ (by omega),ey] at hy;exact hy)⟩,?_,?_⟩
    ·show (bs (catS _ _)).length<=(k + 1) * 1001000
     rw [zGw,eS,aB];omega
    ·show ps.length - (k + 1) < ps.length - k;omega
    exact rcq [1,2,3] ⟨(sL rfl rfl),(sI rfl),(sP rfl rfl),(sI rfl),(sP rfl rfl),⟨_,rfl,.string _⟩,(sI rfl),(sL rfl rfl),(sI rfl),zAa rfl (by rw [wrapN (by omega) (by omega)];omega),tv⟩ ⟨bpo (zAc l),bpo rfl,bpo (zAb _ Pt.cell_plain ps),bpo rfl,tv⟩ .nil
   have hcU : c ≠ U:=fun e0=>(by subst e0;cases hcu)
   obtain ⟨hc1,hc2⟩:=hcap.resolve_left hcU
   refine aI (by simp only [inLH,bA,dT];exact ⟨⟨⟨⟨by omega,by omega⟩,by omega⟩,bL hc1⟩,bL (by omega)⟩) ?_
   refine eI ((l.drop (o + i.toNat)).take ((IntKind.i64.wrap (i + (z : Int))).toNat - i.toNat)) (aI (by rw [h1s];exact srcs i (IntKind.i64.wrap (i + (z : Int))) (bif c.beq i.toNat then o else o + i.toNat * (Try.prog.types[5]).size) _ _ hi1 (by omega) (by omega) ((by cases hb : c.beq i.toNat with | true=>(have hb2:=aA hb;exact .inr (by omega)) | false=>exact .inl (by rw [cF,h1s];omega))) rfl) ?_)
   have eS : bs ⟨((l.drop (o + i.toNat)).take ((IntKind.i64.wrap (i + (z : Int))).toNat - i.toNat)).toArray⟩ = (l.drop (o + i.toNat)).take ((IntKind.i64.wrap (i + (z : Int))).toNat - i.toNat):=zXk _
   have eL : ((l.drop (o + i.toNat)).take ((IntKind.i64.wrap (i + (z : Int))).toNat - i.toNat)).length<=1000000:=by rw [aU];omega
   refine aI (zHq (by rw [eS];have e9 : (bs (k,i,out).2.2).length = (bs out).length:=rfl;omega)) ?_
   refine ⟨(k + 1,IntKind.i64.wrap (i + (z : Int)),catS out ⟨((l.drop (o + i.toNat)).take ((IntKind.i64.wrap (i + (z : Int))).toNat - i.toNat)).toArray⟩),⟨h1,⟨by show 0<=IntKind.i64.wrap (i + (z : Int));omega,by show IntKind.i64.wrap (i + (z : Int))<=e;omega⟩,?_,fun y hy=>hinv y (by rw [hst,hp];refine .szc h3 ?_;have hy : RdP _ a e t (ps.drop (k + 1)) (IntKind.i64.wrap (i + (z : Int))) (bs (catS out ⟨((l.drop (o + i.toNat)).take ((IntKind.i64.wrap (i + (z : Int))).toNat - i.toNat)).toArray⟩)) y:=hy;rw [zGw,eS,htake _ _ (by omega),ey] at hy;exact hy)⟩,?_,?_⟩
   ·show (bs (catS _ _)).length<=(k + 1) * 1001000
    rw [zGw,eS,aB];omega
   ·show ps.length - (k + 1) < ps.length - k;omega
   exact rcq [1,2,3] ⟨(sL rfl rfl),(sI rfl),(sP rfl rfl),(sI rfl),(sP rfl rfl),⟨_,rfl,.string _⟩,(sI rfl),(sL rfl rfl),(sI rfl),zAa rfl (by rw [wrapN (by omega) (by omega)];omega),tv⟩ ⟨bpo (zAc l),bpo rfl,bpo (zAb _ Pt.cell_plain ps),bpo rfl,tv⟩ .nil
 have h1 : ¬ k < ps.length:=by have := oF h1;omega
 exact aI rfl (zAh (rcq [1,99,3] (d:=8) (d2:=3) (lv:=[(3,.int .i64 t),(9,pt 1),(10,.int .i64 e),(13,pt 3),(14,.string out),(15,.int .i64 i)]) (bs:=[(1,.cells [.int .i64 0,.int .i64 0] 53),(3,.cells [.int .i64 4,.int .i64 a] 53)]) (W:=[]) (m:=4) (df:=[]) ⟨(sI rfl),(sP rfl rfl),(sI rfl),(sP rfl rfl),⟨_,rfl,.string _⟩,(sI rfl),tv⟩ ⟨bpo rfl,bpo rfl,tv⟩ .nil) (fun f=>hex _ _ f (by omega) (fun y hy=>hinv y (by rw [show ps.drop k = [] from bE (by omega)];exact hy))))
def rdV (y : Bs × Int × Int) : Value:=.tuple #[str y.1,.agg #[.int .i64 y.2.1,.int .i64 y.2.2]]
def rdQ (B : Bl) (a z t : Int) (y : Bs × Int × Int) : Prop :=
 if t < 0 \/ t > 65535 \/ z < 0 \/ z > 65535 then y = ([],2,0) else if a < 0 \/ a > B.length then y = ([],5,0) else if (B.length : Int) - a < z then y = ([],4,(B.length : Int)) else
 match ptsT t with | none=>y = ((B.drop a.toNat).take z.toNat,0,0) | some ps=>RdP B a (a + z) t ps a [] y
theorem zPs {B : Bl} {a z t : Int} {y y' : Bs × Int × Int} (h : rdQ B a z t y) (k : rdQ B a z t y') : y = y':=by
 unfold rdQ at h k
 split at h
 ·rename_i c;rw [if_pos c] at k;rw [h,k]
 rename_i c;rw [if_neg c] at k
 split at h
 ·rename_i c;rw [if_pos c] at k;rw [h,k]
 rename_i c;rw [if_neg c] at k
 split at h
 ·rename_i c;rw [if_pos c] at k;rw [h,k]
 rename_i c;rw [if_neg c] at k
 cases hp : ptsT t with
 | none=>rw [hp] at h k;rw [h,k]
 | some ps=>rw [hp] at h k;exact h.det k
def rrR (B : Bl) (a z t : Int) (r : Res) : Prop:=∃ y H m wr,r = .ret (rdV y) H m wr /\ (∀ k ∈ wr,1<=k) /\ rdQ B a z t y
theorem zFr {B : Bl} {a z t : Int} (h : t < 0 \/ t > 65535 \/ z < 0 \/ z > 65535) : rdQ B a z t ([],2,0):=by unfold rdQ;rw [if_pos h]
theorem zIe {B : Bl} {a z t : Int} (h1 : ¬ (t < 0 \/ t > 65535 \/ z < 0 \/ z > 65535)) (h : a < 0 \/ a > B.length) : rdQ B a z t ([],5,0):=by unfold rdQ;rw [if_neg h1,if_pos h]
theorem zRr {B : Bl} {a z t : Int} {n : Nat} (h1 : ¬ (t < 0 \/ t > 65535 \/ z < 0 \/ z > 65535)) (h2 : ¬ (a < 0 \/ a > B.length)) (hn : B.length = n) (h : (n : Int) - a < z) : rdQ B a z t ([],4,(n : Int)):=by subst hn;unfold rdQ;rw [if_neg h1,if_neg h2,if_pos h]
theorem zKn {B : Bl} {a z t : Int} {ps : List Pt} {y : Bs × Int × Int} (h1 : ¬ (t < 0 \/ t > 65535 \/ z < 0 \/ z > 65535)) (h2 : ¬ (a < 0 \/ a > B.length)) (h3 : ¬ (B.length : Int) - a < z) (hp : ptsT t = some ps) (h : RdP B a (a + z) t ps a [] y) : rdQ B a z t y:=by
 unfold rdQ;rw [if_neg h1,if_neg h2,if_neg h3,hp];exact h
theorem rdQ_none {B : Bl} {a z t : Int} (h1 : ¬ (t < 0 \/ t > 65535 \/ z < 0 \/ z > 65535)) (h2 : ¬ (a < 0 \/ a > B.length)) (h3 : ¬ (B.length : Int) - a < z) (hp : ptsT t = none) : rdQ B a z t ((B.drop a.toNat).take z.toNat,0,0):=by
 unfold rdQ;rw [if_neg h1,if_neg h2,if_neg h3,hp]
theorem zXo {t : Int} {s : Bs} (hp : ptsT t = none) (h : 0<=t /\ t<=65535) (hs : s.length<=65535) : checkD t s = 0:=by
 unfold checkD fitsD
 rw [hp,if_neg (by omega),if_neg (by omega)];rfl
theorem rdread_fn (l : Bl) (o n c : Nat) (a z t : Int) (h : o + n<=l.length) (hn : n<=1000000) (hcap : c = U \/ n<=c /\ c<=9223372036854775807) : ∃ r,FnS Try.prog 0 78 [.slice (some ⟨0,o,none⟩) n c,.int .i64 a,.int .i64 z,.int .i64 t] (heap 1 [(0,.win (l.map byV) 1)]) 1 r /\ rrR ((l.drop o).take n) a z t r:=by
 have h1s : (Try.prog.types[5]).size = 1:=by kernel_rfl
 cases hp : ptsT t with
 | some ps =>
  obtain ⟨p1,_,p3⟩:=zLw hp
  have p2 : ps.length < 900 := by rcases (zLv hp).2 with ⟨_,q⟩ | q
                                  ·omega
                                  rw [q];decide
  refine zBo mixed (tbD7 t ps p3) [0] Try.func78 (c:=bodyOf Try.f78) (by kernel_rfl) ?_
  refine ifK (fun g=>?_) (fun h1=>?_)
  ·exact ⟨([],2,0),_,_,_,rfl,zAx rfl,zFr (.inl (oT g))⟩
  refine ifK (fun g=>?_) (fun h2=>?_)
  ·exact ⟨([],2,0),_,_,_,rfl,zAx rfl,zFr (.inr (.inl (oT g)))⟩
  refine ifK (fun g=>?_) (fun h3=>?_)
  ·exact ⟨([],2,0),_,_,_,rfl,zAx rfl,zFr (.inr (.inr (.inl (oT g))))⟩
  refine ifK (fun g=>?_) (fun h4=>?_)
  ·exact ⟨([],2,0),_,_,_,rfl,zAx rfl,zFr (.inr (.inr (.inr (oT g))))⟩
  have hN1 : ¬ (t < 0 \/ t > 65535 \/ z < 0 \/ z > 65535):=by have q1:=oF h1;have q2:=oF h2;have q3:=oF h3;have q4:=oF h4;omega
  refine ifK (fun g=>?_) (fun h5=>?_)
  ·exact ⟨([],5,0),_,_,_,rfl,zAx rfl,zIe hN1 (.inl (oT g))⟩
  refine ifK (fun g=>?_) (fun h6=>?_)
  ·exact ⟨([],5,0),_,_,_,rfl,zAx rfl,zIe hN1 (.inr (by rw [lenB h];exact oT g))⟩
  have h3 : ¬ z < 0:=oF h3
  have h5 : ¬ a < 0:=oF h5
  have h6 : ¬ a > (n : Int):=oF h6
  have e1 : IntKind.i64.wrap ((n : Int) - a) = n - a:=wrapN (by omega) (by omega)
  have hN2 : ¬ (a < 0 \/ a > (((l.drop o).take n).length : Int)):=by rw [lenB h];omega
  refine ifK (fun g=>?_) (fun h7=>?_)
  ·exact ⟨([],4,(n : Int)),_,_,_,rfl,zAx rfl,zRr hN1 hN2 (lenB h) (by have g:=oT g;rw [e1] at g;exact g)⟩
  have h7 : ¬ (n : Int) - a < z:=by have h7:=oF h7;rw [e1] at h7;exact h7
  have hN3 : ¬ (((l.drop o).take n).length : Int) - a < z:=by rw [lenB h];exact h7
  have e2 : IntKind.i64.wrap (a + z) = a + z:=wrapN (by omega) (by omega)
  refine aI (by simp) ?_
  refine rr_loop l o n c t a (IntKind.i64.wrap (a + z)) ps p3 p2 h hn hcap ⟨by omega,by omega,by omega⟩ (rcq [1,2,3] ⟨(sL rfl rfl),(sI rfl),(sP rfl rfl),(sI rfl),(sP rfl rfl),⟨_,rfl,.string _⟩,(sI rfl),(sL rfl rfl),(sI rfl),(sI rfl),tv⟩ ⟨bpo (zAc l),bpo rfl,bpo (zAb _ Pt.cell_plain ps),bpo rfl,tv⟩ .nil) (fun er pos f w1 w2 w3 w4=>?_) (fun i out f hl hO=>?_)
  ·exact ⟨_,_,_,_,rfl,zAx rfl,zKn hN1 hN2 hN3 hp (by rw [e2] at w4;exact w4)⟩
  refine ifK (fun g=>?_) (fun h8=>?_)
  ·refine aI ?_ ?_
   ·kernel_rfl
   exact ⟨([],4,a),_,_,_,rfl,zAx rfl,zKn hN1 hN2 hN3 hp (by have := hO _ (.off (fun q=>by rw [q.1] at g;simp at g));rw [e2] at this;exact this)⟩
  refine aI (zFw hl) ?_
  refine ifK (fun h9=>?_) (fun h9=>?_)
  ·refine aI ?_ ?_
   ·kernel_rfl
   exact ⟨([],4,a),_,_,_,rfl,zAx rfl,zKn hN1 hN2 hN3 hp (by have := hO _ (.off (fun q=>by rw [q.2] at h9;simp at h9));rw [e2] at this;exact this)⟩
  have h9 : checkD t (bs out) = 0:=by simpa using h9
  have h8 : i = IntKind.i64.wrap (a + z):=by simpa using h8
  exact ⟨(bs out,0,0),_,_,_,(by show _ = Res.ret (.tuple #[str (bs out),.agg #[.int .i64 0,.int .i64 0]]) _ _ _;rw [<- str_mk out];first | done | rfl),zAx rfl,zKn hN1 hN2 hN3 hp (by have := hO _ (.fin h8 h9);rw [e2] at this;exact this)⟩
 | none =>
  refine zBo mixed (tbD7n t (zRp hp)) [0] Try.func78 (c:=bodyOf Try.f78) (by kernel_rfl) ?_
  refine ifK (fun g=>?_) (fun h1=>?_)
  ·exact ⟨([],2,0),_,_,_,rfl,zAx rfl,zFr (.inl (oT g))⟩
  refine ifK (fun g=>?_) (fun h2=>?_)
  ·exact ⟨([],2,0),_,_,_,rfl,zAx rfl,zFr (.inr (.inl (oT g)))⟩
  refine ifK (fun g=>?_) (fun h3=>?_)
  ·exact ⟨([],2,0),_,_,_,rfl,zAx rfl,zFr (.inr (.inr (.inl (oT g))))⟩
  refine ifK (fun g=>?_) (fun h4=>?_)
  ·exact ⟨([],2,0),_,_,_,rfl,zAx rfl,zFr (.inr (.inr (.inr (oT g))))⟩
  have hN1 : ¬ (t < 0 \/ t > 65535 \/ z < 0 \/ z > 65535):=by have q1:=oF h1;have q2:=oF h2;have q3:=oF h3;have q4:=oF h4;omega
  refine ifK (fun g=>?_) (fun h5=>?_)
  ·exact ⟨([],5,0),_,_,_,rfl,zAx rfl,zIe hN1 (.inl (oT g))⟩
  refine ifK (fun g=>?_) (fun h6=>?_)
  ·exact ⟨([],5,0),_,_,_,rfl,zAx rfl,zIe hN1 (.inr (by rw [lenB h];exact oT g))⟩
  have h1 : ¬ t < 0:=oF h1
  have h2 : ¬ t > 65535:=oF h2
  have h3 : ¬ z < 0:=oF h3
  have h4 : ¬ z > 65535:=oF h4
  have h5 : ¬ a < 0:=oF h5
  have h6 : ¬ a > (n : Int):=oF h6
  have e1 : IntKind.i64.wrap ((n : Int) - a) = n - a:=wrapN (by omega) (by omega)
  have hN2 : ¬ (a < 0 \/ a > (((l.drop o).take n).length : Int)):=by rw [lenB h];omega
  refine ifK (fun g=>?_) (fun h7=>?_)
  ·exact ⟨([],4,(n : Int)),_,_,_,rfl,zAx rfl,zRr hN1 hN2 (lenB h) (by have g:=oT g;rw [e1] at g;exact g)⟩
  have h7 : ¬ (n : Int) - a < z:=by have h7:=oF h7;rw [e1] at h7;exact h7
  have hN3 : ¬ (((l.drop o).take n).length : Int) - a < z:=by rw [lenB h];exact h7
  have e2 : IntKind.i64.wrap (a + z) = a + z:=wrapN (by omega) (by omega)
  have eS : bs ⟨((l.drop (o + a.toNat)).take ((IntKind.i64.wrap (a + z)).toNat - a.toNat)).toArray⟩ = (l.drop (o + a.toNat)).take ((IntKind.i64.wrap (a + z)).toNat - a.toNat):=zXk _
  have eL : ((l.drop (o + a.toNat)).take ((IntKind.i64.wrap (a + z)).toNat - a.toNat)).length<=65535:=by rw [aU,e2];omega
  have fin : rdQ ((l.drop o).take n) a z t ((l.drop (o + a.toNat)).take ((IntKind.i64.wrap (a + z)).toNat - a.toNat),0,0):=by
   have := rdQ_none hN1 hN2 hN3 hp
   rw [List.drop_take,List.take_take,List.drop_drop,Nat.min_eq_left (by omega)] at this
   rw [e2,show (a + z).toNat - a.toNat = z.toNat by omega];exact this
  have srcs : ∀ (o' c' : Nat) (G : Gh),(o' = o + a.toNat \/ (IntKind.i64.wrap (a + z)).toNat - a.toNat = 0) -> G 0 = some (.win (l.map byV) 1) -> zAl G 1 (.slice (some ⟨0,o',none⟩) ((IntKind.i64.wrap (a + z)).toNat - a.toNat) c') = some ((IntKind.i64.wrap (a + z)).toNat - a.toNat,(((l.drop (o + a.toNat)).take ((IntKind.i64.wrap (a + z)).toNat - a.toNat)).map fun b : UInt8=>Value.int .u8 (b.toNat : Int))):=fun o' c' G ho hG=>by
   rw [e2]
   rw [e2] at ho
   unfold zAl
   by_cases hz : (a + z).toNat - a.toNat = 0
   ·rw [hz];simp
   have ho:=ho.resolve_right hz
   subst ho
   have : ((a + z).toNat - a.toNat).beq 0 = false:=by cases hb : ((a + z).toNat - a.toNat).beq 0;rfl;exact ab (aA hb) hz
   simp only [this,cF,hG,Option.bind_some,AObj.look]
   rw [bL (by simp;omega)]
   simp only [cT,aR,List.map_take,List.map_drop];rfl
  refine aI (by simp) ?_
  refine ifK (fun hcu=>?_) (fun hcu=>?_)
  ·refine aI (by rw [e2];simp only [inLH,bA,dT];omega) ?_
   refine eI ((l.drop (o + a.toNat)).take ((IntKind.i64.wrap (a + z)).toNat - a.toNat)) (aI (by rw [h1s];exact srcs _ _ _ (.inl (by rw [aR])) rfl) ?_)
   exact ⟨((l.drop (o + a.toNat)).take ((IntKind.i64.wrap (a + z)).toNat - a.toNat),0,0),_,_,_,rfl,zAx rfl,fin⟩
  have hcU : c ≠ U:=fun e0=>(by subst e0;cases hcu)
  obtain ⟨hc1,hc2⟩:=hcap.resolve_left hcU
  refine aI (by rw [e2];simp only [inLH,bA,dT];exact ⟨⟨⟨⟨by omega,by omega⟩,by omega⟩,bL hc1⟩,bL (by omega)⟩) ?_
  refine eI ((l.drop (o + a.toNat)).take ((IntKind.i64.wrap (a + z)).toNat - a.toNat)) (aI (by rw [h1s];exact srcs _ _ _ (by rw [aR];cases hb : c.beq a.toNat with | true=>(have hb2:=aA hb;rw [e2];exact .inr (by omega)) | false=>exact .inl rfl) rfl) ?_)
  exact ⟨((l.drop (o + a.toNat)).take ((IntKind.i64.wrap (a + z)).toNat - a.toNat),0,0),_,_,_,rfl,zAx rfl,fin⟩
theorem zMm (a : Int) {T : List (Bl × Nat)} : ∀ (ps : List (Bs × Bool)) (out : Bl) (F : List (Bl × Nat)) (en : Nat),(wrN a T ps out F en).1 = 0 -> ∃ X,(wrN a T ps out F en).2.1 = out++X
 | [],out,_,_,_=>⟨[],by simp [wrN]⟩
 | (s,false) :: ps,out,F,en,h=>by
  unfold wrN at h ⊢
  obtain ⟨X,hX⟩:=zMm a ps _ _ _ h
  exact ⟨s++X,by rw [hX,aN]⟩
 | (s,true) :: ps,out,F,en,h=>by
  unfold wrN at h ⊢
  simp only [] at h ⊢
  split at h
  ·rename_i he;exact ab h he
  rename_i he
  rw [if_neg he]
  obtain ⟨X,hX⟩:=zMm a ps _ _ _ h
  exact ⟨_,by rw [hX,aN]⟩
theorem wrapA {a n : Nat} (h : a + n < 9223372036854775807) : IntKind.i64.wrap ((a : Int) + (n : Int)) = ((a + n : Nat) : Int):=by rw [wrapN (by omega) (by omega)];omega
theorem zNk {B : Bl} {T G : List (Bl × Nat)} {a b : Nat} (h : knowsN B T a) (hab : a<=b) (hG : ∀ s k,(s,k) ∈ G -> k < b /\ k < 16384 /\ ∃ e,Nw B k k s e) : knowsN B (T++G) b:=fun t k hm=>by
 rcases List.mem_append.1 hm with hm | hm
 ·exact h.mono hab t k hm
 exact hG t k hm
theorem zHz {B W o X Y : Bl} {a : Nat} (hb : (B.drop a).take W.length = W) (hW : W = o++X++Y) : (B.drop (a + o.length)).take X.length = X:=by
 have h1:=zIk (B:=B) (i:=a) (k:=o.length) hb (by rw [hW];simp)
 have h2:=congrArg (List.take X.length) h1
 rw [List.take_take,Nat.min_eq_left (by rw [hW];simp)] at h2
 rw [h2,hW,aN,List.drop_left,List.take_left]
theorem wrN_rd {B : Bl} {a : Nat} {T : List (Bl × Nat)} {t : Int} {W : Bl} (hB : a + W.length<=B.length) (hBl : B.length < 9223372036854775807) (hb : (B.drop a).take W.length = W) (ai : Int) : ∀ (ps : List Pt) (l : Bs) (o : List (Bs × Bool)) (r : Bs) (out : Bl) (F : List (Bl × Nat)) (en : Nat) (w : Bs) (R : Int × Bl × List (Bl × Nat) × Nat),
  cuts ps l = some (o,r) -> ps.all Pt.small = true -> wrN (a : Int) T o out F en = R -> R.1 = 0 -> R.2.1 = W -> knowsN B (T++F) (a + out.length) -> checkD t (w++o.flatMap fun p=>p.1) = 0 ->
  RdP B ai ((a + W.length : Nat) : Int) t ps ((a + out.length : Nat) : Int) w (w++(o.flatMap fun p=>p.1),0,0) /\ knowsN B (T++R.2.2.1) (a + W.length)
 | [],l,o,r,out,F,en,w,R,hc,_,hR,_,hW,hK,hck=>by
  simp only [cuts,aP,Prod.mk.injEq] at hc
  obtain ⟨rfl,rfl⟩:=hc
  unfold wrN at hR
  subst hR
  have hW : out = W:=hW
  subst hW
  have e : w++(([] : List (Bs × Bool)).flatMap fun p=>p.1) = w:=by simp
  rw [e] at hck ⊢
  exact ⟨.fin rfl hck,hK⟩
 | p :: ps,l,o,r,out,F,en,w,R,hc,hsm,hR,hR0,hW,hK,hck=>by
  simp only [cuts] at hc
  cases hq : p.cut l with
  | none=>rw [hq] at hc;cases hc
  | some n =>
   rw [hq] at hc
   simp only [] at hc
   obtain ⟨⟨o',r'⟩,h1,h2⟩:=Option.map_eq_some_iff.1 hc
   simp only [Prod.mk.injEq] at h2
   obtain ⟨rfl,rfl⟩:=h2
   rw [List.all_cons,bA] at hsm
   have efl : w++(((l.take n,p.isName) :: o').flatMap fun p=>p.1) = (w++l.take n)++(o'.flatMap fun p=>p.1):=by simp
   rw [efl] at hck ⊢
   cases p with
   | rest=>exact ab hsm.1 (by decide)
   | sz k =>
    have hn : n = k /\ k<=l.length:=by
     simp only [Pt.cut] at hq
     split at hq
     ·cases hq;exact ⟨rfl,by assumption⟩
     cases hq
    obtain ⟨rfl,hkl⟩:=hn
    have hR : wrN (a : Int) T ((l.take n,false) :: o') out F en = R:=hR
    unfold wrN at hR
    obtain ⟨X,hX⟩:=zMm (a : Int) (T:=T) o' (out++l.take n) F en (by rw [hR];exact hR0)
    rw [hR,hW] at hX
    have hln : (l.take n).length = n:=by rw [aU];omega
    have hWl : W.length = out.length + n + X.length:=by rw [hX];simp;omega
    obtain ⟨q1,q2⟩:=wrN_rd hB hBl hb ai ps (l.drop n) o' r' (out++l.take n) F en (w++l.take n) R h1 hsm.2 hR hR0 hW (hK.mono (by simp)) hck
    refine ⟨.szc (by omega) ?_,q2⟩
    have e1 : ((a + out.length : Nat) : Int) + (n : Int) = ((a + (out++l.take n).length : Nat) : Int):=by simp [hln];omega
    have e2 : (B.drop ((a + out.length : Nat) : Int).toNat).take ((((a + out.length : Nat) : Int) + (n : Int)).toNat - ((a + out.length : Nat) : Int).toNat) = l.take n:=by
     have := zHz hb hX
     rw [hln] at this
     rw [show (((a + out.length : Nat) : Int) + (n : Int)).toNat - ((a + out.length : Nat) : Int).toNat = n by omega,aO];exact this
    rw [e2,e1];exact q1
   | nm =>
    obtain ⟨m1,m2,m3,m4⟩:=zNh hq
    have hR : wrN (a : Int) T ((l.take n,true) :: o') out F en = R:=hR
    have h255 : (l.take n).length<=255:=by omega
    generalize l.take n = s at *
    have hout : out.length<=W.length:=by
     obtain ⟨X,hX⟩:=zMm (a : Int) (T:=T) ((s,true) :: o') out F en (by rw [hR];exact hR0)
     rw [hR,hW] at hX
     rw [hX];simp
    unfold wrN at hR
    simp only [wrapA (show a + out.length < 9223372036854775807 by omega)] at hR
    by_cases he : pnE en ((a + out.length : Nat) : Int) (mkS s) ≠ 0
    ·rw [if_pos he] at hR
     subst hR
     exact ab hR0 he
    rw [if_neg he,aO] at hR
    obtain ⟨P,hP⟩ : ∃ P,packN (T++F) (a + out.length) s.length s 0 = P:=⟨_,rfl⟩
    rw [hP] at hR
    obtain ⟨X,hX⟩:=zMm (a : Int) (T:=T) o' (out++P.1) (F++P.2) (a + out.length + P.1.length) (by rw [hR];exact hR0)
    rw [hR,hW] at hX
    have hWl : W.length = out.length + P.1.length + X.length:=by rw [hX];simp;omega
    have hbP : (B.drop (a + out.length)).take P.1.length = P.1:=zHz hb hX
    obtain ⟨n1,n2⟩:=zPq (B:=B) hK s.length s 0 m1 (aJ _) (by rw [hP];omega) (by rw [hP];exact hbP)
    rw [hP] at n1 n2
    have hK2 : knowsN B (T++(F++P.2)) (a + (out++P.1).length):=by
     rw [<- aN]
     refine zNk hK (by simp) (fun u k hm=>?_)
     obtain ⟨_,k2,k3,k4⟩:=n2 u k hm
     exact ⟨by simp;omega,k3,k4⟩
    obtain ⟨q1,q2⟩:=wrN_rd hB hBl hb ai ps (l.drop n) o' r' (out++P.1) (F++P.2) _ (w++s) R h1 hsm.2 hR hR0 hW hK2 hck
    refine ⟨.nmc (r:=⟨s,((a + out.length + P.1.length : Nat) : Int),0,0⟩) (.inr ⟨a + out.length,rfl,by omega,?_⟩) rfl (by show ¬ ((a + out.length + P.1.length : Nat) : Int) > _;omega) ?_,q2⟩
    ·have := n1.rd (a:=a + out.length) [] (-1) (by simpa using h255)
     rw [if_pos (by decide),List.nil_append] at this
     exact this
    have e1 : ((a + out.length + P.1.length : Nat) : Int) = ((a + (out++P.1).length : Nat) : Int):=by simp;omega
    show RdP B ai _ t ps ((a + out.length + P.1.length : Nat) : Int) (w++s) _
    rw [e1];exact q1
noncomputable def cq_rdread : CtQ Try.prog :=
 { f:=78,X:=RdB × Int × Int × Int,pre:=fun x a H _=>a = [x.1.sl,.int .i64 x.2.1,.int .i64 x.2.2.1,.int .i64 x.2.2.2] /\ x.1.at H /\ x.1.n<=1000000 /\ (x.1.c = U \/ x.1.n<=x.1.c /\ x.1.c<=9223372036854775807),Q:=fun x v=>∃ y,v = rdV y /\ rdQ x.1.B x.2.1 x.2.2.1 x.2.2.2 y,
   ok:=fun ⟨⟨b,o,n,c,l⟩,i,z,t⟩ a H m ⟨h1,h2,h3,h4⟩=>by
    subst h1
    obtain ⟨r,hF,y,H',m',wr,rfl,hw,hq⟩:=rdread_fn l o n c i z t h2.2 h3 h4
    exact ⟨rdV y,zDb [b] hF hw zKz (.cons _ _ _ _ (.sl _ _ _ _ _ rfl) (zCi rfl)) (zFs h2.1 (zAc l)) rfl,y,rfl,hq⟩,
   uniq:=fun ⟨x,i,z,t⟩ ⟨y,i',z',t'⟩ a H m ⟨h1,h2,_⟩ ⟨k1,k2,_⟩=>by
    rw [h1] at k1
    simp only [aQ,Value.int.injEq,true_and,and_true] at k1
    obtain ⟨e1,rfl,rfl,rfl⟩:=k1
    rw [RdB.uniq e1 h2 k2] }
noncomputable def zXq : Ct Try.prog 0:=cq_rdread.ctY (Bs × Int × Int) rdV (fun (x : RdB × Int × Int × Int) y=>rdQ x.1.B x.2.1 x.2.2.1 x.2.2.2 y) (fun _ _ h=>h)
noncomputable def ct_wreadY : Ct Try.prog 0:=zVk.ctY RR rrV (fun (x : RdB × Int) r=>rdOk x.1.B x.2 r) (fun _ _ h=>h)
theorem RdP.fine {B : Bl} {a e t : Int} {ps : List Pt} {i : Int} {out : Bs} {y : Bs × Int × Int} (h : RdP B a e t ps i out y) (ha : 0<=a /\ a<=B.length) : (y.2.1 ≠ 0 -> y.1 = [] /\ 0<=y.2.2 /\ y.2.2<=B.length) /\ (y.2.1 = 0 -> y.2.2 = 0 /\ checkD t y.1 = 0):=by
 induction h with
 | fin h1 h2=>exact ⟨fun e=>ab rfl e,fun _=>⟨rfl,h2⟩⟩
 | off h=>exact ⟨fun _=>⟨rfl,ha⟩,fun e=>by cases e⟩
 | nmb h he=>exact ⟨fun _=>⟨rfl,h.fine.1 he⟩,fun e=>ab e he⟩
 | nmo h he h2=>exact ⟨fun _=>⟨rfl,ha⟩,fun e=>by cases e⟩
 | nmc _ _ _ _ ih=>exact ih
 | rest _ ih=>exact ih
 | szb h=>exact ⟨fun _=>⟨rfl,ha⟩,fun e=>by cases e⟩
 | szc _ _ ih=>exact ih
theorem rdQ.fine {B : Bl} {a z t : Int} {y : Bs × Int × Int} (h : rdQ B a z t y) : (y.2.1 ≠ 0 -> y.1 = [] /\ 0<=y.2.2 /\ y.2.2<=B.length) /\ (y.2.1 = 0 -> y.2.2 = 0 /\ checkD t y.1 = 0 /\ 0<=z /\ a + z<=B.length):=by
 unfold rdQ at h
 split at h
 ·subst h;exact ⟨fun _=>⟨rfl,Int.le_refl _,Int.natCast_nonneg _⟩,fun e=>by cases e⟩
 split at h
 ·subst h;exact ⟨fun _=>⟨rfl,Int.le_refl _,Int.natCast_nonneg _⟩,fun e=>by cases e⟩
 split at h
 ·subst h;exact ⟨fun _=>⟨rfl,Int.natCast_nonneg _,Int.le_refl _⟩,fun e=>by cases e⟩
 cases hp : ptsT t with
 | none =>
  rw [hp] at h
  subst h
  exact ⟨fun e=>ab rfl e,fun _=>⟨rfl,zXo hp (by omega) (by rw [aU];omega),by omega,by omega⟩⟩
 | some ps =>
  rw [hp] at h
  obtain ⟨q1,q2⟩:=RdP.fine h (by omega)
  exact ⟨q1,fun e=>⟨(q2 e).1,(q2 e).2,by omega,by omega⟩⟩
noncomputable def baseR8 : List (Ct Try.prog 0):=[ct_wreadY,zOm,ct_get32,zXq]
noncomputable def inl_takes : Ct Try.prog 0:=Ct.inl (tbOf mixed baseR8) mixed [0] 87 Try.f87 Try.func87 (bodyOf Try.f87) (by kernel_rfl)
noncomputable def tbR8a : Tb Try.prog 0:=tbOf mixed (inl_takes :: baseR8)
noncomputable def inl_name : Ct Try.prog 0:=Ct.inl tbR8a mixed [0] 75 Try.f75 Try.func75 (bodyOf Try.f75) (by kernel_rfl)
noncomputable def inl_two : Ct Try.prog 0:=Ct.inl tbR8a mixed [0] 76 Try.f76 Try.func76 (bodyOf Try.f76) (by kernel_rfl)
noncomputable def inl_four : Ct Try.prog 0:=Ct.inl tbR8a mixed [0] 77 Try.f77 Try.func77 (bodyOf Try.f77) (by kernel_rfl)
noncomputable def tbR8 : Tb Try.prog 0:=tbOf mixed (inl_name :: inl_two :: inl_four :: baseR8)
def numAt (B : Bl) (k sz : Nat) : Nat:=beN ((B.drop k).take sz)
def recBad (e p : Int) : Value:=.tuple #[.agg #[.string ⟨#[]⟩,.int .i64 0,.int .i64 0,.int .i64 0,.string ⟨#[]⟩],.int .i64 0,.agg #[.int .i64 e,.int .i64 p]]
def zUf (s : Bl) (t c ttl : Nat) (d : Bs) (next : Int) : Value:=.tuple #[.agg #[str s,.int .i64 t,.int .i64 c,.int .i64 (if ttl > 2147483647 then 0 else (ttl : Int)),str d],.int .i64 next,.agg #[.int .i64 0,.int .i64 0]]
def queBad (e p : Int) : Value:=.tuple #[.agg #[.string ⟨#[]⟩,.int .i64 0,.int .i64 0],.int .i64 0,.agg #[.int .i64 e,.int .i64 p]]
def zUc (s : Bl) (t c : Nat) (next : Int) : Value:=.tuple #[.agg #[str s,.int .i64 t,.int .i64 c],.int .i64 next,.agg #[.int .i64 0,.int .i64 0]]
inductive recQ (B : Bl) (a : Int) : Value -> Prop
 | name {r : RR} (h : rdOk B a r) (he : r.e ≠ 0) : recQ B a (recBad r.e r.pos)
 | short {r : RR} {k : Nat} (h : rdOk B a r) (he : r.e = 0) (hk : r.next = k) (hl : B.length < k + 10) : recQ B a (recBad 4 (B.length : Int))
 | data {r : RR} {k : Nat} {y : Bs × Int × Int} (h : rdOk B a r) (he : r.e = 0) (hk : r.next = k) (hl : k + 10<=B.length) (hy : rdQ B (k + 10 : Nat) (numAt B (k + 8) 2) (numAt B k 2) y) (hf : y.2.1 ≠ 0) : recQ B a (recBad y.2.1 y.2.2)
 | fine {r : RR} {k : Nat} {y : Bs × Int × Int} (h : rdOk B a r) (he : r.e = 0) (hk : r.next = k) (hl : k + 10<=B.length) (hy : rdQ B (k + 10 : Nat) (numAt B (k + 8) 2) (numAt B k 2) y) (hf : y.2.1 = 0) : recQ B a (zUf r.s (numAt B k 2) (numAt B (k + 2) 2) (numAt B (k + 4) 4) y.1 ((k + 10 : Nat) + (numAt B (k + 8) 2 : Int)))
theorem recQ.det {B : Bl} {a : Int} {v v' : Value} (h : recQ B a v) (k : recQ B a v') : v = v':=by
 cases h with
 | name h he=>cases k with
  | name h'=>rw [zAr h h']
  | short h' he'=>rw [zAr h h'] at he;exact ab he' he
  | data h' he'=>rw [zAr h h'] at he;exact ab he' he
  | fine h' he'=>rw [zAr h h'] at he;exact ab he' he
 | short h he hk hl=>cases k with
  | name h' he'=>rw [zAr h h'] at he;exact ab he he'
  | short=>rfl
  | data h' _ hk' hl'=>rw [zAr h h',hk'] at hk;omega
  | fine h' _ hk' hl'=>rw [zAr h h',hk'] at hk;omega
 | data h he hk hl hy hf=>cases k with
  | name h' he'=>rw [zAr h h'] at he;exact ab he he'
  | short h' _ hk' hl'=>rw [zAr h h',hk'] at hk;omega
  | data h' _ hk' _ hy'=>rw [zAr h h',hk'] at hk;have hk:=Int.ofNat.inj hk;subst hk;rw [zPs hy hy']
  | fine h' _ hk' _ hy' hf'=>rw [zAr h h',hk'] at hk;have hk:=Int.ofNat.inj hk;subst hk;rw [zPs hy hy'] at hf;exact ab hf' hf
 | fine h he hk hl hy hf=>cases k with
  | name h' he'=>rw [zAr h h'] at he;exact ab he he'
  | short h' _ hk' hl'=>rw [zAr h h',hk'] at hk;omega
  | data h' _ hk' _ hy' hf'=>rw [zAr h h',hk'] at hk;have hk:=Int.ofNat.inj hk;subst hk;rw [zPs hy hy'] at hf;exact ab hf hf'
  | fine h' _ hk' _ hy'=>have e:=zAr h h';subst e;rw [hk'] at hk;have hk:=Int.ofNat.inj hk;subst hk;rw [zPs hy hy']
inductive queQ (B : Bl) (a : Int) : Value -> Prop
 | name {r : RR} (h : rdOk B a r) (he : r.e ≠ 0) : queQ B a (queBad r.e r.pos)
 | short {r : RR} {k : Nat} (h : rdOk B a r) (he : r.e = 0) (hk : r.next = k) (hl : B.length < k + 4) : queQ B a (queBad 4 (B.length : Int))
 | fine {r : RR} {k : Nat} (h : rdOk B a r) (he : r.e = 0) (hk : r.next = k) (hl : k + 4<=B.length) : queQ B a (zUc r.s (numAt B k 2) (numAt B (k + 2) 2) ((k + 4 : Nat) : Int))
theorem queQ.det {B : Bl} {a : Int} {v v' : Value} (h : queQ B a v) (k : queQ B a v') : v = v':=by
 cases h with
 | name h he=>cases k with
  | name h'=>rw [zAr h h']
  | short h' he'=>rw [zAr h h'] at he;exact ab he' he
  | fine h' he'=>rw [zAr h h'] at he;exact ab he' he
 | short h he hk hl=>cases k with
  | name h' he'=>rw [zAr h h'] at he;exact ab he he'
  | short=>rfl
  | fine h' _ hk' hl'=>rw [zAr h h',hk'] at hk;omega
 | fine h he hk hl=>cases k with
  | name h' he'=>rw [zAr h h'] at he;exact ab he he'
  | short h' _ hk' hl'=>rw [zAr h h',hk'] at hk;omega
  | fine h' _ hk'=>have e:=zAr h h';subst e;rw [hk'] at hk;have hk:=Int.ofNat.inj hk;subst hk;rfl
theorem zUd (l : Bl) (o n c : Nat) (i : Int) (h : o + n<=l.length) (hn : n<=1000000) (hcap : c = U \/ n<=c /\ c<=9223372036854775807) : ∃ r,FnS Try.prog 0 57 [.slice (some ⟨0,o,none⟩) n c,.int .i64 i] (heap 1 [(0,.win (l.map byV) 1)]) 1 r /\ ∃ v H m wr,r = .ret v H m wr /\ (∀ k ∈ wr,1<=k) /\ plainV 8 v = true /\ queQ ((l.drop o).take n) i v:=by
 have hB:=lenB h
 have htake : ∀ j m : Nat,j + m<=n -> numAt ((l.drop o).take n) j m = beN ((l.drop (o + j)).take m):=fun j m hjm=>by unfold numAt;rw [List.drop_take,List.take_take,List.drop_drop,Nat.min_eq_left (by omega)]
 refine zBo mixed tbR8 [0] Try.func57 (c:=bodyOf Try.f57) (by kernel_rfl) ?_
 refine aI ?_ ?_
 ·kernel_rfl
 refine eI (⟨0,o,n,c,l⟩,i) (aI ⟨rfl,⟨rfl,h⟩,(by show n<=_;omega),hcap⟩ ?_)
 intro r hr
 obtain ⟨s,nx,e,pos⟩:=r
 have hr : rdOk ((l.drop o).take n) i ⟨s,nx,e,pos⟩:=hr
 refine ifK (fun g=>?_) (fun g=>?_)
 ·have g : e ≠ 0:=by simpa using g
  have gz : (e == 0) = true -> False:=fun q=>g (by simpa using q)
  refine ifK (fun q=>(gz q).elim) (fun _=>?_)
  refine ifK (fun q=>(gz q).elim) (fun _=>?_)
  refine ifK (fun _=>?_) (fun q=>ab q (by simpa using g))
  refine aI ?_ ?_
  ·kernel_rfl
  exact ⟨queBad e pos,_,_,_,rfl,zAx rfl,rfl,.name hr g⟩
 have g : e = 0:=by simpa using g
 subst g
 obtain ⟨q1,q2,_⟩:=hr.fine.2 rfl
 have q1 : 0<=nx:=q1
 have q2 : nx<=(((l.drop o).take n).length : Int):=q2
 rw [hB] at q2
 obtain ⟨k,rfl⟩:=Int.eq_ofNat_of_zero_le q1
 refine aI ?_ ?_
 ·kernel_rfl
 refine eI (⟨0,o,n,c,l⟩,((k + 0 : Nat) : Int)) (aI ⟨rfl,⟨rfl,h⟩,(by show n<=_;omega)⟩ ?_)
 refine ifK (fun q=>ab q (by simp only [Bool.or_eq_true,dT];omega)) (fun _=>?_)
 refine ifK (fun s0=>?_) (fun s0=>?_)
 rotate_left
 ·have s0 : ¬ k + 2<=n:=fun e=>by rw [show Nat.ble (((k + 0 : Nat) : Int).toNat + 2) n = true from bL e] at s0;cases s0
  refine aI ?_ ?_
  ·kernel_rfl
  exact ⟨queBad 4 (n : Int),_,_,_,rfl,zAx rfl,rfl,by have := queQ.short hr rfl rfl (show ((l.drop o).take n).length < _ by rw [hB];omega);rw [hB] at this;exact this⟩
 have s0 : k + 2<=n:=aE s0
 refine aI ?_ ?_
 ·kernel_rfl
 refine eI (⟨0,o,n,c,l⟩,((k + 2 : Nat) : Int)) (aI ⟨rfl,⟨rfl,h⟩,(by show n<=_;omega)⟩ ?_)
 refine ifK (fun q=>ab q (by simp only [Bool.or_eq_true,dT];omega)) (fun _=>?_)
 refine ifK (fun s2=>?_) (fun s2=>?_)
 rotate_left
 ·have s2 : ¬ k + 4<=n:=fun e=>by rw [show Nat.ble (((k + 2 : Nat) : Int).toNat + 2) n = true from bL e] at s2;cases s2
  refine aI ?_ ?_
  ·kernel_rfl
  exact ⟨queBad 4 (n : Int),_,_,_,rfl,zAx rfl,rfl,by have := queQ.short hr rfl rfl (show ((l.drop o).take n).length < _ by rw [hB];omega);rw [hB] at this;exact this⟩
 have s2 : k + 4<=n:=aE s2
 refine aI ?_ ?_
 ·kernel_rfl
 have fin:=queQ.fine hr rfl rfl (show k + 4<=((l.drop o).take n).length by rw [hB];omega)
 rw [htake k 2 (by omega),htake (k + 2) 2 (by omega)] at fin
 exact ⟨_,_,_,_,rfl,zAx rfl,rfl,fin⟩
theorem zYh (l : Bl) (o n c : Nat) (i : Int) (h : o + n<=l.length) (hn : n<=1000000) (hcap : c = U \/ n<=c /\ c<=9223372036854775807) : ∃ r,FnS Try.prog 0 58 [.slice (some ⟨0,o,none⟩) n c,.int .i64 i] (heap 1 [(0,.win (l.map byV) 1)]) 1 r /\ ∃ v H m wr,r = .ret v H m wr /\ (∀ k ∈ wr,1<=k) /\ plainV 8 v = true /\ recQ ((l.drop o).take n) i v:=by
 have hB:=lenB h
 have htake : ∀ j m : Nat,j + m<=n -> numAt ((l.drop o).take n) j m = beN ((l.drop (o + j)).take m):=fun j m hjm=>by unfold numAt;rw [List.drop_take,List.take_take,List.drop_drop,Nat.min_eq_left (by omega)]
 refine zBo mixed tbR8 [0] Try.func58 (c:=bodyOf Try.f58) (by kernel_rfl) ?_
 refine aI ?_ ?_
 ·kernel_rfl
 refine eI (⟨0,o,n,c,l⟩,i) (aI ⟨rfl,⟨rfl,h⟩,(by show n<=_;omega),hcap⟩ ?_)
 intro r hr
 obtain ⟨s,nx,e,pos⟩:=r
 have hr : rdOk ((l.drop o).take n) i ⟨s,nx,e,pos⟩:=hr
 refine ifK (fun g=>?_) (fun g=>?_)
 ·have g : e ≠ 0:=by simpa using g
  have gz : (e == 0) = true -> False:=fun q=>g (by simpa using q)
  refine ifK (fun q=>(gz q).elim) (fun _=>?_)
  refine ifK (fun q=>(gz q).elim) (fun _=>?_)
  refine ifK (fun q=>(gz q).elim) (fun _=>?_)
  refine ifK (fun q=>(gz q).elim) (fun _=>?_)
  refine ifK (fun _=>?_) (fun q=>ab q (by simpa using g))
  refine aI ?_ ?_
  ·kernel_rfl
  exact ⟨recBad e pos,_,_,_,rfl,zAx rfl,rfl,.name hr g⟩
 have g : e = 0:=by simpa using g
 subst g
 obtain ⟨q1,q2,_⟩:=hr.fine.2 rfl
 have q1 : 0<=nx:=q1
 have q2 : nx<=(((l.drop o).take n).length : Int):=q2
 rw [hB] at q2
 obtain ⟨k,rfl⟩:=Int.eq_ofNat_of_zero_le q1
 refine aI ?_ ?_
 ·kernel_rfl
 refine eI (⟨0,o,n,c,l⟩,((k + 0 : Nat) : Int)) (aI ⟨rfl,⟨rfl,h⟩,(by show n<=_;omega)⟩ ?_)
 refine ifK (fun q=>ab q (by simp only [Bool.or_eq_true,dT];omega)) (fun _=>?_)
 refine ifK (fun s0=>?_) (fun s0=>?_)
 rotate_left
 ·have s0 : ¬ k + 2<=n:=fun e=>by rw [show Nat.ble (((k + 0 : Nat) : Int).toNat + 2) n = true from bL e] at s0;cases s0
  refine aI ?_ ?_
  ·kernel_rfl
  exact ⟨recBad 4 (n : Int),_,_,_,rfl,zAx rfl,rfl,by have := recQ.short hr rfl rfl (show ((l.drop o).take n).length < _ by rw [hB];omega);rw [hB] at this;exact this⟩
 have s0 : k + 2<=n:=aE s0
 refine aI ?_ ?_
 ·kernel_rfl
 refine eI (⟨0,o,n,c,l⟩,((k + 2 : Nat) : Int)) (aI ⟨rfl,⟨rfl,h⟩,(by show n<=_;omega)⟩ ?_)
 refine ifK (fun q=>ab q (by simp only [Bool.or_eq_true,dT];omega)) (fun _=>?_)
 refine ifK (fun s2=>?_) (fun s2=>?_)
 rotate_left
 ·have s2 : ¬ k + 4<=n:=fun e=>by rw [show Nat.ble (((k + 2 : Nat) : Int).toNat + 2) n = true from bL e] at s2;cases s2
  refine aI ?_ ?_
  ·kernel_rfl
  exact ⟨recBad 4 (n : Int),_,_,_,rfl,zAx rfl,rfl,by have := recQ.short hr rfl rfl (show ((l.drop o).take n).length < _ by rw [hB];omega);rw [hB] at this;exact this⟩
 have s2 : k + 4<=n:=aE s2
 refine aI ?_ ?_
 ·kernel_rfl
 refine eI (⟨0,o,n,c,l⟩,((k + 4 : Nat) : Int)) (aI ⟨rfl,⟨rfl,h⟩,(by show n<=_;omega)⟩ ?_)
 refine ifK (fun q=>ab q (by simp only [Bool.or_eq_true,dT];omega)) (fun _=>?_)
 refine ifK (fun s4=>?_) (fun s4=>?_)
 rotate_left
 ·have s4 : ¬ k + 8<=n:=fun e=>by rw [show Nat.ble (((k + 4 : Nat) : Int).toNat + 4) n = true from bL e] at s4;cases s4
  refine aI ?_ ?_
  ·kernel_rfl
  exact ⟨recBad 4 (n : Int),_,_,_,rfl,zAx rfl,rfl,by have := recQ.short hr rfl rfl (show ((l.drop o).take n).length < _ by rw [hB];omega);rw [hB] at this;exact this⟩
 have s4 : k + 8<=n:=aE s4
 refine aI ?_ ?_
 ·kernel_rfl
 refine eI (⟨0,o,n,c,l⟩,((k + 8 : Nat) : Int)) (aI ⟨rfl,⟨rfl,h⟩,(by show n<=_;omega)⟩ ?_)
 refine ifK (fun q=>ab q (by simp only [Bool.or_eq_true,dT];omega)) (fun _=>?_)
 refine ifK (fun s8=>?_) (fun s8=>?_)
 rotate_left
 ·have s8 : ¬ k + 10<=n:=fun e=>by rw [show Nat.ble (((k + 8 : Nat) : Int).toNat + 2) n = true from bL e] at s8;cases s8
  refine aI ?_ ?_
  ·kernel_rfl
  exact ⟨recBad 4 (n : Int),_,_,_,rfl,zAx rfl,rfl,by have := recQ.short hr rfl rfl (show ((l.drop o).take n).length < _ by rw [hB];omega);rw [hB] at this;exact this⟩
 have s8 : k + 10<=n:=aE s8
 refine aI ?_ ?_
 ·kernel_rfl
 refine eI (⟨0,o,n,c,l⟩,((k + 10 : Nat) : Int),(beN ((l.drop (o + (k + 8))).take 2) : Int),(beN ((l.drop (o + k)).take 2) : Int)) (aI ⟨rfl,⟨rfl,h⟩,(by show n<=_;omega),hcap⟩ ?_)
 intro y hy
 have hy : rdQ ((l.drop o).take n) ((k + 10 : Nat) : Int) (beN ((l.drop (o + (k + 8))).take 2) : Int) (beN ((l.drop (o + k)).take 2) : Int) y:=hy
 have hy2:=hy
 rw [<- htake (k + 8) 2 (by omega),<- htake k 2 (by omega)] at hy2
 have hl : k + 10<=((l.drop o).take n).length:=by rw [hB];omega
 refine ifK (fun g=>?_) (fun g=>?_)
 ·have g : y.2.1 ≠ 0:=by simpa using g
  refine aI ?_ ?_
  ·kernel_rfl
  exact ⟨recBad y.2.1 y.2.2,_,_,_,rfl,zAx rfl,rfl,.data hr rfl rfl hl hy2 g⟩
 have g : y.2.1 = 0:=by simpa using g
 have fin:=recQ.fine hr rfl rfl hl hy2 g
 have hy3:=(hy.fine.2 g).2.2.2
 rw [hB] at hy3
 rw [htake k 2 (by omega),htake (k + 2) 2 (by omega),htake (k + 4) 4 (by omega),htake (k + 8) 2 (by omega)] at fin
 have ew : IntKind.i64.wrap (((k + 10 : Nat) : Int) + (beN ((l.drop (o + (k + 8))).take 2) : Int)) = ((k + 10 : Nat) : Int) + (beN ((l.drop (o + (k + 8))).take 2) : Int):=wrapM (by omega) (by omega)
 unfold zUf at fin
 refine ifK (fun g2=>?_) (fun g2=>?_)
 ·have g2 : (beN ((l.drop (o + (k + 4))).take 4) : Int) > 2147483647:=oT g2
  rw [if_pos (by omega)] at fin
  refine aI ?_ ?_
  ·kernel_rfl
  rw [<- ew] at fin
  exact ⟨_,_,_,_,rfl,zAx rfl,rfl,fin⟩
 have g2 : ¬ (beN ((l.drop (o + (k + 4))).take 4) : Int) > 2147483647:=oF g2
 rw [if_neg (by omega)] at fin
 refine aI ?_ ?_
 ·kernel_rfl
 rw [<- ew] at fin
 exact ⟨_,_,_,_,rfl,zAx rfl,rfl,fin⟩
theorem ovN_ne (b : Nat) {o : Bl} (h : o ≠ []) : ovN b o = sq b o.length U:=by
 cases o with
 | nil=>exact ab rfl h
 | cons u us=>rfl
def PkFn (f : FuncId) (xs : List Value) (en : Nat) (T : List (Bl × Nat)) (ck : Nat) (R : Int × Bl × List (Bl × Nat) × Nat) : Prop :=
 ∃ r,FnS Try.prog 0 f (pt 0 :: xs) (heap 2 [(0,.cells [.map (some 1),.int .i64 (en : Int)] 102),(1,.map (encT T) ck)]) 2 r /\
  ∃ H m wr b,r = .ret (.tuple #[ovN b R.2.1,.int .i64 R.1]) H m wr /\ (R.2.1 ≠ [] -> 2<=b /\ b < JJ /\ H.get b = some (.cells (R.2.1.map byV) 5)) /\ H.get 0 = some (.cells [.map (some 1),.int .i64 (R.2.2.2 : Int)] 102) /\ H.get 1 = some (.map (encT (T++R.2.2.1)) (ck + R.2.2.1.length))
structure PkY (Y : Type) where
 pb : Nat
 mb : Nat
 en : Nat
 T : List (Bl × Nat)
 ck : Nat
 y : Y
 e : Int
 o : Bl
 F : List (Bl × Nat)
 en' : Nat
noncomputable def ct_pk (f : FuncId) (Y : Type) (xs : Y -> List Value) (inj : ∀ y y',xs y = xs y' -> y = y') (pl : ∀ y,plainL (xs y) = true) (pre : Y -> Prop) (D : Nat -> List (Bl × Nat) -> Y -> Int × Bl × List (Bl × Nat) × Nat)
  (fn : ∀ (y : Y) (en : Nat) (T : List (Bl × Nat)) (ck : Nat),goodT T -> pre y -> PkFn f (xs y) en T ck (D en T y)) : Ct Try.prog 0 :=
 CtR.ct { f:=f,X:=PkY Y,
          pre:=fun x as0 H _=>as0 = .pointer (some ⟨x.pb,0,none⟩) :: xs x.y /\ H.get x.pb = some (.cells [.map (some x.mb),.int .i64 (x.en : Int)] 102) /\ H.get x.mb = some (.map (encT x.T) x.ck) /\ goodT x.T /\ pre x.y /\ D x.en x.T x.y = (x.e,x.o,x.F,x.en'),
          out:=fun x H n=>packO x.pb x.mb x.T x.ck x.e x.o x.F x.en' H n,
          tr:=fun x H n K=>frcN x.pb fun pb=>frcN x.mb fun mb=>K (packO pb mb x.T x.ck x.e x.o x.F x.en' H n),
          trOk:=fun x H n K h=>zRk h,
          ok:=fun x as0 H n ⟨h1,h2,h3,h4,h5,h6⟩=>by
           subst h1
           obtain ⟨pb,mb,en,T,ck,y,e,o,F,en'⟩:=x
           obtain ⟨q1,q2,q3⟩:=packB h2 h3
           have hfn:=fn y en T ck h4 h5
           have h6 : D en T y = (e,o,F,en'):=h6
           rw [h6] at hfn
           obtain ⟨r,hF,H',m,wr,b,rfl,g1,g2,g3⟩:=hfn
           have := zJm (n:=n) (hF.wr [0,1]) q1 q2 (.cons _ _ _ _ (.ptr _ _ _ rfl) (zCi (pl y))) h2 h3 (by simp) (by simp) g1 g2 g3 q3
           cases o <;> exact this,
          uniq:=fun x y as0 H n ⟨h1,h2,h3,_,_,h6⟩ ⟨k1,k2,k3,_,_,k6⟩=>by
           obtain ⟨pb,mb,en,T,ck,z,e,o,F,en1⟩:=x
           obtain ⟨pb',mb',en',T',ck',z',e',o',F',en1'⟩:=y
           rw [h1] at k1
           simp only [aQ,Value.pointer.injEq,aP,Addr.mk.injEq,and_true] at k1
           obtain ⟨rfl,k1⟩:=k1
           have := inj _ _ k1
           subst this
           obtain ⟨rfl,rfl,rfl,rfl⟩:=zRl h2 h3 k2 k3
           have := h6.symm.trans k6
           simp only [Prod.mk.injEq] at this
           obtain ⟨rfl,rfl,rfl,rfl⟩:=this
           rfl }
noncomputable def inl_twos : Ct Try.prog 0:=Ct.inl (tbOf mixed [zKa]) mixed [] 71 Try.f71 Try.func71 (bodyOf Try.f71) (by kernel_rfl)
noncomputable def inl_rnone : Ct Try.prog 0:=Ct.inl (tbOf mixed [zOn]) mixed [] 68 Try.f68 Try.func68 (bodyOf Try.f68) (by kernel_rfl)
noncomputable def tbWr7 : Tb Try.prog 0:=tbOf mixed [inl_rnone,zHs,zQq,zKy,zOn,inl_twos,ct_put32,ct_write]
theorem zCw {n m : Int} (h : numB n m = true) : ∃ k : Nat,n = (k : Int) /\ (k : Int)<=m:=by
 unfold numB at h
 have h:=oT h
 exact ⟨n.toNat,by omega,by omega⟩
theorem zWq (en : Nat) (T : List (Bl × Nat)) : pnR en T (-1) (mkS [0]) true [] []:=⟨by rw [zWn];rfl,fun h=>by cases h⟩
structure AskY where
 a : Int
 n : ByteArray
 t : Int
 c : Int
def AskY.xs (y : AskY) : List Value:=[.int .i64 y.a,.agg #[.string y.n,.int .i64 y.t,.int .i64 y.c]]
theorem AskY.inj (y z : AskY) (h : y.xs = z.xs) : y = z:=by
 obtain ⟨a,n,t,c⟩:=y
 obtain ⟨a',n',t',c'⟩:=z
 simp only [AskY.xs,aQ,Value.int.injEq,Value.agg.injEq,Array.mk.injEq,Value.string.injEq,true_and,and_true] at h
 obtain ⟨rfl,rfl,rfl,rfl⟩:=h;rfl
def AskY.D (en : Nat) (T : List (Bl × Nat)) (y : AskY) : Int × Bl × List (Bl × Nat) × Nat:=askD en T y.a y.n y.t y.c
theorem ask_fn (y : AskY) (en : Nat) (T : List (Bl × Nat)) (ck : Nat) (hT : goodT T) (hs : shortB y.n = true) : PkFn 52 y.xs en T ck (y.D en T):=by
 obtain ⟨a,n,t,c⟩:=y
 have h1s : (Try.prog.types[5]).size = 1:=by kernel_rfl
 have hby : (Try.prog.types[5]).bytes = 1:=by kernel_rfl
 refine zBo mixed tbWr7 [1] Try.func52 (c:=bodyOf Try.f52) (by kernel_rfl) ?_
 refine eI (⟨0,1,en,T,ck,-1,mkS [0],true,[],[]⟩ : PkX) (aI ⟨rfl,rfl,(show Tr.get _ 1 = some (AObj.map (encT T) ck) from rfl),hT,rfl,zWq en T⟩ ?_)
 refine aI hs ?_
 unfold AskY.D askD
 refine ifK (fun g=>?_) (fun g=>?_)
 ·have g : (labels (bs n)).2 ≠ 0:=by simpa using g
  rw [if_pos g]
  exact ⟨_,_,_,0,rfl,fun h=>ab rfl h,rfl,by rw [aF];rfl⟩
 have g : ¬ (labels (bs n)).2 ≠ 0:=by simpa using g
 rw [if_neg g]
 refine ifK (fun g2=>?_) (fun g2=>?_)
 ·rw [show numB t 65535 = false by simpa using g2]
  exact ⟨_,_,_,0,rfl,fun h=>ab rfl h,rfl,by show some (AObj.map (encT T) ck) = _;simp⟩
 have k2 : numB t 65535 = true:=by simpa using g2
 rw [k2]
 refine ifK (fun g3=>?_) (fun g3=>?_)
 ·rw [show numB c 65535 = false by simpa using g3]
  exact ⟨_,_,_,0,rfl,fun h=>ab rfl h,rfl,by show some (AObj.map (encT T) ck) = _;simp⟩
 have k3 : numB c 65535 = true:=by simpa using g3
 clear g2 g3
 rw [k3,show (true&&true) = true from rfl,if_pos rfl]
 by_cases he : pnE en a n ≠ 0
 ·rw [if_pos he]
  refine eI (⟨0,1,en,T,ck,a,n,true,[],[]⟩ : PkX) (aI ⟨rfl,rfl,(show Tr.get _ 1 = some (AObj.map (encT T) ck) from rfl),hT,hs,(aX he).symm,fun h=>by cases h⟩ ?_)
  refine ifK (fun _=>?_) (fun g=>ab (show pnE en a n = 0 by simpa using g) he)
  exact ⟨_,_,_,0,rfl,fun h=>ab rfl h,rfl,by show some (AObj.map (encT T) ck) = _;simp⟩
 rw [if_neg he]
 have he0 : pnE en a n = 0:=Decidable.not_not.1 he
 obtain ⟨⟨p1,p2⟩,p3,p4,p5⟩:=zHh he0
 obtain ⟨r,hr⟩ : ∃ r,packN T a.toNat (bs n).length (bs n) 0 = r:=⟨_,rfl⟩
 have hl1:=zCr T a.toNat (bs n).length (bs n) 0
 rw [hr] at hl1 ⊢
 obtain ⟨o,F⟩:=r
 have hl1 : o.length<=257:=by have : o.length<=(bs n).length + 2:=hl1;omega
 obtain ⟨t,rfl,ht⟩:=zCw k2
 obtain ⟨c,rfl,hc⟩:=zCw k3
 refine eI (⟨0,1,en,T,ck,a,n,false,o,F⟩ : PkX) (aI ⟨rfl,rfl,(show Tr.get _ 1 = some (AObj.map (encT T) ck) from rfl),hT,hs,(aY he).symm,fun _=>hr⟩ ?_)
 refine eI t (aI ⟨rfl,by omega⟩ ?_)
 refine eI c (aI ⟨rfl,by omega⟩ ?_)
 refine aI (by kernel_rfl) ?_
 refine aI (by rw [h1s,hby];simp only [bA,dT];exact ⟨⟨⟨⟨⟨⟨rfl,rfl⟩,bL (by simp)⟩,rfl⟩,(by omega)⟩,(by omega)⟩,bL (by simp)⟩) ?_
 have hne : o++by2 t++by2 c ≠ []:=by simp [by2]
 have hv : sq 9 (o.length + (2 + 2)) U = ovN 9 (o++by2 t++by2 c):=by rw [ovN_ne 9 hne];simp [by2]
 have hc : (List.take (o.length * 1) (o.map byV)++[byV (hi8 t),byV (lo8 t),byV (hi8 c),byV (lo8 c)]) = (o++by2 t++by2 c).map byV:=by rw [aR,aD (by simp)];simp [by2]
 refine ⟨_,_,_,9,congrArg (fun v=>Res.ret (.tuple #[v,.int .i64 0]) _ _ _) hv,fun _=>⟨by decide,by decide,?_⟩,rfl,rfl⟩
 exact congrArg (fun l=>some (AObj.cells l _)) hc
structure WrtY where
 a : Int
 x : RcX
def WrtY.xs (y : WrtY) : List Value:=[.int .i64 y.a,y.x.v]
theorem WrtY.inj (y z : WrtY) (h : y.xs = z.xs) : y = z:=by
 obtain ⟨a,n,t,c,w,d⟩:=y
 obtain ⟨a',n',t',c',w',d'⟩:=z
 simp only [WrtY.xs,RcX.v,aQ,Value.int.injEq,Value.agg.injEq,Array.mk.injEq,Value.string.injEq,true_and,and_true] at h
 obtain ⟨rfl,rfl,rfl,rfl,rfl,rfl⟩:=h;rfl
def WrtY.D (en : Nat) (T : List (Bl × Nat)) (y : WrtY) : Int × Bl × List (Bl × Nat) × Nat:=recD en T y.a y.x
theorem recD_pn {en : Nat} {T : List (Bl × Nat)} {a : Int} {x : RcX} (h : recC x = 0) (he : pnE en a x.n ≠ 0) : recD en T a x = (pnE en a x.n,[],[],en):=by
 obtain ⟨z1,z2,z3,z4,z5⟩:=zFt h
 unfold recD askD
 rw [if_neg (aL h),if_neg (aL z1),z2,z3,show (true&&true) = true from rfl,if_pos rfl,if_pos he]
 simp only []
 rw [if_pos he]
theorem recD_ok {en : Nat} {T : List (Bl × Nat)} {k : Nat} {x : RcX} {o : Bl} {F : List (Bl × Nat)} (h : recC x = 0) (he : pnE en k x.n = 0) (hr : packN T k (bs x.n).length (bs x.n) 0 = (o,F)) {R : Int × Bl × List (Bl × Nat) × Nat} (hR : wrD (k + o.length) (T++F) ((k + (o.length + 8) + 2 : Nat) : Int) x.t (bs x.d) = R) :
  recD en T k x = if R.1 ≠ 0 then (R.1,[],F++R.2.2.1,R.2.2.2) else (0,(o++by2 x.t.toNat++by2 x.c.toNat++by4 x.ttl.toNat)++by2 R.2.1.length++R.2.1,F++R.2.2.1,R.2.2.2):=by
 obtain ⟨z1,z2,z3,z4,z5⟩:=zFt h
 have hl : (o++by2 x.t.toNat++by2 x.c.toNat++by4 x.ttl.toNat).length = o.length + 8:=by simp [by2,by4]
 unfold recD askD
 rw [if_neg (aL h),if_neg (aL z1),z2,z3,show (true&&true) = true from rfl,if_pos rfl,if_neg (aL he),aO,hr]
 simp only []
 rw [if_neg (aL rfl),hl,hR]
theorem wrN_e (a : Int) {T : List (Bl × Nat)} : ∀ (ps : List (Bs × Bool)) (out : Bl) (F : List (Bl × Nat)) (en : Nat),(wrN a T ps out F en).1 ≠ 0 -> (wrN a T ps out F en).2.1 = []
 | [],_,_,_=>fun h=>ab rfl h
 | (s,false) :: ps,out,F,en=>by unfold wrN;exact wrN_e a ps _ _ _
 | (s,true) :: ps,out,F,en=>by
  unfold wrN
  simp only []
  split
  ·exact fun _=>rfl
  exact wrN_e a ps _ _ _
theorem wrD_e {en : Nat} {T : List (Bl × Nat)} {a t : Int} {l : Bs} : (wrD en T a t l).1 ≠ 0 -> (wrD en T a t l).2.1 = []:=by
 unfold wrD
 split
 ·exact fun _=>rfl
 exact wrN_e _ _ _ _ _
theorem recw_fn (y : WrtY) (en : Nat) (T : List (Bl × Nat)) (ck : Nat) (hT : goodT T) (hs : y.x.ok = true) : PkFn 54 y.xs en T ck (y.D en T):=by
 obtain ⟨a,x⟩:=y
 have hs : x.ok = true:=hs
 have h1s : (Try.prog.types[5]).size = 1:=by kernel_rfl
 have hby : (Try.prog.types[5]).bytes = 1:=by kernel_rfl
 obtain ⟨hn,hd⟩:=RcX.ok1 hs
 have hsh : shortB x.n = true:=zFw (by omega)
 have hdh : shortB x.d = true:=zFw (by omega)
 unfold WrtY.D
 obtain ⟨n,t,c,w,d⟩:=x
 have hd : (bs d).length<=100000000:=hd
 refine zBo mixed tbWr7 [1,12] Try.func54 (c:=bodyOf Try.f54) (by kernel_rfl) ?_
 refine eI (⟨0,1,en,T,ck,-1,mkS [0],true,[],[]⟩ : PkX) (aI ⟨rfl,rfl,(show Tr.get _ 1 = some (AObj.map (encT T) ck) from rfl),hT,rfl,zWq en T⟩ ?_)
 refine aI hs ?_
 refine ifK (fun g=>?_) (fun g=>?_)
 ·have g : recC ⟨n,t,c,w,d⟩ ≠ 0:=by simpa using g
  unfold recD
  rw [if_pos g]
  exact ⟨_,_,_,0,rfl,fun h=>ab rfl h,rfl,by show some (AObj.map (encT T) ck) = _;simp⟩
 have gz : recC ⟨n,t,c,w,d⟩ = 0:=by simpa using g
 clear g
 by_cases he : pnE en a n ≠ 0
 ·refine eI (⟨0,1,en,T,ck,a,n,true,[],[]⟩ : PkX) (aI ⟨rfl,rfl,(show Tr.get _ 1 = some (AObj.map (encT T) ck) from rfl),hT,hsh,(aX he).symm,fun h=>by cases h⟩ ?_)
  refine ifK (fun _=>?_) (fun g=>ab (show pnE en a n = 0 by simpa using g) he)
  have e1 : recD en T a ⟨n,t,c,w,d⟩ = _:=recD_pn gz he
  simp only [e1]
  exact ⟨_,_,_,0,rfl,fun h=>ab rfl h,rfl,by show some (AObj.map (encT T) ck) = _;simp⟩
 have he0 : pnE en a n = 0:=Decidable.not_not.1 he
 obtain ⟨⟨p1,p2⟩,p3,p4,p5⟩:=zHh he0
 obtain ⟨k,rfl⟩ : ∃ k : Nat,a = (k : Int):=⟨a.toNat,by omega⟩
 obtain ⟨r,hr⟩ : ∃ r,packN T k (bs n).length (bs n) 0 = r:=⟨_,rfl⟩
 have hl1:=zCr T k (bs n).length (bs n) 0
 have hgd:=zEf hT k (bs n).length (bs n) 0
 rw [hr] at hl1 hgd
 obtain ⟨o,F⟩:=r
 have hl1 : o.length<=257:=by have : o.length<=(bs n).length + 2:=hl1;omega
 obtain ⟨R,hR⟩ : ∃ R,wrD (k + o.length) (T++F) ((k + (o.length + 8) + 2 : Nat) : Int) t (bs d) = R:=⟨_,rfl⟩
 have e1 : recD en T k ⟨n,t,c,w,d⟩ = _:=recD_ok gz he0 hr hR
 simp only [e1]
 obtain ⟨z1,z2,z3,z4,z5⟩:=zFt gz
 obtain ⟨t,rfl,ht⟩:=zCw z2
 obtain ⟨c,rfl,hc⟩:=zCw z3
 obtain ⟨w,rfl,hw⟩:=zCw z4
 have hle:=wrD_le (en:=k + o.length) (T:=T++F) (a:=((k + (o.length + 8) + 2 : Nat) : Int)) (t:=(t : Int)) (l:=bs d)
 have hld:=(zGd z5).2.2.1
 rw [hR] at hle
 obtain ⟨e2,o2,F2,en2⟩:=R
 have hl2 : o2.length<=65535:=aW hle hld
 clear hle
 refine eI (⟨0,1,en,T,ck,k,n,false,o,F⟩ : PkX) (aI ⟨rfl,rfl,(show Tr.get _ 1 = some (AObj.map (encT T) ck) from rfl),hT,hsh,(aY he).symm,fun _=>hr⟩ ?_)
 refine eI w (aI ⟨rfl,by omega⟩ ?_)
 refine eI t (aI ⟨rfl,by omega⟩ ?_)
 refine eI c (aI ⟨rfl,by omega⟩ ?_)
 refine aI (by kernel_rfl) ?_
 refine aI (by rw [h1s,hby];simp only [bA,dT];exact ⟨⟨⟨⟨⟨⟨rfl,rfl⟩,bL (by simp)⟩,rfl⟩,(by omega)⟩,(by omega)⟩,bL (by simp)⟩) ?_
 refine aI (by rw [h1s,hby];simp only [bA,dT];exact ⟨⟨⟨⟨⟨⟨rfl,rfl⟩,bL (by simp)⟩,rfl⟩,(by omega)⟩,(by omega)⟩,bL (by simp [by4])⟩) ?_
 have hat : IntKind.i64.wrap (IntKind.i64.wrap ((k : Int) + ((o.length + (2 + 2) + 4 : Nat) : Int)) + 2) = ((k + (o.length + 8) + 2 : Nat) : Int):=by
  have i1 : IntKind.i64.wrap ((k : Int) + ((o.length + (2 + 2) + 4 : Nat) : Int)) = ((k + (o.length + 8) : Nat) : Int):=by rw [wrapN (by omega) (by omega)];omega
  rw [i1,wrapN (by omega) (by omega)];omega
 have hm : (AObj.map (encT ((T++F)++F2)) (ck + F.length + F2.length)) = AObj.map (encT (T++(F++F2))) (ck + (F++F2).length):=by rw [aN,aB,Nat.add_assoc]
 refine eI (⟨0,1,k + o.length,T++F,ck + F.length,((k + (o.length + 8) + 2 : Nat) : Int),t,d,e2,o2,F2,en2⟩ : WrX) (aI ⟨by rw [<- hat] <;> rfl,rfl,(show Tr.get _ 1 = some (AObj.map (encT (T++F)) (ck + F.length)) from rfl),hgd,hdh,hR⟩ ?_)
 cases o2 with
 | nil =>
  refine ifK (fun h2=>?_) (fun h2=>?_)
  ·have h2 : e2 ≠ 0:=by simpa using h2
   rw [if_pos h2]
   exact ⟨_,_,_,0,rfl,fun h=>ab rfl h,rfl,congrArg some hm⟩
  have h2 : e2 = 0:=by simpa using h2
  subst h2
  rw [if_neg (aL rfl)]
  refine eI 0 (aI ⟨rfl,by decide⟩ ?_)
  refine aI (by rw [h1s,hby];simp only [bA,dT];exact ⟨⟨⟨⟨⟨⟨rfl,rfl⟩,bL (by simp [by4] <;> omega)⟩,rfl⟩,(by simp <;> omega)⟩,(by simp <;> omega)⟩,bL (by simp [by4] <;> omega)⟩) ?_
  have hne : (o++by2 t++by2 c++by4 w)++by2 0++[] ≠ []:=by simp [by2]
  have hv : sq 15 (o.length + (2 + 2) + 4 + 2) U = ovN 15 ((o++by2 t++by2 c++by4 w)++by2 0++[]):=by rw [ovN_ne 15 hne];simp [by2,by4]
  refine ⟨_,_,_,15,congrArg (fun v=>Res.ret (.tuple #[v,.int .i64 0]) _ _ _) hv,fun _=>⟨by decide,by decide,?_⟩,rfl,congrArg some hm⟩
  refine (show some (AObj.cells _ _) = some (AObj.cells _ _) from congrArg (fun l=>some (AObj.cells l _)) ?_)
  simp [h1s,by2,by4,aD,List.take_append]
 | cons u us =>
  have h2 : e2 = 0:=by
   have := wrD_e (en:=k + o.length) (T:=T++F) (a:=((k + (o.length + 8) + 2 : Nat) : Int)) (t:=(t : Int)) (l:=bs d)
   rw [hR] at this
   exact Decidable.byContradiction fun h=>by cases this h
  subst h2
  rw [if_neg (aL rfl)]
  have hle : us.length + 1<=65535:=hl2
  refine eI (us.length + 1) (aI ⟨rfl,by omega⟩ ?_)
  refine aI (by rw [h1s,hby];simp only [bA,dT];exact ⟨⟨⟨⟨⟨⟨rfl,rfl⟩,bL (by simp [by4] <;> omega)⟩,rfl⟩,(by simp <;> omega)⟩,(by simp <;> omega)⟩,bL (by simp [by4] <;> omega)⟩) ?_
  refine eI ((u :: us).map byV) (aI (zMe (l:=u :: us) h1s rfl) ?_)
  have hone : oneL ((u :: us).map byV) = true:=oneB _
  refine aI (by rw [h1s,hby];simp only [bA,dT];exact ⟨⟨⟨⟨⟨⟨rfl,rfl⟩,bL (by simp [by4] <;> omega)⟩,hone⟩,(by simp <;> omega)⟩,(by simp <;> omega)⟩,bL (by simp [by4] <;> omega)⟩) ?_
  have hne : (o++by2 t++by2 c++by4 w)++by2 (us.length + 1)++u :: us ≠ []:=by simp [by2]
  have hv : sq 17 (o.length + (2 + 2) + 4 + 2 + (us.length + 1)) U = ovN 17 ((o++by2 t++by2 c++by4 w)++by2 (us.length + 1)++u :: us):=by rw [ovN_ne 17 hne];simp [by2,by4];omega
  refine ⟨_,_,_,17,congrArg (fun v=>Res.ret (.tuple #[v,.int .i64 0]) _ _ _) hv,fun _=>⟨by decide,by decide,?_⟩,rfl,congrArg some hm⟩
  refine (show some (AObj.cells _ _) = some (AObj.cells _ _) from congrArg (fun l=>some (AObj.cells l _)) ?_)
  simp [h1s,by2,by4,aD,List.take_append]
theorem zFg {v : Nat} (h : v < 65536) : beN (by2 v) = v:=by
 show (0 * 256 + (UInt8.ofNat (v / 256)).toNat) * 256 + (UInt8.ofNat (v % 256)).toNat = v
 simp;omega
theorem beN_by4 {v : Nat} (h : v < 4294967296) : beN (by4 v) = v:=by
 show (((0 * 256 + (UInt8.ofNat (v / 2 ^ 24)).toNat) * 256 + (UInt8.ofNat (v / 2 ^ 16)).toNat) * 256 + (UInt8.ofNat (v / 2 ^ 8)).toNat) * 256 + (UInt8.ofNat (v / 2 ^ 0)).toNat = v
 simp;omega
theorem zHf {B W o X Y : Bl} {a : Nat} (hb : (B.drop a).take W.length = W) (hW : W = o++X++Y) {k z : Nat} (hk : k = a + o.length) (hz : z = X.length) : numAt B k z = beN X:=by
 subst hk;subst hz
 unfold numAt;rw [zHz hb hW]
theorem rr_of {B : Bl} {a e : Nat} {s : Bl} (h : Nw B a a s e) (hl : s.length<=255) (ha : a<=B.length) : rdOk B (a : Int) ⟨s,(e : Int),0,0⟩:=by
 have := h.rd (a:=a) [] (-1) (by simpa using hl)
 rw [if_pos (by decide),List.nil_append] at this
 exact .inr ⟨a,rfl,ha,this⟩
def quV (x : RcX) (m : Nat) : Value:=.tuple #[.agg #[.string x.n,.int .i64 x.t,.int .i64 x.c],.int .i64 (m : Int),.agg #[.int .i64 0,.int .i64 0]]
def rcV (x : RcX) (m : Nat) : Value:=.tuple #[x.v,.int .i64 (m : Int),.agg #[.int .i64 0,.int .i64 0]]
theorem zRi {en a : Nat} {T : List (Bl × Nat)} {n : ByteArray} (hn : (labels (bs n)).2 = 0) (hen : en<=a) (ha : a<=65535) : pnE en a n = 0 /\ ∃ o F,packN T a (bs n).length (bs n) 0 = (o,F) /\ 1<=o.length /\ o.length<=255 /\ (bs n).length<=255 /\
  (∀ B : Bl,a + o.length<=B.length -> (B.drop a).take o.length = o -> knowsN B T a -> rdOk B (a : Int) ⟨bs n,((a + o.length : Nat) : Int),0,0⟩ /\ knowsN B (T++F) (a + o.length)):=by
 obtain ⟨hN,hl⟩:=(zCf (bs n)).1 hn
 refine ⟨?_,_,_,rfl,?_,?_,hl,fun B hB hb hK=>?_⟩
 ·unfold pnE
  rw [if_neg (aL hn),if_neg (by omega),if_neg (by omega)]
 ·have := zPp T a (bs n).length (bs n) 0 hN.pos
  exact List.length_pos_iff.2 this
 ·exact aW (zKk T a _ _ _ hN) hl
 obtain ⟨n1,n2⟩:=zPq hK (bs n).length (bs n) 0 hN (aJ _) hB hb
 exact ⟨rr_of n1 hl (by omega),zNk hK (by omega) (fun u k hm=>by obtain ⟨_,k2,k3,k4⟩:=n2 u k hm;exact ⟨k2,k3,k4⟩)⟩
theorem zWp {B o X : Bl} {a : Nat} (hb : (B.drop a).take (o++X).length = o++X) : (B.drop a).take o.length = o:=by
 have := zHz (o:=[]) (X:=o) (Y:=X) hb (by simp)
 simpa using this
theorem zUw {a : Nat} {T : List (Bl × Nat)} : ∀ (ps : List (Bs × Bool)) (out : Bl) (F : List (Bl × Nat)) (en : Nat),(∀ s,(s,true) ∈ ps -> (labels s).2 = 0 /\ s.length<=255) -> en<=a + out.length -> a + out.length + sumL ps<=1099511627776 -> (wrN (a : Int) T ps out F en).1 = 0 -> (wrN (a : Int) T ps out F en).2.2.2<=a + (wrN (a : Int) T ps out F en).2.1.length
 | [],out,F,en,_,he,_,_=>he
 | (s,false) :: ps,out,F,en,hs,he,hl,h0=>by
  unfold wrN at h0 ⊢
  simp only [sumL,List.flatMap_cons,aB] at hl
  exact zUw ps _ _ _ (fun s h=>hs s (List.mem_cons_of_mem _ h)) (by simp;omega) (by simp only [sumL,aB];omega) h0
 | (s,true) :: ps,out,F,en,hs,he,hl,h0=>by
  unfold wrN at h0 ⊢
  simp only [sumL,List.flatMap_cons,aB] at hl
  obtain ⟨h1,h2⟩:=hs s (List.mem_cons_self ..)
  simp only [wrapA (show a + out.length < 9223372036854775807 by omega)] at h0 ⊢
  by_cases hp : pnE en ((a + out.length : Nat) : Int) (mkS s) = 0
  ·rw [if_neg (aL hp),aO] at h0 ⊢
   have l1:=zKk (T++F) (a + out.length) s.length s 0 ((zCf s).1 h1).1
   exact zUw ps _ _ _ (fun s h=>hs s (List.mem_cons_of_mem _ h)) (by simp;omega) (by simp only [sumL,aB];omega) h0
  rw [if_pos hp] at h0;exact ab h0 hp
theorem wrD_back0 {a en : Nat} {T : List (Bl × Nat)} {t : Int} {l : Bs} (hck : checkD t l = 0) (hen : en<=a) (hal : a + l.length<=1099511627776) {W : Bl} {F : List (Bl × Nat)} {en' : Nat} (hD : wrD en T (a : Int) t l = (0,W,F,en')) : W.length<=l.length /\ en'<=a + W.length /\
  (∀ B : Bl,a + W.length<=B.length -> B.length < 9223372036854775807 -> (B.drop a).take W.length = W -> knowsN B T a -> rdQ B (a : Int) (W.length : Int) t (l,0,0) /\ knowsN B (T++F) (a + W.length)):=by
 have hWl:=wrD_le (en:=en) (T:=T) (a:=(a : Int)) (t:=t) (l:=l)
 rw [hD] at hWl
 have hWl : W.length<=l.length:=hWl
 obtain ⟨k1,k2,k3,k4⟩:=zLt hck
 obtain ⟨c1,c2,c3,c4⟩:=zGd hck
 unfold wrD at hD
 rw [if_neg (aL hck)] at hD
 have o2:=zUw (a:=a) (T:=T) (pcsD t l) [] [] en k1 (by simpa using hen) (by simp;omega) (by rw [hD])
 rw [hD] at o2
 have o1 : ((0 : Int),W,F,en').1 = 0:=rfl
 refine ⟨hWl,o2,fun B hB hBl hb hK=>?_⟩
 unfold rdQ
 rw [if_neg (by omega),if_neg (by omega),if_neg (by omega)]
 unfold pcsD at hD
 cases hp : ptsT t with
 | none =>
  rw [hp] at hD
  simp only [wrN,List.nil_append,Prod.mk.injEq] at hD
  obtain ⟨_,rfl,rfl,_⟩:=hD
  refine ⟨?_,by rw [aF];exact hK.mono (by omega)⟩
  simp only [aO,hb]
 | some ps =>
  rw [hp] at hD
  simp only [] at hD ⊢
  obtain ⟨o,q1,q2⟩:=zOx hp c4
  have eo : outP t l = o:=by unfold outP;rw [q2]
  rw [eo] at hD
  obtain ⟨_,w2⟩:=zOp _ _ _ _ q1
  rw [aF] at w2
  rcases (zLv hp).2 with ⟨hs,_⟩ | rfl
  ·have := wrN_rd (t:=t) hB hBl hb (a : Int) ps l o [] [] [] en [] _ q1 hs hD o1 rfl (by rw [aF];exact hK) (by rw [List.nil_append,w2];exact hck)
   rw [List.nil_append,w2,show ((a + ([] : Bl).length : Nat) : Int) = (a : Int) by simp] at this
   rw [show ((a : Int) + (W.length : Int)) = ((a + W.length : Nat) : Int) by omega]
   exact this
  simp only [cuts,Option.map_eq_some_iff] at q1
  cases hq : Pt.rest.cut l with
  | none=>rw [hq] at q1;cases q1
  | some n =>
   rw [hq] at q1
   simp only [Option.map_some,aP,Prod.mk.injEq] at q1
   have hn : n = l.length:=by
    simp only [Pt.cut] at hq
    split at hq <;> cases hq;rfl
   subst hn
   rw [List.take_length] at q1
   obtain ⟨rfl,_⟩:=q1
   have hD : wrN (a : Int) T [(l,false)] [] [] en = (0,W,F,en'):=hD
   simp only [wrN,List.nil_append,Prod.mk.injEq] at hD
   obtain ⟨_,rfl,rfl,_⟩:=hD
   refine ⟨.rest ?_,by rw [aF];exact hK.mono (by omega)⟩
   have e2 : (B.drop ((a : Int)).toNat).take (((a : Int) + (l.length : Int)).toNat - ((a : Int)).toNat) = l:=by
    rw [show ((a : Int) + (l.length : Int)).toNat - ((a : Int)).toNat = l.length by omega,aO];exact hb
   rw [e2,List.nil_append]
   exact .fin rfl hck
theorem rec_back0 {en a : Nat} {T : List (Bl × Nat)} {x : RcX} (hx : recC x = 0) (hen : en<=a) (ha : a<=65535) {W : Bl} {F : List (Bl × Nat)} {en' : Nat} (hD : recD en T (a : Int) x = (0,W,F,en')) : W ≠ [] /\ W.length<=300 + (bs x.d).length /\ en'<=a + W.length /\
  (∀ B : Bl,a + W.length<=B.length -> B.length < 9223372036854775807 -> (B.drop a).take W.length = W -> knowsN B T a -> recQ B (a : Int) (rcV x (a + W.length)) /\ (∃ m,queQ B (a : Int) (quV x m)) /\ knowsN B (T++F) (a + W.length)):=by
 obtain ⟨z1,z2,z3,z4,z5⟩:=zFt hx
 obtain ⟨hp,o,G,hr,ho1,ho2,hn,hB⟩:=zRi (en:=en) (T:=T) z1 hen ha
 obtain ⟨R,hR⟩ : ∃ R,wrD (a + o.length) (T++G) ((a + (o.length + 8) + 2 : Nat) : Int) x.t (bs x.d) = R:=⟨_,rfl⟩
 rw [recD_ok hx hp hr hR] at hD
 obtain ⟨e2,D,F2,en2⟩:=R
 have d1 : e2 = 0:=by
  by_cases h : e2 = 0
  ·exact h
  rw [if_pos h] at hD;simp only [Prod.mk.injEq] at hD;exact ab hD.1 h
 subst d1
 have hdl : (bs x.d).length<=65535:=(zLt z5).2.2.2
 obtain ⟨d2,d3,d4⟩:=wrD_back0 z5 (show a + o.length<=a + (o.length + 8) + 2 by omega) (by omega) hR
 rw [if_neg (aL rfl)] at hD
 obtain ⟨t,ht,ht2⟩:=zCw z2
 obtain ⟨c,hc,hc2⟩:=zCw z3
 obtain ⟨w,hw,hw2⟩:=zCw z4
 simp only [Prod.mk.injEq,ht,hc,hw,aO] at hD
 obtain ⟨_,rfl,rfl,rfl⟩:=hD
 have hl : ((o++by2 t++by2 c++by4 w)++by2 D.length++D).length = o.length + 10 + D.length:=by simp [by2,by4];omega
 refine ⟨by simp [by2],by rw [hl];omega,by rw [hl];omega,fun B hBl hBm hb hK=>?_⟩
 rw [hl] at hBl
 obtain ⟨r1,r2⟩:=hB B (by omega) (zWp (X:=by2 t++by2 c++by4 w++by2 D.length++D) (by simpa [aN] using hb)) hK
 have n1 : numAt B (a + o.length) 2 = t:=by
  rw [show numAt B (a + o.length) 2 = beN (by2 t) from zHf hb (o:=o) (X:=by2 t) (Y:=by2 c++by4 w++by2 D.length++D) (by simp) rfl rfl]
  exact zFg (by omega)
 have n2 : numAt B (a + o.length + 2) 2 = c:=by
  rw [show numAt B (a + o.length + 2) 2 = beN (by2 c) from zHf hb (o:=o++by2 t) (X:=by2 c) (Y:=by4 w++by2 D.length++D) (by simp) (by simp [by2];omega) rfl]
  exact zFg (by omega)
 have n3 : numAt B (a + o.length + 4) 4 = w:=by
  rw [show numAt B (a + o.length + 4) 4 = beN (by4 w) from zHf hb (o:=o++by2 t++by2 c) (X:=by4 w) (Y:=by2 D.length++D) (by simp) (by simp [by2];omega) rfl]
  exact beN_by4 (by omega)
 have n4 : numAt B (a + o.length + 8) 2 = D.length:=by
  rw [show numAt B (a + o.length + 8) 2 = beN (by2 D.length) from zHf hb (o:=o++by2 t++by2 c++by4 w) (X:=by2 D.length) (Y:=D) rfl (by simp [by2,by4];omega) rfl]
  exact zFg (by omega)
 have e0 : a + (o.length + 8) + 2 = a + o.length + 10:=by omega
 have hbD : (B.drop (a + (o.length + 8) + 2)).take D.length = D:=by
  have := zHz (o:=o++by2 t++by2 c++by4 w++by2 D.length) (X:=D) (Y:=[]) hb (by simp)
  rw [show a + (o++by2 t++by2 c++by4 w++by2 D.length).length = a + (o.length + 8) + 2 by simp [by2,by4];omega] at this
  exact this
 obtain ⟨q1,q2⟩:=d4 B (by omega) hBm hbD (r2.mono (by omega))
 refine ⟨?_,⟨a + o.length + 4,?_⟩,?_⟩
 ·have hy : rdQ B ((a + o.length + 10 : Nat) : Int) (numAt B (a + o.length + 8) 2 : Int) (numAt B (a + o.length) 2 : Int) (bs x.d,0,0):=by
   rw [n1,n4,<- e0,<- ht];exact q1
  have := recQ.fine (k:=a + o.length) r1 rfl rfl (by omega) hy rfl
  rw [n1,n2,n3,n4] at this
  unfold zUf at this
  rw [zSb,zSb,if_neg (by omega)] at this
  unfold rcV RcX.v
  rw [ht,hc,hw,hl]
  have e1 : ((a + o.length + 10 : Nat) : Int) + (D.length : Int) = ((a + (o.length + 10 + D.length) : Nat) : Int):=by omega
  rw [e1] at this
  exact this
 ·have := queQ.fine (k:=a + o.length) r1 rfl rfl (by omega)
  rw [n1,n2] at this
  unfold zUc at this
  rw [zSb] at this
  unfold quV
  rw [ht,hc]
  exact this
 rw [<- aN]
 refine q2.mono (by rw [hl];omega)
theorem mw_ask (en : Nat) (T : List (Bl × Nat)) (a : Int) (n : ByteArray) (t c : Int) (R : Int × Bl × List (Bl × Nat) × Nat) (hR : askD en T a n t c = R) : R.2.1.length<=300 /\ R.2.2.1.length<=300 /\ (R.1 = 0 -> R.2.1 ≠ []) /\ (R.1 ≠ 0 -> R.2.1 = []):=by
 subst hR
 unfold askD
 split
 ·rename_i h;exact ⟨aH _,aH _,fun e=>ab e h,fun _=>rfl⟩
 split
 ·split
  ·rename_i h;exact ⟨aH _,aH _,fun e=>ab e h,fun _=>rfl⟩
  rename_i he
  obtain ⟨_,_,p4,p5⟩:=zHh (Decidable.not_not.1 he)
  have h1:=zCr T a.toNat (bs n).length (bs n) 0
  have h2:=zIx T a.toNat (bs n).length (bs n) 0
  have h3 : ∀ k,(by2 k).length = 2:=fun _=>rfl
  refine ⟨?_,?_,fun _ e=>?_,fun h=>ab rfl h⟩
  ·show ((packN T a.toNat (bs n).length (bs n) 0).1++by2 t.toNat++by2 c.toNat).length<=300
   rw [aB,aB,h3,h3];omega
  ·show (packN T a.toNat (bs n).length (bs n) 0).2.length<=300
   omega
  have e : (packN T a.toNat (bs n).length (bs n) 0).1++by2 t.toNat++by2 c.toNat = []:=e
  have := congrArg List.length e
  rw [aB,aB,h3,h3] at this
  simp at this
 exact ⟨aH _,aH _,fun e=>ab (show (5 : Int) = 0 from e) (by decide),fun _=>rfl⟩
theorem mw_rec (en : Nat) (T : List (Bl × Nat)) (a : Int) (x : RcX) (R : Int × Bl × List (Bl × Nat) × Nat) (hR : recD en T a x = R) : R.2.1.length<=70000 /\ R.2.2.1.length<=2000 /\ (R.1 = 0 -> R.2.1 ≠ []) /\ (R.1 ≠ 0 -> R.2.1 = []):=by
 subst hR
 unfold recD
 split
 ·rename_i h;exact ⟨aH _,aH _,fun e=>ab e h,fun _=>rfl⟩
 rename_i hc
 have hc:=Decidable.not_not.1 hc
 obtain ⟨_,_,_,_,hcd⟩:=zFt hc
 simp only []
 obtain ⟨A,hA⟩ : ∃ A,askD en T a x.n x.t x.c = A:=⟨_,rfl⟩
 obtain ⟨a1,a2,a3,a4⟩:=mw_ask _ _ _ _ _ _ A hA
 rw [hA]
 split
 ·rename_i h;exact ⟨aH _,aH _,fun e=>ab e h,fun _=>rfl⟩
 obtain ⟨D,hD⟩ : ∃ D,wrD A.2.2.2 (T++A.2.2.1) ((a.toNat + (A.2.1++by4 x.ttl.toNat).length + 2 : Nat) : Int) x.t (bs x.d) = D:=⟨_,rfl⟩
 have h4 : ∀ k,(by4 k).length = 4:=fun _=>rfl
 have h3 : ∀ k,(by2 k).length = 2:=fun _=>rfl
 obtain ⟨k1,k2,k3,k4⟩:=zLt hcd
 have h1 : D.2.1.length<=65535:=by
  have := wrD_le (en:=A.2.2.2) (T:=T++A.2.2.1) (a:=((a.toNat + (A.2.1++by4 x.ttl.toNat).length + 2 : Nat) : Int)) (t:=x.t) (l:=bs x.d)
  rw [hD] at this;omega
 have h2 : D.2.2.1.length<=1000:=by
  rw [<- hD]
  unfold wrD
  split
  ·exact aH _
  obtain ⟨q1,q2,q3⟩:=zUv ((a.toNat + (A.2.1++by4 x.ttl.toNat).length + 2 : Nat) : Int) (T:=T++A.2.2.1) (pcsD x.t (bs x.d)) [] [] A.2.2.2 (fun s hs=>(k1 s hs).2)
  simp only [List.length_nil] at q1 q2
  omega
 rw [hD]
 split
 ·rename_i h
  exact ⟨aH _,by show (A.2.2.1++D.2.2.1).length<=_;rw [aB];omega,fun e=>ab e h,fun _=>rfl⟩
 refine ⟨?_,by show (A.2.2.1++D.2.2.1).length<=_;rw [aB];omega,fun _ e=>?_,fun h=>ab rfl h⟩
 ·show (A.2.1++by4 x.ttl.toNat++by2 D.2.1.length++D.2.1).length<=70000
  rw [aB,aB,aB,h4,h3];omega
 have e : A.2.1++by4 x.ttl.toNat++by2 D.2.1.length++D.2.1 = []:=e
 have := congrArg List.length e
 rw [aB,aB,aB,h4,h3] at this
 simp at this
structure MwS where
 out : Bl
 T : List (Bl × Nat)
 en : Nat
abbrev MwI:=QuX ⊕ RcX
def mwD (s : MwS) : MwI -> Int × Bl × List (Bl × Nat) × Nat
 | .inl q=>askD s.en s.T (s.out.length : Int) q.n q.t q.c
 | .inr x=>recD s.en s.T (s.out.length : Int) x
theorem zLp (s : MwS) (x : MwI) {R : Int × Bl × List (Bl × Nat) × Nat} (hR : mwD s x = R) : R.2.1.length<=70000 /\ R.2.2.1.length<=2000 /\ (R.1 = 0 -> R.2.1 ≠ []) /\ (R.1 ≠ 0 -> R.2.1 = []) /\ (goodT s.T -> goodT (s.T++R.2.2.1)):=by
 cases x with
 | inl q=>obtain ⟨h1,h2,h3,h4⟩:=mw_ask _ _ _ _ _ _ R hR;exact ⟨by omega,by omega,h3,h4,fun h=>hR ▸ zQk h⟩
 | inr x=>obtain ⟨h1,h2,h3,h4⟩:=mw_rec _ _ _ _ R hR;exact ⟨h1,h2,h3,h4,fun h=>hR ▸ recD_good h⟩
def mwN (s : MwS) (R : Int × Bl × List (Bl × Nat) × Nat) : MwS:=⟨s.out++R.2.1,s.T++R.2.2.1,R.2.2.2⟩
def mwF : MwS -> List MwI -> Option MwS
 | s,[]=>some s
 | s,x :: l=>if (mwD s x).1 ≠ 0 \/ 65535 < (mwN s (mwD s x)).out.length then none else mwF (mwN s (mwD s x)) l
structure mwInv (s0 : MwS) (l : List MwI) (k : Nat) (s : MwS) : Prop where
 lo : 1<=s.out.length
 hi : s.out.length<=12 + 70000 * k
 tl : s.T.length<=2000 * k
 gd : goodT s.T
 st : (s.out.length<=65535 /\ mwF s0 l = mwF s (l.drop k)) \/ (65535 < s.out.length /\ mwF s0 l = none)
theorem zPj {s : MwS} {l : List MwI} {k : Nat} (h : k < l.length) : mwF s (l.drop k) = if (mwD s l[k]).1 ≠ 0 \/ 65535 < (mwN s (mwD s l[k])).out.length then none else mwF (mwN s (mwD s l[k])) (l.drop (k + 1)):=by
 rw [bD h];rfl
theorem mwInv.bad {s0 : MwS} {l : List MwI} {k : Nat} {s : MwS} (h : mwInv s0 l k s) (hk : k < l.length) {R : Int × Bl × List (Bl × Nat) × Nat} (hR : mwD s l[k] = R) (he : R.1 ≠ 0) : mwF s0 l = none:=by
 rcases h.st with ⟨_,e⟩ | ⟨_,e⟩
 ·rw [e,zPj hk,hR,if_pos (.inl he)]
 exact e
theorem mwInv.long {s0 : MwS} {l : List MwI} {k : Nat} {s : MwS} (h : mwInv s0 l k s) (he : 65535 < s.out.length) : mwF s0 l = none:=by
 rcases h.st with ⟨q,e⟩ | ⟨_,e⟩
 ·omega
 exact e
theorem mwInv.next {s0 : MwS} {l : List MwI} {k : Nat} {s : MwS} (h : mwInv s0 l k s) (hk : k < l.length) {R : Int × Bl × List (Bl × Nat) × Nat} (hR : mwD s l[k] = R) (he : R.1 = 0) : mwInv s0 l (k + 1) (mwN s R):=by
 obtain ⟨r1,r2,r3,r4,r5⟩:=zLp s l[k] hR
 have hl : (mwN s R).out.length = s.out.length + R.2.1.length:=aB
 have h1:=h.hi
 have h2:=h.tl
 have h3:=h.lo
 refine ⟨by omega,by omega,by show (s.T++R.2.2.1).length<=_;rw [aB];omega,r5 h.gd,?_⟩
 rcases h.st with ⟨q,e⟩ | ⟨q,e⟩
 ·by_cases hx : 65535 < (mwN s R).out.length
  ·exact .inr ⟨hx,by rw [e,zPj hk,hR,if_pos (.inr hx)]⟩
  exact .inl ⟨by omega,by rw [e,zPj hk,hR,if_neg (fun h=>h.elim (fun h=>h he) hx)]⟩
 exact .inr ⟨by omega,e⟩
theorem mwInv.fin {s0 : MwS} {l : List MwI} {s : MwS} (h : mwInv s0 l l.length s) (he : s.out.length<=65535) : mwF s0 l = some s:=by
 rcases h.st with ⟨_,e⟩ | ⟨q,e⟩
 ·rw [e,List.drop_length];rfl
 omega
def cmS1 (id fl : Int) (ql : List QuX) (al nl rl : List RcX) (i : Nat) (f : Nat -> Option Value) : Fs:=⟨slots 7 [(1,pt 0),(48,trQ ql),(49,.int .i64 ql.length),(50,.int .i64 i)] f,heap 1 [(0,.cells [.int .i64 id,.int .i64 fl,trQ ql,trR al,trR nl,trR rl] 25)],1,[],[]⟩
def cmS2 (id fl : Int) (ql : List QuX) (al nl rl : List RcX) (k : Int) (yl : List RcX) (i : Nat) (f : Nat -> Option Value) : Fs:=⟨slots 7 [(71,.agg #[.pointer (some ⟨0,3,none⟩),.pointer (some ⟨0,4,none⟩),.pointer (some ⟨0,5,none⟩)]),(72,.int .i64 k),(77,trR yl),(78,.int .i64 yl.length),(79,.int .i64 i)] f,heap 1 [(0,.cells [.int .i64 id,.int .i64 fl,trQ ql,trR al,trR nl,trR rl] 25)],1,[],[]⟩
theorem zTt (id fl : Int) (ql : List QuX) (al nl rl : List RcX) (hq : ∀ x ∈ ql,shortB x.n = true) (ha : ∀ x ∈ al,x.ok = true) (hn : ∀ x ∈ nl,x.ok = true) (hr : ∀ x ∈ rl,x.ok = true) :
  ∃ r,FnS Try.prog 0 50 [(MsT.mk id fl ql al nl rl).v] .e 0 r /\ ∃ H k wr,r = .ret (.int .i64 (msC id fl ql al nl rl)) H k wr:=by
 refine zBo mixed tbMs4 [] Try.func50 (c:=bodyOf Try.f50) (by kernel_rfl) ?_
 unfold msC
 refine ifK (fun g1=>?_) (fun g1=>by rw [zPm g1];exact ⟨_,_,_,rfl⟩)
 refine ifK (fun g2=>by rw [zFp g2];exact ⟨_,_,_,rfl⟩) (fun g2=>?_)
 rw [zLq g1 g2,Bool.true_and]
 refine ifK (fun g3=>?_) (fun g3=>by rw [zPm g3];exact ⟨_,_,_,rfl⟩)
 refine ifK (fun g4=>by rw [zFp g4];exact ⟨_,_,_,rfl⟩) (fun g4=>?_)
 rw [zLq g3 g4,if_neg (by decide)]
 refine ifK (fun g5=>by rw [zFp g5];exact ⟨_,_,_,rfl⟩) (fun g5=>?_)
 rw [zKi g5,Bool.true_and]
 refine ifK (fun g6=>by rw [zFp g6];exact ⟨_,_,_,rfl⟩) (fun g6=>?_)
 rw [zKi g6,Bool.true_and]
 refine ifK (fun g7=>by rw [zFp g7];exact ⟨_,_,_,rfl⟩) (fun g7=>?_)
 rw [zKi g7,Bool.true_and]
 refine ifK (fun g8=>by rw [zFp g8];exact ⟨_,_,_,rfl⟩) (fun g8=>?_)
 rw [zKi g8,if_neg (by decide)]
 have f1 : ql.length<=65535:=by have := oT (Bool.not_eq_false' .. ▸ g5 : decide ((ql.length : Int)<=65535) = true);omega
 have f2 : al.length<=65535:=by have := oT (Bool.not_eq_false' .. ▸ g6 : decide ((al.length : Int)<=65535) = true);omega
 have f3 : nl.length<=65535:=by have := oT (Bool.not_eq_false' .. ▸ g7 : decide ((nl.length : Int)<=65535) = true);omega
 have f4 : rl.length<=65535:=by have := oT (Bool.not_eq_false' .. ▸ g8 : decide ((rl.length : Int)<=65535) = true);omega
 refine zAp (cmS1 id fl ql al nl rl) (fun i=>ql.length - i) (fun i=>i<=ql.length /\ firstE quC ql = firstE quC (ql.drop i)) 0 ⟨aH _,rfl⟩
  (rcq [0] ⟨(sP rfl rfl),⟨_,rfl,zAe 8 rfl⟩,(sI rfl),(sI rfl),tv⟩ ⟨⟨by decide,_,rfl,RO.clos rfl⟩,tv⟩ .nil) ?_
 rintro i f ⟨hi,heq⟩
 have hi : i<=ql.length:=hi
 refine zAq tbMs4 [] 0 _ none mixed _ _ _ ?_
 refine ifK (fun h1=>?_) (fun h1=>?_)
 ·have h1 : i < ql.length:=by have h1 : ((i : Nat) : Int) < (ql.length : Int):=oT h1;omega
  rw [zEo quC ql i h1] at heq
  refine ifK (fun _=>?_) (fun h2=>ab h2 (by simp [inI];omega))
  refine eI ql[i].n (eI ql[i].t (eI ql[i].c (aI (zBa layQ h1) ?_)))
  obtain ⟨x,hx⟩ : ∃ x,ql[i] = x:=⟨_,rfl⟩
  rw [hx] at heq ⊢
  have hs : shortB x.n = true:=hx ▸ hq _ (aV h1)
  refine aI hs ?_
  refine ifK (fun h2=>?_) (fun h2=>?_)
  ·have h2 : (labels (bs x.n)).2 ≠ 0:=by simpa using h2
   have e : quC x = (labels (bs x.n)).2:=by unfold quC;rw [if_pos h2]
   have e1 : firstE quC ql = (labels (bs x.n)).2:=by rw [heq,e,if_pos h2]
   refine aI rfl (zAh (rcq [] (d:=7) (d2:=0) (lv:=[(2,.int .i64 ((labels (bs x.n)).2))]) (bs:=[]) (W:=[]) (m:=0) (df:=[]) ⟨(sI rfl),tv⟩ trivial .nil) (fun f=>?_))
   rw [e1,if_pos h2];exact ⟨_,_,_,rfl⟩
  have h2 : (labels (bs x.n)).2 = 0:=by simpa using h2
  have e0 : quC x = if (numB x.t 65535&&numB x.c 65535) = true then 0 else 5:=by unfold quC;rw [if_neg (by simpa using h2)]
  have bad : (numB x.t 65535&&numB x.c 65535) = false -> firstE quC ql = 5:=fun h=>by rw [heq,e0,h];rfl
  have good : (numB x.t 65535&&numB x.c 65535) = true -> firstE quC ql = firstE quC (ql.drop (i + 1)):=fun h=>by rw [heq,e0,h];rfl
  refine ifK (fun k1=>?_) (fun k1=>?_)
  ·refine ifK (fun k2=>?_) (fun k2=>?_)
   ·have e1:=bad (by rw [zFp k2];rfl)
    refine aI rfl (zAh (rcq [] (d:=7) (d2:=0) (lv:=[(2,.int .i64 (5))]) (bs:=[]) (W:=[]) (m:=0) (df:=[]) ⟨(sI rfl),tv⟩ trivial .nil) (fun f=>?_))
    rw [e1,if_pos (by decide)];exact ⟨_,_,_,rfl⟩
   refine ifK (fun k3=>?_) (fun k3=>?_)
   ·refine ifK (fun k4=>?_) (fun k4=>?_)
    ·have e1:=bad (by rw [zFp k4,Bool.and_false])
     refine aI rfl (zAh (rcq [] (d:=7) (d2:=0) (lv:=[(2,.int .i64 (5))]) (bs:=[]) (W:=[]) (m:=0) (df:=[]) ⟨(sI rfl),tv⟩ trivial .nil) (fun f=>?_))
     rw [e1,if_pos (by decide)];exact ⟨_,_,_,rfl⟩
    exact ⟨i + 1,⟨h1,good (by rw [zLq k1 k2,zLq k3 k4];rfl)⟩,by show ql.length - (i + 1) < ql.length - i;omega,rcq [0] ⟨(sP rfl rfl),⟨_,rfl,zAe 8 rfl⟩,(sI rfl),zAa rfl (by rw [wrapN (by omega) (by omega)];omega),tv⟩ ⟨⟨by decide,_,rfl,RO.clos rfl⟩,tv⟩ .nil⟩
   have e1:=bad (by rw [zPm k3,Bool.and_false])
   refine aI rfl (zAh (rcq [] (d:=7) (d2:=0) (lv:=[(2,.int .i64 (5))]) (bs:=[]) (W:=[]) (m:=0) (df:=[]) ⟨(sI rfl),tv⟩ trivial .nil) (fun f=>?_))
   rw [e1,if_pos (by decide)];exact ⟨_,_,_,rfl⟩
  have e1:=bad (by rw [zPm k1];rfl)
  refine aI rfl (zAh (rcq [] (d:=7) (d2:=0) (lv:=[(2,.int .i64 (5))]) (bs:=[]) (W:=[]) (m:=0) (df:=[]) ⟨(sI rfl),tv⟩ trivial .nil) (fun f=>?_))
  rw [e1,if_pos (by decide)];exact ⟨_,_,_,rfl⟩
 have h1 : ¬ i < ql.length:=fun e=>ab (show ((i : Nat) : Int) < (ql.length : Int) by omega) (oF h1)
 have e1 : firstE quC ql = 0:=by rw [heq,zGh _ _ _ (by omega)]
 rw [e1,if_neg (by decide)]
 refine aI rfl (zAh (rcq [0] (d:=7) (d2:=1) (lv:=[(1,pt 0)]) (bs:=[(0,.cells [.int .i64 id,.int .i64 fl,trQ ql,trR al,trR nl,trR rl] 25)]) (W:=[]) (m:=1) (df:=[]) ⟨(sP rfl rfl),tv⟩ ⟨⟨by decide,_,rfl,RO.clos rfl⟩,tv⟩ .nil) (fun f=>?_))
 refine aI (by kernel_rfl) ?_
 refine LW.round ?_
 refine zAq tbMs4 [] 0 _ none mixed _ _ _ ?_
 refine zAp (cmS2 id fl ql al nl rl 0 al) (fun i=>al.length - i) (fun i=>i<=al.length /\ firstE recC al = firstE recC (al.drop i)) 0 ⟨aH _,rfl⟩
  (rcq [0] ⟨⟨_,rfl,.agg _ _ (.cons _ _ _ _ (.ptr _ _ _ rfl) (.cons _ _ _ _ (.ptr _ _ _ rfl) (.cons _ _ _ _ (.ptr _ _ _ rfl) .nil)))⟩,(sI rfl),⟨_,rfl,zAe 8 rfl⟩,(sI rfl),(sI rfl),tv⟩ ⟨⟨by decide,_,rfl,RO.clos rfl⟩,tv⟩ .nil) ?_
 rintro i f ⟨hi,heq⟩
 have hi : i<=al.length:=hi
 refine zAq tbMs4 [] 0 _ none mixed _ _ _ ?_
 refine ifK (fun h1=>?_) (fun h1=>?_)
 ·have h1 : i < al.length:=by have h1 : ((i : Nat) : Int) < (al.length : Int):=oT h1;omega
  rw [zEo recC al i h1] at heq
  refine ifK (fun _=>?_) (fun h2=>ab h2 (by simp [inI];omega))
  refine eI al[i].n (eI al[i].t (eI al[i].c (eI al[i].ttl (eI al[i].d (aI (zBa layR h1) ?_)))))
  obtain ⟨x,hx⟩ : ∃ x,al[i] = x:=⟨_,rfl⟩
  rw [hx] at heq ⊢
  have hs : x.ok = true:=hx ▸ ha _ (aV h1)
  refine aI hs ?_
  refine ifK (fun h2=>?_) (fun h2=>?_)
  ·have h2 : recC x ≠ 0:=by simpa using h2
   have e1 : firstE recC al = recC x:=by rw [heq,if_pos h2]
   refine aI rfl (zAh (rcq [] (d:=7) (d2:=0) (lv:=[(2,.int .i64 (recC x))]) (bs:=[]) (W:=[]) (m:=0) (df:=[]) ⟨(sI rfl),tv⟩ trivial .nil) (fun f=>?_))
   rw [e1,if_pos h2];exact ⟨_,_,_,rfl⟩
  have h2 : recC x = 0:=by simpa using h2
  exact ⟨i + 1,⟨h1,by rw [heq,if_neg (by simpa using h2)]⟩,by show al.length - (i + 1) < al.length - i;omega,rcq [0] ⟨⟨_,rfl,.agg _ _ (.cons _ _ _ _ (.ptr _ _ _ rfl) (.cons _ _ _ _ (.ptr _ _ _ rfl) (.cons _ _ _ _ (.ptr _ _ _ rfl) .nil)))⟩,(sI rfl),⟨_,rfl,zAe 8 rfl⟩,(sI rfl),zAa rfl (by rw [wrapN (by omega) (by omega)];omega),tv⟩ ⟨⟨by decide,_,rfl,RO.clos rfl⟩,tv⟩ .nil⟩
 have h1 : ¬ i < al.length:=fun e=>ab (show ((i : Nat) : Int) < (al.length : Int) by omega) (oF h1)
 have e1 : firstE recC al = 0:=by rw [heq,zGh _ _ _ (by omega)]
 rw [e1,if_neg (by decide)]
 refine aI rfl (zAh (rcq [0] (d:=7) (d2:=1) (lv:=[(71,.agg #[.pointer (some ⟨0,3,none⟩),.pointer (some ⟨0,4,none⟩),.pointer (some ⟨0,5,none⟩)]),(72,.int .i64 0)]) (bs:=[(0,.cells [.int .i64 id,.int .i64 fl,trQ ql,trR al,trR nl,trR rl] 25)]) (W:=[]) (m:=1) (df:=[]) ⟨⟨_,rfl,.agg _ _ (.cons _ _ _ _ (.ptr _ _ _ rfl) (.cons _ _ _ _ (.ptr _ _ _ rfl) (.cons _ _ _ _ (.ptr _ _ _ rfl) .nil)))⟩,(sI rfl),tv⟩ ⟨⟨by decide,_,rfl,RO.clos rfl⟩,tv⟩ .nil) (fun f=>?_))
 refine LW.round ?_
 refine zAq tbMs4 [] 0 _ none mixed _ _ _ ?_
 refine zAp (cmS2 id fl ql al nl rl 1 nl) (fun i=>nl.length - i) (fun i=>i<=nl.length /\ firstE recC nl = firstE recC (nl.drop i)) 0 ⟨aH _,rfl⟩
  (rcq [0] ⟨⟨_,rfl,.agg _ _ (.cons _ _ _ _ (.ptr _ _ _ rfl) (.cons _ _ _ _ (.ptr _ _ _ rfl) (.cons _ _ _ _ (.ptr _ _ _ rfl) .nil)))⟩,(sI rfl),⟨_,rfl,zAe 8 rfl⟩,(sI rfl),(sI rfl),tv⟩ ⟨⟨by decide,_,rfl,RO.clos rfl⟩,tv⟩ .nil) ?_
 rintro i f ⟨hi,heq⟩
 have hi : i<=nl.length:=hi
 refine zAq tbMs4 [] 0 _ none mixed _ _ _ ?_
 refine ifK (fun h1=>?_) (fun h1=>?_)
 ·have h1 : i < nl.length:=by have h1 : ((i : Nat) : Int) < (nl.length : Int):=oT h1;omega
  rw [zEo recC nl i h1] at heq
  refine ifK (fun _=>?_) (fun h2=>ab h2 (by simp [inI];omega))
  refine eI nl[i].n (eI nl[i].t (eI nl[i].c (eI nl[i].ttl (eI nl[i].d (aI (zBa layR h1) ?_)))))
  obtain ⟨x,hx⟩ : ∃ x,nl[i] = x:=⟨_,rfl⟩
  rw [hx] at heq ⊢
  have hs : x.ok = true:=hx ▸ hn _ (aV h1)
  refine aI hs ?_
  refine ifK (fun h2=>?_) (fun h2=>?_)
  ·have h2 : recC x ≠ 0:=by simpa using h2
   have e1 : firstE recC nl = recC x:=by rw [heq,if_pos h2]
   refine aI rfl (zAh (rcq [] (d:=7) (d2:=0) (lv:=[(2,.int .i64 (recC x))]) (bs:=[]) (W:=[]) (m:=0) (df:=[]) ⟨(sI rfl),tv⟩ trivial .nil) (fun f=>?_))
   rw [e1,if_pos h2];exact ⟨_,_,_,rfl⟩
  have h2 : recC x = 0:=by simpa using h2
  exact ⟨i + 1,⟨h1,by rw [heq,if_neg (by simpa using h2)]⟩,by show nl.length - (i + 1) < nl.length - i;omega,rcq [0] ⟨⟨_,rfl,.agg _ _ (.cons _ _ _ _ (.ptr _ _ _ rfl) (.cons _ _ _ _ (.ptr _ _ _ rfl) (.cons _ _ _ _ (.ptr _ _ _ rfl) .nil)))⟩,(sI rfl),⟨_,rfl,zAe 8 rfl⟩,(sI rfl),zAa rfl (by rw [wrapN (by omega) (by omega)];omega),tv⟩ ⟨⟨by decide,_,rfl,RO.clos rfl⟩,tv⟩ .nil⟩
 have h1 : ¬ i < nl.length:=fun e=>ab (show ((i : Nat) : Int) < (nl.length : Int) by omega) (oF h1)
 have e1 : firstE recC nl = 0:=by rw [heq,zGh _ _ _ (by omega)]
 rw [e1,if_neg (by decide)]
 refine aI rfl (zAh (rcq [0] (d:=7) (d2:=1) (lv:=[(71,.agg #[.pointer (some ⟨0,3,none⟩),.pointer (some ⟨0,4,none⟩),.pointer (some ⟨0,5,none⟩)]),(72,.int .i64 1)]) (bs:=[(0,.cells [.int .i64 id,.int .i64 fl,trQ ql,trR al,trR nl,trR rl] 25)]) (W:=[]) (m:=1) (df:=[]) ⟨⟨_,rfl,.agg _ _ (.cons _ _ _ _ (.ptr _ _ _ rfl) (.cons _ _ _ _ (.ptr _ _ _ rfl) (.cons _ _ _ _ (.ptr _ _ _ rfl) .nil)))⟩,(sI rfl),tv⟩ ⟨⟨by decide,_,rfl,RO.clos rfl⟩,tv⟩ .nil) (fun f=>?_))
 refine LW.round ?_
 refine zAq tbMs4 [] 0 _ none mixed _ _ _ ?_
 refine zAp (cmS2 id fl ql al nl rl 2 rl) (fun i=>rl.length - i) (fun i=>i<=rl.length /\ firstE recC rl = firstE recC (rl.drop i)) 0 ⟨aH _,rfl⟩
  (rcq [0] ⟨⟨_,rfl,.agg _ _ (.cons _ _ _ _ (.ptr _ _ _ rfl) (.cons _ _ _ _ (.ptr _ _ _ rfl) (.cons _ _ _ _ (.ptr _ _ _ rfl) .nil)))⟩,(sI rfl),⟨_,rfl,zAe 8 rfl⟩,(sI rfl),(sI rfl),tv⟩ ⟨⟨by decide,_,rfl,RO.clos rfl⟩,tv⟩ .nil) ?_
 rintro i f ⟨hi,heq⟩
 have hi : i<=rl.length:=hi
 refine zAq tbMs4 [] 0 _ none mixed _ _ _ ?_
 refine ifK (fun h1=>?_) (fun h1=>?_)
 ·have h1 : i < rl.length:=by have h1 : ((i : Nat) : Int) < (rl.length : Int):=oT h1;omega
  rw [zEo recC rl i h1] at heq
  refine ifK (fun _=>?_) (fun h2=>ab h2 (by simp [inI];omega))
  refine eI rl[i].n (eI rl[i].t (eI rl[i].c (eI rl[i].ttl (eI rl[i].d (aI (zBa layR h1) ?_)))))
  obtain ⟨x,hx⟩ : ∃ x,rl[i] = x:=⟨_,rfl⟩
  rw [hx] at heq ⊢
  have hs : x.ok = true:=hx ▸ hr _ (aV h1)
  refine aI hs ?_
  refine ifK (fun h2=>?_) (fun h2=>?_)
  ·have h2 : recC x ≠ 0:=by simpa using h2
   have e1 : firstE recC rl = recC x:=by rw [heq,if_pos h2]
   refine aI rfl (zAh (rcq [] (d:=7) (d2:=0) (lv:=[(2,.int .i64 (recC x))]) (bs:=[]) (W:=[]) (m:=0) (df:=[]) ⟨(sI rfl),tv⟩ trivial .nil) (fun f=>?_))
   rw [e1];exact ⟨_,_,_,rfl⟩
  have h2 : recC x = 0:=by simpa using h2
  exact ⟨i + 1,⟨h1,by rw [heq,if_neg (by simpa using h2)]⟩,by show rl.length - (i + 1) < rl.length - i;omega,rcq [0] ⟨⟨_,rfl,.agg _ _ (.cons _ _ _ _ (.ptr _ _ _ rfl) (.cons _ _ _ _ (.ptr _ _ _ rfl) (.cons _ _ _ _ (.ptr _ _ _ rfl) .nil)))⟩,(sI rfl),⟨_,rfl,zAe 8 rfl⟩,(sI rfl),zAa rfl (by rw [wrapN (by omega) (by omega)];omega),tv⟩ ⟨⟨by decide,_,rfl,RO.clos rfl⟩,tv⟩ .nil⟩
 have h1 : ¬ i < rl.length:=fun e=>ab (show ((i : Nat) : Int) < (rl.length : Int) by omega) (oF h1)
 have e1 : firstE recC rl = 0:=by rw [heq,zGh _ _ _ (by omega)]
 rw [e1]
 refine aI rfl (zAh (rcq [0] (d:=7) (d2:=1) (lv:=[(71,.agg #[.pointer (some ⟨0,3,none⟩),.pointer (some ⟨0,4,none⟩),.pointer (some ⟨0,5,none⟩)]),(72,.int .i64 2)]) (bs:=[(0,.cells [.int .i64 id,.int .i64 fl,trQ ql,trR al,trR nl,trR rl] 25)]) (W:=[]) (m:=1) (df:=[]) ⟨⟨_,rfl,.agg _ _ (.cons _ _ _ _ (.ptr _ _ _ rfl) (.cons _ _ _ _ (.ptr _ _ _ rfl) (.cons _ _ _ _ (.ptr _ _ _ rfl) .nil)))⟩,(sI rfl),tv⟩ ⟨⟨by decide,_,rfl,RO.clos rfl⟩,tv⟩ .nil) (fun f=>?_))
 refine LW.round ?_
 refine zAq tbMs4 [] 0 _ none mixed _ _ _ ?_
 exact ⟨_,_,_,rfl⟩
def MsT.chk (m : MsT) : Int:=msC m.id m.fl m.q m.an m.ns m.ar
def MsT.okM (m : MsT) : Prop:=(∀ x ∈ m.q,shortB x.n = true) /\ (∀ x ∈ m.an,x.ok = true) /\ (∀ x ∈ m.ns,x.ok = true) /\ (∀ x ∈ m.ar,x.ok = true)
noncomputable def zSy : Ct Try.prog 0:=CtR.lendM 50 MsT.okM (fun m=>.int .i64 m.chk)
 (fun m h=>by obtain ⟨r,hF,H,k,wr,rfl⟩:=zTt m.id m.fl m.q m.an m.ns m.ar h.1 h.2.1 h.2.2.1 h.2.2.2;exact ⟨_,_,_,_,hF,.one _ _ (.plain _ rfl)⟩)
noncomputable def ct_ask : Ct Try.prog 0:=ct_pk 52 AskY AskY.xs AskY.inj (fun _=>rfl) (fun y=>shortB y.n = true) (fun en T y=>y.D en T) (fun y en T ck hT hs=>ask_fn y en T ck hT hs)
noncomputable def ct_recw : Ct Try.prog 0:=ct_pk 54 WrtY WrtY.xs WrtY.inj (fun _=>rfl) (fun y=>y.x.ok = true) (fun en T y=>y.D en T) (fun y en T ck hT hs=>recw_fn y en T ck hT hs)
def MsT.items (m : MsT) : List MwI:=m.q.map .inl++(m.an.map .inr++(m.ns.map .inr++m.ar.map .inr))
def MsT.head (m : MsT) : Bl:=((((by2 m.id.toNat++by2 m.fl.toNat)++by2 m.q.length)++by2 m.an.length)++by2 m.ns.length)++by2 m.ar.length
def MsT.wr (m : MsT) : Int × Bl:=if m.chk ≠ 0 then (m.chk,[]) else match mwF ⟨m.head,[],0⟩ m.items with
 | none=>(3,[])
 | some s=>(0,s.out)
noncomputable def inl_newM : Ct Try.prog 0:=Ct.inl (tbOf mixed []) mixed [] 51 Try.f51 Try.func51 (bodyOf Try.f51) (by kernel_rfl)
noncomputable def tbMw3 : Tb Try.prog 0:=tbOf mixed [zSy,zKa,inl_newM,zLk,ct_ask,ct_recw]
def mwN0 (e : Int) (f : Nat -> Option Value) : Fs:=⟨slots 7 [(2,pt 0),(3,pt 1)] f,heap 2 [(0,.cells [.slice none 0 0] 49),(1,.cells [.int .i64 e] 33)],2,[],[.call 49 [pt 1,pt 0] []]⟩
def mwO0 (e : Int) (u : UInt8) (us : Bl) (f : Nat -> Option Value) : Fs:=⟨slots 7 [(2,pt 0),(3,pt 1)] f,heap 2 [(0,.cells [sq 2 (us.length + 1) U] 49),(1,.cells [.int .i64 e] 33),(2,.cells ((u :: us).map byV) 5)],3,[],[.call 49 [pt 1,pt 0] []]⟩
theorem zDh {nt a b c : Nat} {e : Int} {u : UInt8} {us : Bl} {s : Fs} {K : Fs -> Prop} (hd : Nat.ble (nt + 1) (2 ^ 7) = true) (hn : [a,b,c].Nodup) (hL : ∀ x ∈ [a,b,c],0<=x /\ x < JJ) (ha : sgO 0 [a,b,c] a 0) (hb : sgO 0 [a,b,c] b 1) (hc : sgO 0 [a,b,c] c 2)
  (h2 : s.T.get 2 = some (pt a)) (h3 : s.T.get 3 = some (pt b)) (k0 : s.H.get (un 0 [a,b,c] 0) = some (.cells [sq c (us.length + 1) U] 49)) (k1 : s.H.get (un 0 [a,b,c] 1) = some (.cells [.int .i64 e] 33)) (k2 : s.H.get (un 0 [a,b,c] 2) = some (.cells ((u :: us).map byV) 5))
  (hD : s.df = [.call 49 [pt b,pt a] []]) (hs : Nat.ble 0 s.n = true) (k : ∀ f,K (mwO0 e u us f)) : ∃ s2,RcM Try.prog 0 0 nt none s s2 /\ K s2 :=
 zAh (zAn [a,b,c] (d:=7) (d2:=2) (lv:=[(2,pt 0),(3,pt 1)]) (bs:=[(0,.cells [sq 2 (us.length + 1) U] 49),(1,.cells [.int .i64 e] 33),(2,.cells ((u :: us).map byV) 5)]) (W:=[]) (m:=3) (df:=[.call 49 [pt 1,pt 0] []]) hd hs rfl (fun l e=>by cases e) hn hL rfl rfl (fun k _ h=>ab h (Nat.not_lt_zero _))
  ⟨⟨_,h2,.ptr _ _ _ ha⟩,⟨_,h3,.ptr _ _ _ hb⟩,tv⟩ ⟨⟨by decide,_,k0,zAw hc⟩,⟨by decide,_,k1,.same rfl⟩,⟨by decide,_,k2,.same (zAc _)⟩,tv⟩ (by rw [hD];exact .fn _ _ _ _ _ _ _ (.cons _ _ _ _ (.ptr _ _ _ hb) (.cons _ _ _ _ (.ptr _ _ _ ha) .nil)) .nil .nil)) k
theorem mw_e1a (n : Nat) (R : Res -> Prop) (f : Nat -> Option Value) : fnK tbMw3 Try.f30 R .ret (mwN0 (.ofNat (n + 1)) f) = R (.ret (.tuple #[.slice none 0 0,.int .i64 (.ofNat (n + 1))]) (resH (endR tbMw3 Try.f30 .ret (mwN0 (.ofNat (n + 1)) f))) (resN (endR tbMw3 Try.f30 .ret (mwN0 (.ofNat (n + 1)) f))) [0]):=by kernel_rfl
theorem mw_e1b (n : Nat) (R : Res -> Prop) (f : Nat -> Option Value) : fnK tbMw3 Try.f30 R .ret (mwN0 (.negSucc n) f) = R (.ret (.tuple #[.slice none 0 0,.int .i64 (.negSucc n)]) (resH (endR tbMw3 Try.f30 .ret (mwN0 (.negSucc n) f))) (resN (endR tbMw3 Try.f30 .ret (mwN0 (.negSucc n) f))) [0]):=by kernel_rfl
theorem mw_e1 (e : Int) (he : e ≠ 0) (R : Res -> Prop) (f : Nat -> Option Value) : fnK tbMw3 Try.f30 R .ret (mwN0 e f) = R (.ret (.tuple #[.slice none 0 0,.int .i64 e]) (resH (endR tbMw3 Try.f30 .ret (mwN0 e f))) (resN (endR tbMw3 Try.f30 .ret (mwN0 e f))) [0]) :=
 match e,he with
 | .ofNat 0,h=>ab rfl h
 | .ofNat (n + 1),_=>mw_e1a n R f
 | .negSucc n,_=>mw_e1b n R f
theorem zRh (u : UInt8) (us : Bl) (R : Res -> Prop) (f : Nat -> Option Value) : fnK tbMw3 Try.f30 R .ret (mwO0 3 u us f) = R (.ret (.tuple #[.slice none 0 0,.int .i64 3]) (resH (endR tbMw3 Try.f30 .ret (mwO0 3 u us f))) (resN (endR tbMw3 Try.f30 .ret (mwO0 3 u us f))) [0]):=by kernel_rfl
theorem mw_e3 (u : UInt8) (us : Bl) (R : Res -> Prop) (f : Nat -> Option Value) : fnK tbMw3 Try.f30 R .ret (mwO0 0 u us f) = R (.ret (.tuple #[sq 2 (us.length + 1) U,.int .i64 0]) (resH (endR tbMw3 Try.f30 .ret (mwO0 0 u us f))) (resN (endR tbMw3 Try.f30 .ret (mwO0 0 u us f))) []):=by kernel_rfl
theorem mw_g3 (u : UInt8) (us : Bl) (f : Nat -> Option Value) : (resH (endR tbMw3 Try.f30 .ret (mwO0 0 u us f))).get 2 = some (.cells ((u :: us).map byV) 5):=by kernel_rfl
theorem zWh {m : MsT} (h : m.chk = 0) : (0<=m.id /\ m.id<=65535) /\ (0<=m.fl /\ m.fl<=65535) /\ m.q.length<=65535 /\ m.an.length<=65535 /\ m.ns.length<=65535 /\ m.ar.length<=65535:=by
 unfold MsT.chk msC at h
 split at h
 ·cases h
 rename_i h1
 split at h
 ·cases h
 rename_i h2
 rw [Bool.not_eq_false,bA] at h1
 rw [Bool.not_eq_false,bA,bA,bA] at h2
 unfold numB at h1 h2
 simp only [dT] at h1 h2
 omega
abbrev MwP:=Nat × UInt8 × Bl × List (Bl × Nat) × Nat × Nat
def mwS1 (m : MsT) (p : MwP) (f : Nat -> Option Value) : Fs:=⟨slots 7 [(1,pt 0),(2,pt 1),(3,pt 2),(9,pt 4),(59,trQ m.q),(60,.int .i64 (m.q.length : Nat)),(61,.int .i64 (p.1 : Nat))] f,heap 3 [(0,.cells [.int .i64 m.id,.int .i64 m.fl,trQ m.q,trR m.an,trR m.ns,trR m.ar] 25),(1,.cells [sq 3 (p.2.2.1.length + 1) U] 49),(2,.cells [.int .i64 0] 33),(3,.cells ((p.2.1 :: p.2.2.1).map byV) 5),(4,.cells [.map (some 5),.int .i64 (p.2.2.2.2.1 : Int)] 102),(5,.map (encT p.2.2.2.1) p.2.2.2.2.2)],6,[],[.call 49 [pt 2,pt 1] []]⟩
def mwSt (p : MwP) : MwS:=⟨p.2.1 :: p.2.2.1,p.2.2.2.1,p.2.2.2.2.1⟩
def mwHd (m : MsT) : UInt8 × Bl:=(hi8 m.id.toNat,[lo8 m.id.toNat,hi8 m.fl.toNat,lo8 m.fl.toNat,hi8 m.q.length,lo8 m.q.length,hi8 m.an.length,lo8 m.an.length,hi8 m.ns.length,lo8 m.ns.length,hi8 m.ar.length,lo8 m.ar.length])
def mwS2 (m : MsT) (k : Int) (yl : List RcX) (p : MwP) (f : Nat -> Option Value) : Fs:=⟨slots 7 [(2,pt 1),(3,pt 2),(9,pt 4),(80,.agg #[.pointer (some ⟨0,3,none⟩),.pointer (some ⟨0,4,none⟩),.pointer (some ⟨0,5,none⟩)]),(81,.int .i64 k),(86,trR yl),(87,.int .i64 (yl.length : Nat)),(88,.int .i64 (p.1 : Nat))] f,heap 3 [(0,.cells [.int .i64 m.id,.int .i64 m.fl,trQ m.q,trR m.an,trR m.ns,trR m.ar] 25),(1,.cells [sq 3 (p.2.2.1.length + 1) U] 49),(2,.cells [.int .i64 0] 33),(3,.cells ((p.2.1 :: p.2.2.1).map byV) 5),(4,.cells [.map (some 5),.int .i64 (p.2.2.2.2.1 : Int)] 102),(5,.map (encT p.2.2.2.1) p.2.2.2.2.2)],6,[],[.call 49 [pt 2,pt 1] []]⟩
theorem mw_start (m : MsT) : mwInv ⟨m.head,[],0⟩ m.items 0 ⟨(mwHd m).1 :: (mwHd m).2,[],0⟩ :=
 ⟨Nat.le_add_left _ _,aJ _,aJ _,⟨List.nodup_nil,fun _ h=>by cases h⟩,.inl ⟨(by decide : 12<=65535),rfl⟩⟩
theorem items_q {m : MsT} {i : Nat} (h : i < m.q.length) (hI : i < m.items.length) : m.items[i] = .inl m.q[i]:=by
 have e : m.items[i]? = some (.inl m.q[i]):=by
  unfold MsT.items
  rw [List.getElem?_append_left (by simpa using h),List.getElem?_map,gG h];rfl
 exact Option.some.inj ((gG hI).symm.trans e)
theorem zTn {all pre post : List MwI} {l : List RcX} (e : all = pre++(l.map .inr++post)) {i : Nat} (h : i < l.length) {k : Nat} (hk : k = pre.length + i) (hI : k < all.length) : all[k] = .inr l[i]:=by
 have e : all[k]? = some (.inr l[i]):=by
  rw [e,hk,List.getElem?_append_right (Nat.le_add_right _ _),Nat.add_sub_cancel_left,List.getElem?_append_left (by simpa using h),List.getElem?_map,gG h];rfl
 exact Option.some.inj ((gG hI).symm.trans e)
theorem apC {sz by' la lb t : Nat} {C N : List Value} (h1 : sz = 1) (h2 : by' = 1) (hC : C.length = la) (hN : N.length = lb) (ho : oneL N = true) (h3 : la + lb<=1000000000) (h4 : 0 < lb) : (Nat.beq 0 0&&Nat.beq t t&&(la * sz).ble C.length&&oneL N&&decide ((la + lb) * by'<=140737488355328)&&decide (la + lb<=9223372036854775807)&&C.length.blt (0 + la * sz + N.length)) = true:=by
 subst h1;subst h2
 simp only [bA,dT]
 exact ⟨⟨⟨⟨⟨⟨rfl,by simp⟩,bL (by omega)⟩,ho⟩,by omega⟩,by omega⟩,bL (by omega)⟩
theorem ec_of (u : UInt8) (us : Bl) (v : UInt8) (vs : Bl) : (List.take ((us.length + 1) * 1) (byV u :: us.map byV))++(v :: vs).map byV = (u :: (us++v :: vs)).map byV:=by rw [aR,aD (by simp)];simp
theorem zOg {σ : Nat -> Nat -> Prop} {b c : Nat} {t : TypeId} (h : σ b c) (us : Bl) (v : UInt8) (vs : Bl) : RO Try.prog σ (.cells [sq b (us.length + 1 + (v :: vs).length) U] t) (.cells [sq c ((us++v :: vs).length + 1) U] t):=by
 rw [show us.length + 1 + (v :: vs).length = (us++v :: vs).length + 1 by simp;omega];exact zAw h
theorem zFb {m : MsT} (h0 : m.chk = 0) (h : mwF ⟨m.head,[],0⟩ m.items = none) : m.wr = (3,[]):=by
 unfold MsT.wr;rw [if_neg (aL h0),h]
theorem wr_some {m : MsT} {s : MwS} (h0 : m.chk = 0) (h : mwF ⟨m.head,[],0⟩ m.items = some s) : m.wr = (0,s.out):=by
 unfold MsT.wr;rw [if_neg (aL h0),h]
theorem zYb (m : MsT) (hm : m.okM) (hk : m.fit 1000) : ∃ r,FnS Try.prog 0 30 [m.v] .e 0 r /\ ∃ H k wr b,r = .ret (.tuple #[ovN b m.wr.2,.int .i64 m.wr.1]) H k wr /\ (m.wr.2 ≠ [] -> b < JJ /\ H.get b = some (.cells (m.wr.2.map byV) 5)):=by
 have h1s : (Try.prog.types[5]).size = 1:=by kernel_rfl
 have hby : (Try.prog.types[5]).bytes = 1:=by kernel_rfl
 refine zVs mixed tbMw3 [] Try.func30 (c:=bodyOf Try.f30) (by kernel_rfl) ?_
 refine eI m.lt (aI ⟨rfl,m.lt_at _,hm⟩ ?_)
 refine ifK (fun g=>?_) (fun g=>?_)
 ·have g : m.chk ≠ 0:=by have g : (m.chk != 0) = true:=g;simpa using g
  refine aI rfl (zAh (rcq [1,2] (d:=7) (d2:=2) (lv:=[(2,pt 0),(3,pt 1)]) (bs:=[(0,.cells [.slice none 0 0] 49),(1,.cells [.int .i64 m.chk] 33)]) (W:=[]) (m:=2) (df:=[.call 49 [pt 1,pt 0] []]) ⟨(sP rfl rfl),(sP rfl rfl),tv⟩ ⟨bpo rfl,bpo rfl,tv⟩ (.fn _ _ _ _ _ _ _ (.cons _ _ _ _ (.ptr _ _ _ rfl) (.cons _ _ _ _ (.ptr _ _ _ rfl) .nil)) .nil .nil)) (fun f=>?_))
  refine Eq.mpr (mw_e1 m.chk g _ f) ?_
  have e : m.wr = (m.chk,[]):=by unfold MsT.wr;rw [if_pos g]
  rw [e]
  exact ⟨_,_,_,0,rfl,fun h=>ab rfl h⟩
 have g0 : m.chk = 0:=by have g : (m.chk != 0) = false:=g;simpa using g
 refine LW.round ?_
 refine zAq tbMw3 [] 0 _ none mixed _ _ _ ?_
 obtain ⟨c1,c2,c3,c4,c5,c6⟩:=zWh g0
 refine eI m.id.toNat (aI ⟨by rw [Int.toNat_of_nonneg c1.1],by omega⟩ ?_)
 refine LW.round ?_
 refine zAq tbMw3 [] 0 _ none mixed _ _ _ ?_
 refine eI m.fl.toNat (aI ⟨by rw [Int.toNat_of_nonneg c2.1],by omega⟩ ?_)
 refine aI (by kernel_rfl) ?_
 refine LW.round ?_
 refine zAq tbMw3 [] 0 _ none mixed _ _ _ ?_
 refine eI m.q.length (aI ⟨rfl,by omega⟩ ?_)
 refine aI (by kernel_rfl) ?_
 refine LW.round ?_
 refine zAq tbMw3 [] 0 _ none mixed _ _ _ ?_
 refine eI m.an.length (aI ⟨rfl,by omega⟩ ?_)
 refine aI (by kernel_rfl) ?_
 refine LW.round ?_
 refine zAq tbMw3 [] 0 _ none mixed _ _ _ ?_
 refine eI m.ns.length (aI ⟨rfl,by omega⟩ ?_)
 refine aI (by kernel_rfl) ?_
 refine LW.round ?_
 refine zAq tbMw3 [] 0 _ none mixed _ _ _ ?_
 refine eI m.ar.length (aI ⟨rfl,by omega⟩ ?_)
 refine aI (by kernel_rfl) ?_
 refine LW.round ?_
 refine zAq tbMw3 [] 0 _ none mixed _ _ _ ?_
 refine zAp (mwS1 m) (fun p=>m.q.length - p.1) (fun p=>p.1<=m.q.length /\ mwInv ⟨m.head,[],0⟩ m.items p.1 (mwSt p)) (0,(mwHd m).1,(mwHd m).2,[],0,0) ⟨aH _,mw_start m⟩ ?_ ?_
 ·exact rcq [0,1,2,15,17,16] ⟨(sP rfl rfl),(sP rfl rfl),(sP rfl rfl),(sP rfl rfl),⟨_,rfl,zAe 8 rfl⟩,(sI rfl),(sI rfl),tv⟩ ⟨⟨by decide,_,rfl,RO.clos rfl⟩,⟨by decide,_,rfl,zAw rfl⟩,bpo rfl,⟨by decide,_,rfl,zAs rfl (zAc _)⟩,⟨by decide,_,rfl,zAz 16 5 (by exact rfl) 0⟩,⟨by decide,_,rfl,by show RO _ _ (.map (encT []) 0) (.map (encT []) 0);exact RO.map _ _ _ (zAk _)⟩,tv⟩ (.fn _ _ _ _ _ _ _ (.cons _ _ _ _ (.ptr _ _ _ rfl) (.cons _ _ _ _ (.ptr _ _ _ rfl) .nil)) .nil .nil)
 rintro ⟨i,u,us,T,en,ck⟩ f ⟨hi,hinv⟩
 have hi : i<=m.q.length:=hi
 have hinv : mwInv ⟨m.head,[],0⟩ m.items i ⟨u :: us,T,en⟩:=hinv
 refine zAq tbMw3 [7] 0 _ none mixed _ _ _ ?_
 have hI : m.items.length = m.q.length + (m.an.length + (m.ns.length + m.ar.length)):=by unfold MsT.items;simp
 obtain ⟨k1,k2,k3,k4⟩:=hk
 refine ifK (fun h1=>?_) (fun h1=>?_)
 ·have h1 : i < m.q.length:=by have h1 : ((i : Nat) : Int) < (m.q.length : Int):=oT h1;omega
  have hiI : i < m.items.length:=by omega
  have hit : m.items[i] = .inl m.q[i]:=items_q h1 hiI
  refine ifK (fun _=>?_) (fun h2=>ab h2 (by simp [inI];omega))
  refine eI m.q[i].n (eI m.q[i].t (eI m.q[i].c (aI (zBa layQ h1) ?_)))
  obtain ⟨R,hR⟩ : ∃ R,mwD ⟨u :: us,T,en⟩ m.items[i] = R:=⟨_,rfl⟩
  have hD : askD en T ((us.length + 1 : Nat) : Int) m.q[i].n m.q[i].t m.q[i].c = R:=by rw [<- hR,hit];rfl
  obtain ⟨r1,r2,r3,r4,r5⟩:=zLp _ _ hR
  have hsh:=hm.1 _ (aV h1)
  obtain ⟨e,o,F,en'⟩:=R
  by_cases he : e = 0
  ·subst he
   obtain ⟨v,vs,rfl⟩ : ∃ v vs,o = v :: vs:=by
    cases o with
    | nil=>exact ab rfl (r3 rfl)
    | cons v vs=>exact ⟨v,vs,rfl⟩
   refine eI (⟨4,5,en,T,ck,⟨((us.length + 1 : Nat) : Int),m.q[i].n,m.q[i].t,m.q[i].c⟩,0,v :: vs,F,en'⟩ : PkY AskY) (aI ⟨rfl,(show Tr.get _ 4 = some (AObj.cells [.map (some 5),.int .i64 (en : Int)] _) from rfl),(show Tr.get _ 5 = some (AObj.map (encT T) ck) from rfl),hinv.gd,hsh,hD⟩ ?_)
   refine eI ((v :: vs).map byV) (aI (zMe (l:=v :: vs) h1s rfl) ?_)
   have hul : us.length + 1<=12 + 70000 * i:=hinv.hi
   have hvl : vs.length + 1<=70000:=r1
   refine aI (apC h1s hby (by simp) (by simp) (oneB _) (by simp;omega) (by simp)) ?_
   refine ⟨(i + 1,u,us++v :: vs,T++F,en',ck + F.length),⟨h1,hinv.next hiI hR rfl⟩,by show m.q.length - (i + 1) < m.q.length - i;omega,?_⟩
   exact rcq [0,1,2,8,4,5] ⟨(sP rfl rfl),(sP rfl rfl),(sP rfl rfl),(sP rfl rfl),⟨_,rfl,zAe 8 rfl⟩,(sI rfl),zAa rfl (by rw [wrapN (by omega) (by omega)];omega),tv⟩ ⟨⟨by decide,_,rfl,RO.clos rfl⟩,⟨by decide,_,rfl,by refine zOg ?_ us v vs;rfl⟩,bpo rfl,⟨by decide,_,rfl,zAs (by rw [<- ec_of u us v vs];rfl) (zAc _)⟩,⟨by decide,_,rfl,zAz 5 5 (by exact rfl) _⟩,⟨by decide,_,rfl,RO.map _ _ _ (zAk _)⟩,tv⟩ (.fn _ _ _ _ _ _ _ (.cons _ _ _ _ (.ptr _ _ _ rfl) (.cons _ _ _ _ (.ptr _ _ _ rfl) .nil)) .nil .nil)
  have ho : o = []:=r4 he
  subst ho
  refine eI (⟨4,5,en,T,ck,⟨((us.length + 1 : Nat) : Int),m.q[i].n,m.q[i].t,m.q[i].c⟩,e,[],F,en'⟩ : PkY AskY) (aI ⟨rfl,(show Tr.get _ 4 = some (AObj.cells [.map (some 5),.int .i64 (en : Int)] _) from rfl),(show Tr.get _ 5 = some (AObj.map (encT T) ck) from rfl),hinv.gd,hsh,hD⟩ ?_)
  refine ifK (fun _=>?_) (fun g=>ab (show (e != 0) = false from g) (by simpa using he))
  refine aI rfl (zDh (a:=1) (b:=2) (c:=3) (e:=3) (u:=u) (us:=us) rfl (by decide) (by decide) rfl rfl rfl rfl rfl rfl rfl rfl rfl rfl (fun f=>?_))
  refine aI rfl (zDh (a:=0) (b:=1) (c:=2) (e:=3) (u:=u) (us:=us) rfl (by decide) (by decide) rfl rfl rfl rfl rfl rfl rfl rfl rfl rfl (fun f=>?_))
  refine Eq.mpr (zRh u us _ f) ?_
  rw [zFb g0 (hinv.bad hiI hR he)]
  exact ⟨_,_,_,0,rfl,fun h=>ab rfl h⟩
 have h1 : ¬ i < m.q.length:=by have h1 : ¬ ((i : Nat) : Int) < (m.q.length : Int):=oF h1;omega
 have h1 : i = m.q.length:=by omega
 subst h1
 refine aI rfl (zAh (rcq [0,1,2,3,4,5] (d:=7) (d2:=3) (lv:=[(1,pt 0),(2,pt 1),(3,pt 2),(9,pt 4)]) (bs:=[(0,.cells [.int .i64 m.id,.int .i64 m.fl,trQ m.q,trR m.an,trR m.ns,trR m.ar] 25),(1,.cells [sq 3 (us.length + 1) U] 49),(2,.cells [.int .i64 0] 33),(3,.cells ((u :: us).map byV) 5),(4,.cells [.map (some 5),.int .i64 (en : Int)] 102),(5,.map (encT T) ck)]) (W:=[]) (m:=6) (df:=[.call 49 [pt 2,pt 1] []]) ⟨(sP rfl rfl),(sP rfl rfl),(sP rfl rfl),(sP rfl rfl),tv⟩ ⟨⟨by decide,_,rfl,RO.clos rfl⟩,⟨by decide,_,rfl,zAw rfl⟩,bpo rfl,bpo (zAc _),⟨by decide,_,rfl,zAz 5 5 (by exact rfl) _⟩,⟨by decide,_,rfl,RO.map _ _ _ (zAk _)⟩,tv⟩ (.fn _ _ _ _ _ _ _ (.cons _ _ _ _ (.ptr _ _ _ rfl) (.cons _ _ _ _ (.ptr _ _ _ rfl) .nil)) .nil .nil)) (fun f=>?_))
 refine aI (by kernel_rfl) ?_
 refine LW.round ?_
 refine zAq tbMw3 [] 0 _ none mixed _ _ _ ?_
 refine zAp (mwS2 m 0 m.an) (fun p=>m.an.length - p.1) (fun p=>p.1<=m.an.length /\ mwInv ⟨m.head,[],0⟩ m.items (m.q.length + p.1) (mwSt p)) (0,u,us,T,en,ck) ⟨aH _,hinv⟩ ?_ ?_
 ·exact rcq [0,1,2,3,4,5] ⟨(sP rfl rfl),(sP rfl rfl),(sP rfl rfl),⟨_,rfl,.agg _ _ (.cons _ _ _ _ (.ptr _ _ _ rfl) (.cons _ _ _ _ (.ptr _ _ _ rfl) (.cons _ _ _ _ (.ptr _ _ _ rfl) .nil)))⟩,(sI rfl),⟨_,rfl,zAe 8 rfl⟩,(sI rfl),(sI rfl),tv⟩ ⟨⟨by decide,_,rfl,RO.clos rfl⟩,⟨by decide,_,rfl,zAw rfl⟩,bpo rfl,bpo (zAc _),⟨by decide,_,rfl,zAz 5 5 (by exact rfl) _⟩,⟨by decide,_,rfl,RO.map _ _ _ (zAk _)⟩,tv⟩ (.fn _ _ _ _ _ _ _ (.cons _ _ _ _ (.ptr _ _ _ rfl) (.cons _ _ _ _ (.ptr _ _ _ rfl) .nil)) .nil .nil)
 rintro ⟨i,u,us,T,en,ck⟩ f ⟨hi,hinv⟩
 have hi : i<=m.an.length:=hi
 have hinv : mwInv ⟨m.head,[],0⟩ m.items (m.q.length + i) ⟨u :: us,T,en⟩:=hinv
 refine zAq tbMw3 [7] 0 _ none mixed _ _ _ ?_
 refine ifK (fun h1=>?_) (fun h1=>?_)
 ·have h1 : i < m.an.length:=by have h1 : ((i : Nat) : Int) < (m.an.length : Int):=oT h1;omega
  have hiI : m.q.length + i < m.items.length:=by omega
  have hit : m.items[m.q.length + i] = .inr m.an[i]:=zTn (pre:=m.q.map .inl) (post:=m.ns.map .inr++m.ar.map .inr) (by unfold MsT.items;simp) h1 (by simp <;> omega) hiI
  refine ifK (fun _=>?_) (fun h2=>ab h2 (by simp [inI];omega))
  refine eI m.an[i].n (eI m.an[i].t (eI m.an[i].c (eI m.an[i].ttl (eI m.an[i].d (aI (zBa layR h1) ?_)))))
  obtain ⟨R,hR⟩ : ∃ R,mwD ⟨u :: us,T,en⟩ m.items[m.q.length + i] = R:=⟨_,rfl⟩
  have hD : recD en T ((us.length + 1 : Nat) : Int) m.an[i] = R:=by rw [<- hR,hit];rfl
  obtain ⟨r1,r2,r3,r4,r5⟩:=zLp _ _ hR
  have hok:=hm.2.1 _ (aV h1)
  obtain ⟨e,o,F,en'⟩:=R
  by_cases he : e = 0
  ·subst he
   obtain ⟨v,vs,rfl⟩ : ∃ v vs,o = v :: vs:=by
    cases o with
    | nil=>exact ab rfl (r3 rfl)
    | cons v vs=>exact ⟨v,vs,rfl⟩
   refine eI (⟨4,5,en,T,ck,⟨((us.length + 1 : Nat) : Int),m.an[i]⟩,0,v :: vs,F,en'⟩ : PkY WrtY) (aI ⟨rfl,(show Tr.get _ 4 = some (AObj.cells [.map (some 5),.int .i64 (en : Int)] _) from rfl),(show Tr.get _ 5 = some (AObj.map (encT T) ck) from rfl),hinv.gd,hok,hD⟩ ?_)
   refine ifK (fun h2=>?_) (fun h2=>?_)
   ·refine aI rfl (zDh (a:=1) (b:=2) (c:=3) (e:=3) (u:=u) (us:=us) rfl (by decide) (by decide) rfl rfl rfl rfl rfl rfl rfl rfl rfl rfl (fun f=>?_))
    refine aI rfl (zDh (a:=0) (b:=1) (c:=2) (e:=3) (u:=u) (us:=us) rfl (by decide) (by decide) rfl rfl rfl rfl rfl rfl rfl rfl rfl rfl (fun f=>?_))
    refine Eq.mpr (zRh u us _ f) ?_
    rw [zFb g0 (hinv.long (by have h2 : (((us.length + 1 : Nat) : Int)) > 65535:=oT h2;show 65535 < us.length + 1;omega))]
    exact ⟨_,_,_,0,rfl,fun h=>ab rfl h⟩
   refine eI ((v :: vs).map byV) (aI (zMe (l:=v :: vs) h1s rfl) ?_)
   have hul : us.length + 1<=12 + 70000 * (m.q.length + i):=hinv.hi
   have hvl : vs.length + 1<=70000:=r1
   refine aI (apC h1s hby (by simp) (by simp) (oneB _) (by simp;omega) (by simp)) ?_
   refine ⟨(i + 1,u,us++v :: vs,T++F,en',ck + F.length),⟨h1,hinv.next hiI hR rfl⟩,by show m.an.length - (i + 1) < m.an.length - i;omega,?_⟩
   exact rcq [0,1,2,8,4,5] ⟨(sP rfl rfl),(sP rfl rfl),(sP rfl rfl),⟨_,rfl,.agg _ _ (.cons _ _ _ _ (.ptr _ _ _ rfl) (.cons _ _ _ _ (.ptr _ _ _ rfl) (.cons _ _ _ _ (.ptr _ _ _ rfl) .nil)))⟩,(sI rfl),⟨_,rfl,zAe 8 rfl⟩,(sI rfl),zAa rfl (by rw [wrapN (by omega) (by omega)];omega),tv⟩ ⟨⟨by decide,_,rfl,RO.clos rfl⟩,⟨by decide,_,rfl,by refine zOg ?_ us v vs;rfl⟩,bpo rfl,⟨by decide,_,rfl,zAs (by rw [<- ec_of u us v vs];rfl) (zAc _)⟩,⟨by decide,_,rfl,zAz 5 5 (by exact rfl) _⟩,⟨by decide,_,rfl,RO.map _ _ _ (zAk _)⟩,tv⟩ (.fn _ _ _ _ _ _ _ (.cons _ _ _ _ (.ptr _ _ _ rfl) (.cons _ _ _ _ (.ptr _ _ _ rfl) .nil)) .nil .nil)
  have ho : o = []:=r4 he
  subst ho
  refine eI (⟨4,5,en,T,ck,⟨((us.length + 1 : Nat) : Int),m.an[i]⟩,e,[],F,en'⟩ : PkY WrtY) (aI ⟨rfl,(show Tr.get _ 4 = some (AObj.cells [.map (some 5),.int .i64 (en : Int)] _) from rfl),(show Tr.get _ 5 = some (AObj.map (encT T) ck) from rfl),hinv.gd,hok,hD⟩ ?_)
  refine ifK (fun _=>?_) (fun g=>ab (show (e != 0) = false from g) (by simpa using he))
  refine aI rfl (zDh (a:=1) (b:=2) (c:=3) (e:=3) (u:=u) (us:=us) rfl (by decide) (by decide) rfl rfl rfl rfl rfl rfl rfl rfl rfl rfl (fun f=>?_))
  refine aI rfl (zDh (a:=0) (b:=1) (c:=2) (e:=3) (u:=u) (us:=us) rfl (by decide) (by decide) rfl rfl rfl rfl rfl rfl rfl rfl rfl rfl (fun f=>?_))
  refine Eq.mpr (zRh u us _ f) ?_
  rw [zFb g0 (hinv.bad hiI hR he)]
  exact ⟨_,_,_,0,rfl,fun h=>ab rfl h⟩
 have h1 : ¬ i < m.an.length:=by have h1 : ¬ ((i : Nat) : Int) < (m.an.length : Int):=oF h1;omega
 have h1 : i = m.an.length:=by omega
 subst h1
 refine aI rfl (zAh (rcq [0,1,2,3,4,5] (d:=7) (d2:=3) (lv:=[(2,pt 1),(3,pt 2),(9,pt 4),(80,.agg #[.pointer (some ⟨0,3,none⟩),.pointer (some ⟨0,4,none⟩),.pointer (some ⟨0,5,none⟩)]),(81,.int .i64 0)]) (bs:=[(0,.cells [.int .i64 m.id,.int .i64 m.fl,trQ m.q,trR m.an,trR m.ns,trR m.ar] 25),(1,.cells [sq 3 (us.length + 1) U] 49),(2,.cells [.int .i64 0] 33),(3,.cells ((u :: us).map byV) 5),(4,.cells [.map (some 5),.int .i64 (en : Int)] 102),(5,.map (encT T) ck)]) (W:=[]) (m:=6) (df:=[.call 49 [pt 2,pt 1] []]) ⟨(sP rfl rfl),(sP rfl rfl),(sP rfl rfl),⟨_,rfl,.agg _ _ (.cons _ _ _ _ (.ptr _ _ _ rfl) (.cons _ _ _ _ (.ptr _ _ _ rfl) (.cons _ _ _ _ (.ptr _ _ _ rfl) .nil)))⟩,(sI rfl),tv⟩ ⟨⟨by decide,_,rfl,RO.clos rfl⟩,⟨by decide,_,rfl,zAw rfl⟩,bpo rfl,bpo (zAc _),⟨by decide,_,rfl,zAz 5 5 (by exact rfl) _⟩,⟨by decide,_,rfl,RO.map _ _ _ (zAk _)⟩,tv⟩ (.fn _ _ _ _ _ _ _ (.cons _ _ _ _ (.ptr _ _ _ rfl) (.cons _ _ _ _ (.ptr _ _ _ rfl) .nil)) .nil .nil)) (fun f=>?_))
 refine LW.round ?_
 refine zAq tbMw3 [] 0 _ none mixed _ _ _ ?_
 refine zAp (mwS2 m 1 m.ns) (fun p=>m.ns.length - p.1) (fun p=>p.1<=m.ns.length /\ mwInv ⟨m.head,[],0⟩ m.items (m.q.length + m.an.length + p.1) (mwSt p)) (0,u,us,T,en,ck) ⟨aH _,hinv⟩ ?_ ?_
 ·exact rcq [0,1,2,3,4,5] ⟨(sP rfl rfl),(sP rfl rfl),(sP rfl rfl),⟨_,rfl,.agg _ _ (.cons _ _ _ _ (.ptr _ _ _ rfl) (.cons _ _ _ _ (.ptr _ _ _ rfl) (.cons _ _ _ _ (.ptr _ _ _ rfl) .nil)))⟩,(sI rfl),⟨_,rfl,zAe 8 rfl⟩,(sI rfl),(sI rfl),tv⟩ ⟨⟨by decide,_,rfl,RO.clos rfl⟩,⟨by decide,_,rfl,zAw rfl⟩,bpo rfl,bpo (zAc _),⟨by decide,_,rfl,zAz 5 5 (by exact rfl) _⟩,⟨by decide,_,rfl,RO.map _ _ _ (zAk _)⟩,tv⟩ (.fn _ _ _ _ _ _ _ (.cons _ _ _ _ (.ptr _ _ _ rfl) (.cons _ _ _ _ (.ptr _ _ _ rfl) .nil)) .nil .nil)
 rintro ⟨i,u,us,T,en,ck⟩ f ⟨hi,hinv⟩
 have hi : i<=m.ns.length:=hi
 have hinv : mwInv ⟨m.head,[],0⟩ m.items (m.q.length + m.an.length + i) ⟨u :: us,T,en⟩:=hinv
 refine zAq tbMw3 [7] 0 _ none mixed _ _ _ ?_
 refine ifK (fun h1=>?_) (fun h1=>?_)
 ·have h1 : i < m.ns.length:=by have h1 : ((i : Nat) : Int) < (m.ns.length : Int):=oT h1;omega
  have hiI : m.q.length + m.an.length + i < m.items.length:=by omega
  have hit : m.items[m.q.length + m.an.length + i] = .inr m.ns[i]:=zTn (pre:=m.q.map .inl++m.an.map .inr) (post:=m.ar.map .inr) (by unfold MsT.items;simp) h1 (by simp <;> omega) hiI
  refine ifK (fun _=>?_) (fun h2=>ab h2 (by simp [inI];omega))
  refine eI m.ns[i].n (eI m.ns[i].t (eI m.ns[i].c (eI m.ns[i].ttl (eI m.ns[i].d (aI (zBa layR h1) ?_)))))
  obtain ⟨R,hR⟩ : ∃ R,mwD ⟨u :: us,T,en⟩ m.items[m.q.length + m.an.length + i] = R:=⟨_,rfl⟩
  have hD : recD en T ((us.length + 1 : Nat) : Int) m.ns[i] = R:=by rw [<- hR,hit];rfl
  obtain ⟨r1,r2,r3,r4,r5⟩:=zLp _ _ hR
  have hok:=hm.2.2.1 _ (aV h1)
  obtain ⟨e,o,F,en'⟩:=R
  by_cases he : e = 0
  ·subst he
   obtain ⟨v,vs,rfl⟩ : ∃ v vs,o = v :: vs:=by
    cases o with
    | nil=>exact ab rfl (r3 rfl)
    | cons v vs=>exact ⟨v,vs,rfl⟩
   refine eI (⟨4,5,en,T,ck,⟨((us.length + 1 : Nat) : Int),m.ns[i]⟩,0,v :: vs,F,en'⟩ : PkY WrtY) (aI ⟨rfl,(show Tr.get _ 4 = some (AObj.cells [.map (some 5),.int .i64 (en : Int)] _) from rfl),(show Tr.get _ 5 = some (AObj.map (encT T) ck) from rfl),hinv.gd,hok,hD⟩ ?_)
   refine ifK (fun h2=>?_) (fun h2=>?_)
   ·refine aI rfl (zDh (a:=1) (b:=2) (c:=3) (e:=3) (u:=u) (us:=us) rfl (by decide) (by decide) rfl rfl rfl rfl rfl rfl rfl rfl rfl rfl (fun f=>?_))
    refine aI rfl (zDh (a:=0) (b:=1) (c:=2) (e:=3) (u:=u) (us:=us) rfl (by decide) (by decide) rfl rfl rfl rfl rfl rfl rfl rfl rfl rfl (fun f=>?_))
    refine Eq.mpr (zRh u us _ f) ?_
    rw [zFb g0 (hinv.long (by have h2 : (((us.length + 1 : Nat) : Int)) > 65535:=oT h2;show 65535 < us.length + 1;omega))]
    exact ⟨_,_,_,0,rfl,fun h=>ab rfl h⟩
   refine eI ((v :: vs).map byV) (aI (zMe (l:=v :: vs) h1s rfl) ?_)
   have hul : us.length + 1<=12 + 70000 * (m.q.length + m.an.length + i):=hinv.hi
   have hvl : vs.length + 1<=70000:=r1
   refine aI (apC h1s hby (by simp) (by simp) (oneB _) (by simp;omega) (by simp)) ?_
   refine ⟨(i + 1,u,us++v :: vs,T++F,en',ck + F.length),⟨h1,hinv.next hiI hR rfl⟩,by show m.ns.length - (i + 1) < m.ns.length - i;omega,?_⟩
   exact rcq [0,1,2,8,4,5] ⟨(sP rfl rfl),(sP rfl rfl),(sP rfl rfl),⟨_,rfl,.agg _ _ (.cons _ _ _ _ (.ptr _ _ _ rfl) (.cons _ _ _ _ (.ptr _ _ _ rfl) (.cons _ _ _ _ (.ptr _ _ _ rfl) .nil)))⟩,(sI rfl),⟨_,rfl,zAe 8 rfl⟩,(sI rfl),zAa rfl (by rw [wrapN (by omega) (by omega)];omega),tv⟩ ⟨⟨by decide,_,rfl,RO.clos rfl⟩,⟨by decide,_,rfl,by refine zOg ?_ us v vs;rfl⟩,bpo rfl,⟨by decide,_,rfl,zAs (by rw [<- ec_of u us v vs];rfl) (zAc _)⟩,⟨by decide,_,rfl,zAz 5 5 (by exact rfl) _⟩,⟨by decide,_,rfl,RO.map _ _ _ (zAk _)⟩,tv⟩ (.fn _ _ _ _ _ _ _ (.cons _ _ _ _ (.ptr _ _ _ rfl) (.cons _ _ _ _ (.ptr _ _ _ rfl) .nil)) .nil .nil)
  have ho : o = []:=r4 he
  subst ho
  refine eI (⟨4,5,en,T,ck,⟨((us.length + 1 : Nat) : Int),m.ns[i]⟩,e,[],F,en'⟩ : PkY WrtY) (aI ⟨rfl,(show Tr.get _ 4 = some (AObj.cells [.map (some 5),.int .i64 (en : Int)] _) from rfl),(show Tr.get _ 5 = some (AObj.map (encT T) ck) from rfl),hinv.gd,hok,hD⟩ ?_)
  refine ifK (fun _=>?_) (fun g=>ab (show (e != 0) = false from g) (by simpa using he))
  refine aI rfl (zDh (a:=1) (b:=2) (c:=3) (e:=3) (u:=u) (us:=us) rfl (by decide) (by decide) rfl rfl rfl rfl rfl rfl rfl rfl rfl rfl (fun f=>?_))
  refine aI rfl (zDh (a:=0) (b:=1) (c:=2) (e:=3) (u:=u) (us:=us) rfl (by decide) (by decide) rfl rfl rfl rfl rfl rfl rfl rfl rfl rfl (fun f=>?_))
  refine Eq.mpr (zRh u us _ f) ?_
  rw [zFb g0 (hinv.bad hiI hR he)]
  exact ⟨_,_,_,0,rfl,fun h=>ab rfl h⟩
 have h1 : ¬ i < m.ns.length:=by have h1 : ¬ ((i : Nat) : Int) < (m.ns.length : Int):=oF h1;omega
 have h1 : i = m.ns.length:=by omega
 subst h1
 refine aI rfl (zAh (rcq [0,1,2,3,4,5] (d:=7) (d2:=3) (lv:=[(2,pt 1),(3,pt 2),(9,pt 4),(80,.agg #[.pointer (some ⟨0,3,none⟩),.pointer (some ⟨0,4,none⟩),.pointer (some ⟨0,5,none⟩)]),(81,.int .i64 1)]) (bs:=[(0,.cells [.int .i64 m.id,.int .i64 m.fl,trQ m.q,trR m.an,trR m.ns,trR m.ar] 25),(1,.cells [sq 3 (us.length + 1) U] 49),(2,.cells [.int .i64 0] 33),(3,.cells ((u :: us).map byV) 5),(4,.cells [.map (some 5),.int .i64 (en : Int)] 102),(5,.map (encT T) ck)]) (W:=[]) (m:=6) (df:=[.call 49 [pt 2,pt 1] []]) ⟨(sP rfl rfl),(sP rfl rfl),(sP rfl rfl),⟨_,rfl,.agg _ _ (.cons _ _ _ _ (.ptr _ _ _ rfl) (.cons _ _ _ _ (.ptr _ _ _ rfl) (.cons _ _ _ _ (.ptr _ _ _ rfl) .nil)))⟩,(sI rfl),tv⟩ ⟨⟨by decide,_,rfl,RO.clos rfl⟩,⟨by decide,_,rfl,zAw rfl⟩,bpo rfl,bpo (zAc _),⟨by decide,_,rfl,zAz 5 5 (by exact rfl) _⟩,⟨by decide,_,rfl,RO.map _ _ _ (zAk _)⟩,tv⟩ (.fn _ _ _ _ _ _ _ (.cons _ _ _ _ (.ptr _ _ _ rfl) (.cons _ _ _ _ (.ptr _ _ _ rfl) .nil)) .nil .nil)) (fun f=>?_))
 refine LW.round ?_
 refine zAq tbMw3 [] 0 _ none mixed _ _ _ ?_
 refine zAp (mwS2 m 2 m.ar) (fun p=>m.ar.length - p.1) (fun p=>p.1<=m.ar.length /\ mwInv ⟨m.head,[],0⟩ m.items (m.q.length + m.an.length + m.ns.length + p.1) (mwSt p)) (0,u,us,T,en,ck) ⟨aH _,hinv⟩ ?_ ?_
 ·exact rcq [0,1,2,3,4,5] ⟨(sP rfl rfl),(sP rfl rfl),(sP rfl rfl),⟨_,rfl,.agg _ _ (.cons _ _ _ _ (.ptr _ _ _ rfl) (.cons _ _ _ _ (.ptr _ _ _ rfl) (.cons _ _ _ _ (.ptr _ _ _ rfl) .nil)))⟩,(sI rfl),⟨_,rfl,zAe 8 rfl⟩,(sI rfl),(sI rfl),tv⟩ ⟨⟨by decide,_,rfl,RO.clos rfl⟩,⟨by decide,_,rfl,zAw rfl⟩,bpo rfl,bpo (zAc _),⟨by decide,_,rfl,zAz 5 5 (by exact rfl) _⟩,⟨by decide,_,rfl,RO.map _ _ _ (zAk _)⟩,tv⟩ (.fn _ _ _ _ _ _ _ (.cons _ _ _ _ (.ptr _ _ _ rfl) (.cons _ _ _ _ (.ptr _ _ _ rfl) .nil)) .nil .nil)
 rintro ⟨i,u,us,T,en,ck⟩ f ⟨hi,hinv⟩
 have hi : i<=m.ar.length:=hi
 have hinv : mwInv ⟨m.head,[],0⟩ m.items (m.q.length + m.an.length + m.ns.length + i) ⟨u :: us,T,en⟩:=hinv
 refine zAq tbMw3 [7] 0 _ none mixed _ _ _ ?_
 refine ifK (fun h1=>?_) (fun h1=>?_)
 ·have h1 : i < m.ar.length:=by have h1 : ((i : Nat) : Int) < (m.ar.length : Int):=oT h1;omega
  have hiI : m.q.length + m.an.length + m.ns.length + i < m.items.length:=by omega
  have hit : m.items[m.q.length + m.an.length + m.ns.length + i] = .inr m.ar[i]:=zTn (pre:=m.q.map .inl++(m.an.map .inr++m.ns.map .inr)) (post:=[]) (by unfold MsT.items;simp) h1 (by simp <;> omega) hiI
  refine ifK (fun _=>?_) (fun h2=>ab h2 (by simp [inI];omega))
  refine eI m.ar[i].n (eI m.ar[i].t (eI m.ar[i].c (eI m.ar[i].ttl (eI m.ar[i].d (aI (zBa layR h1) ?_)))))
  obtain ⟨R,hR⟩ : ∃ R,mwD ⟨u :: us,T,en⟩ m.items[m.q.length + m.an.length + m.ns.length + i] = R:=⟨_,rfl⟩
  have hD : recD en T ((us.length + 1 : Nat) : Int) m.ar[i] = R:=by rw [<- hR,hit];rfl
  obtain ⟨r1,r2,r3,r4,r5⟩:=zLp _ _ hR
  have hok:=hm.2.2.2 _ (aV h1)
  obtain ⟨e,o,F,en'⟩:=R
  by_cases he : e = 0
  ·subst he
   obtain ⟨v,vs,rfl⟩ : ∃ v vs,o = v :: vs:=by
    cases o with
    | nil=>exact ab rfl (r3 rfl)
    | cons v vs=>exact ⟨v,vs,rfl⟩
   refine eI (⟨4,5,en,T,ck,⟨((us.length + 1 : Nat) : Int),m.ar[i]⟩,0,v :: vs,F,en'⟩ : PkY WrtY) (aI ⟨rfl,(show Tr.get _ 4 = some (AObj.cells [.map (some 5),.int .i64 (en : Int)] _) from rfl),(show Tr.get _ 5 = some (AObj.map (encT T) ck) from rfl),hinv.gd,hok,hD⟩ ?_)
   refine ifK (fun h2=>?_) (fun h2=>?_)
   ·refine aI rfl (zDh (a:=1) (b:=2) (c:=3) (e:=3) (u:=u) (us:=us) rfl (by decide) (by decide) rfl rfl rfl rfl rfl rfl rfl rfl rfl rfl (fun f=>?_))
    refine aI rfl (zDh (a:=0) (b:=1) (c:=2) (e:=3) (u:=u) (us:=us) rfl (by decide) (by decide) rfl rfl rfl rfl rfl rfl rfl rfl rfl rfl (fun f=>?_))
    refine Eq.mpr (zRh u us _ f) ?_
    rw [zFb g0 (hinv.long (by have h2 : (((us.length + 1 : Nat) : Int)) > 65535:=oT h2;show 65535 < us.length + 1;omega))]
    exact ⟨_,_,_,0,rfl,fun h=>ab rfl h⟩
   refine eI ((v :: vs).map byV) (aI (zMe (l:=v :: vs) h1s rfl) ?_)
   have hul : us.length + 1<=12 + 70000 * (m.q.length + m.an.length + m.ns.length + i):=hinv.hi
   have hvl : vs.length + 1<=70000:=r1
   refine aI (apC h1s hby (by simp) (by simp) (oneB _) (by simp;omega) (by simp)) ?_
   refine ⟨(i + 1,u,us++v :: vs,T++F,en',ck + F.length),⟨h1,hinv.next hiI hR rfl⟩,by show m.ar.length - (i + 1) < m.ar.length - i;omega,?_⟩
   exact rcq [0,1,2,8,4,5] ⟨(sP rfl rfl),(sP rfl rfl),(sP rfl rfl),⟨_,rfl,.agg _ _ (.cons _ _ _ _ (.ptr _ _ _ rfl) (.cons _ _ _ _ (.ptr _ _ _ rfl) (.cons _ _ _ _ (.ptr _ _ _ rfl) .nil)))⟩,(sI rfl),⟨_,rfl,zAe 8 rfl⟩,(sI rfl),zAa rfl (by rw [wrapN (by omega) (by omega)];omega),tv⟩ ⟨⟨by decide,_,rfl,RO.clos rfl⟩,⟨by decide,_,rfl,by refine zOg ?_ us v vs;rfl⟩,bpo rfl,⟨by decide,_,rfl,zAs (by rw [<- ec_of u us v vs];rfl) (zAc _)⟩,⟨by decide,_,rfl,zAz 5 5 (by exact rfl) _⟩,⟨by decide,_,rfl,RO.map _ _ _ (zAk _)⟩,tv⟩ (.fn _ _ _ _ _ _ _ (.cons _ _ _ _ (.ptr _ _ _ rfl) (.cons _ _ _ _ (.ptr _ _ _ rfl) .nil)) .nil .nil)
  have ho : o = []:=r4 he
  subst ho
  refine eI (⟨4,5,en,T,ck,⟨((us.length + 1 : Nat) : Int),m.ar[i]⟩,e,[],F,en'⟩ : PkY WrtY) (aI ⟨rfl,(show Tr.get _ 4 = some (AObj.cells [.map (some 5),.int .i64 (en : Int)] _) from rfl),(show Tr.get _ 5 = some (AObj.map (encT T) ck) from rfl),hinv.gd,hok,hD⟩ ?_)
  refine ifK (fun _=>?_) (fun g=>ab (show (e != 0) = false from g) (by simpa using he))
  refine aI rfl (zDh (a:=1) (b:=2) (c:=3) (e:=3) (u:=u) (us:=us) rfl (by decide) (by decide) rfl rfl rfl rfl rfl rfl rfl rfl rfl rfl (fun f=>?_))
  refine aI rfl (zDh (a:=0) (b:=1) (c:=2) (e:=3) (u:=u) (us:=us) rfl (by decide) (by decide) rfl rfl rfl rfl rfl rfl rfl rfl rfl rfl (fun f=>?_))
  refine Eq.mpr (zRh u us _ f) ?_
  rw [zFb g0 (hinv.bad hiI hR he)]
  exact ⟨_,_,_,0,rfl,fun h=>ab rfl h⟩
 have h1 : ¬ i < m.ar.length:=by have h1 : ¬ ((i : Nat) : Int) < (m.ar.length : Int):=oF h1;omega
 have h1 : i = m.ar.length:=by omega
 subst h1
 refine aI rfl (zAh (rcq [0,1,2,3,4,5] (d:=7) (d2:=3) (lv:=[(2,pt 1),(3,pt 2),(9,pt 4),(80,.agg #[.pointer (some ⟨0,3,none⟩),.pointer (some ⟨0,4,none⟩),.pointer (some ⟨0,5,none⟩)]),(81,.int .i64 2)]) (bs:=[(0,.cells [.int .i64 m.id,.int .i64 m.fl,trQ m.q,trR m.an,trR m.ns,trR m.ar] 25),(1,.cells [sq 3 (us.length + 1) U] 49),(2,.cells [.int .i64 0] 33),(3,.cells ((u :: us).map byV) 5),(4,.cells [.map (some 5),.int .i64 (en : Int)] 102),(5,.map (encT T) ck)]) (W:=[]) (m:=6) (df:=[.call 49 [pt 2,pt 1] []]) ⟨(sP rfl rfl),(sP rfl rfl),(sP rfl rfl),⟨_,rfl,.agg _ _ (.cons _ _ _ _ (.ptr _ _ _ rfl) (.cons _ _ _ _ (.ptr _ _ _ rfl) (.cons _ _ _ _ (.ptr _ _ _ rfl) .nil)))⟩,(sI rfl),tv⟩ ⟨⟨by decide,_,rfl,RO.clos rfl⟩,⟨by decide,_,rfl,zAw rfl⟩,bpo rfl,bpo (zAc _),⟨by decide,_,rfl,zAz 5 5 (by exact rfl) _⟩,⟨by decide,_,rfl,RO.map _ _ _ (zAk _)⟩,tv⟩ (.fn _ _ _ _ _ _ _ (.cons _ _ _ _ (.ptr _ _ _ rfl) (.cons _ _ _ _ (.ptr _ _ _ rfl) .nil)) .nil .nil)) (fun f=>?_))
 refine LW.round ?_
 refine zAq tbMw3 [] 0 _ none mixed _ _ _ ?_
 refine ifK (fun h2=>?_) (fun h2=>?_)
 ·refine aI rfl (zDh (a:=1) (b:=2) (c:=3) (e:=3) (u:=u) (us:=us) rfl (by decide) (by decide) rfl rfl rfl rfl rfl rfl rfl rfl rfl rfl (fun f=>?_))
  refine Eq.mpr (zRh u us _ f) ?_
  rw [zFb g0 (hinv.long (by have h2 : (((us.length + 1 : Nat) : Int)) > 65535:=oT h2;show 65535 < us.length + 1;omega))]
  exact ⟨_,_,_,0,rfl,fun h=>ab rfl h⟩
 refine aI rfl (zDh (a:=1) (b:=2) (c:=3) (e:=0) (u:=u) (us:=us) rfl (by decide) (by decide) rfl rfl rfl rfl rfl rfl rfl rfl rfl rfl (fun f=>?_))
 refine Eq.mpr (mw_e3 u us _ f) ?_
 have e : m.wr = (0,u :: us):=by
  have h2 : ¬ (((us.length + 1 : Nat) : Int)) > 65535:=oF h2
  have hI' : m.q.length + m.an.length + m.ns.length + m.ar.length = m.items.length:=by omega
  have hinv : mwInv ⟨m.head,[],0⟩ m.items m.items.length ⟨u :: us,T,en⟩:=hI' ▸ hinv
  exact wr_some g0 (hinv.fin (by show us.length + 1<=65535;omega))
 rw [e]
 exact ⟨_,_,_,2,rfl,fun _=>⟨by decide,mw_g3 u us f⟩⟩
def mwOut (e : Int) (o : Bl) (H : Tr AObj) (n : Nat) : Res:=match o with
 | []=>.ret (.tuple #[.slice none 0 0,.int .i64 e]) H n []
 | u :: us=>.ret (.tuple #[sq n (us.length + 1) U,.int .i64 e]) (layN H n [((u :: us).map byV,5)]) (n + 1) []
theorem mw_call {f : FuncId} {x : LtM} {e : Int} {o : Bl} {H : Tr AObj} {n : Nat} (h : x.at H) (hw : ∃ r,FnS Try.prog 0 f [x.m.v] .e 0 r /\ ∃ H k wr b,r = .ret (.tuple #[ovN b o,.int .i64 e]) H k wr /\ (o ≠ [] -> b < JJ /\ H.get b = some (.cells (o.map byV) 5))) : CallOK Try.prog 0 f [x.v] H n (mwOut e o H n):=by
 obtain ⟨r,hF,H',k,wr,b,rfl,hb⟩:=hw
 cases o with
 | nil=>exact zEm hF (.cons _ _ _ _ (LtM.frz h) .nil) (.one _ _ (.plain _ rfl))
 | cons u us =>
  obtain ⟨hJ,hg⟩:=hb (aZ _ _)
  exact zDa (fun n=>.tuple #[sq n (us.length + 1) U,.int .i64 e]) [b] [((u :: us).map byV,5)] hF (.cons _ _ _ _ (LtM.frz h) .nil) (by simp) (fun x hx=>by simp at hx;subst hx;exact hJ) rfl
   (fun i b' xs e hb hc=>by
    match i,hb,hc with
    | 0,hb,hc=>cases hb;cases hc;exact ⟨[],by rw [aF];exact hg,zAc _,.inl rfl⟩
    | i + 1,hb,hc=>simp at hb)
   (fun n=>.tuple _ _ (.cons _ _ _ _ (.sl _ _ _ _ _ (zBp (i:=0) (by simp) rfl)) (.cons _ _ _ _ (.plain _ rfl) .nil)))
noncomputable def ct_mw (f : FuncId) (hf : ∀ m : MsT,m.okM -> m.fit 1000 -> ∃ r,FnS Try.prog 0 f [m.v] .e 0 r /\ ∃ H k wr b,r = .ret (.tuple #[ovN b m.wr.2,.int .i64 m.wr.1]) H k wr /\ (m.wr.2 ≠ [] -> b < JJ /\ H.get b = some (.cells (m.wr.2.map byV) 5))) : Ct Try.prog 0 :=
 CtR.ct { f:=f,X:=LtM × Int × Bl,pre:=fun x a H _=>a = [x.1.v] /\ x.1.at H /\ x.1.m.okM /\ x.1.m.fit 1000 /\ x.1.m.wr = (x.2.1,x.2.2),out:=fun x H n=>mwOut x.2.1 x.2.2 H n,
          ok:=fun x a H n ⟨h1,h2,h3,h4,h5⟩=>by
           subst h1
           obtain ⟨x,e,o⟩:=x
           have h5 : x.m.wr = (e,o):=h5
           have := hf x.m h3 h4
           rw [h5] at this
           have hc : CallOK Try.prog 0 f [x.v] H n (mwOut e o H n):=mw_call h2 this
           cases o <;> exact hc,
          uniq:=fun x y a H n ⟨h1,h2,_,_,h5⟩ ⟨k1,k2,_,_,k5⟩=>by
           rw [h1] at k1
           obtain ⟨x,e,o⟩:=x
           obtain ⟨y,e',o'⟩:=y
           simp only [aQ,and_true] at k1
           have := LtM.uniq k1 h2 k2
           subst this
           have := h5.symm.trans k5
           simp only [Prod.mk.injEq] at this
           obtain ⟨rfl,rfl⟩:=this
           rfl }
noncomputable def zSz : Ct Try.prog 0:=ct_mw 30 zYb
end Go.Proofs.Ytknpgjeclmadkaa
