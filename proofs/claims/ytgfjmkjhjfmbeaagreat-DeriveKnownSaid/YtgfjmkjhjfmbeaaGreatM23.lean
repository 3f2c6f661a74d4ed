/- DERIVED. The machine M: the loop over a map that lays its entries into another map: its rounds. -/
import Derived.Test.YtgfjmkjhjfmbeaaGreatM22
namespace Go.Proofs.YtgfjmkjhjfmbeaaGreat
open Go.RowKit
open Go.ChangeMaps (setBlock)

section
variable {P : Program} {g0 nt : Nat}

theorem leftOf_push {arr : Array MapEntry} {seen : Array Nat} {e : MapEntry} {C D : List MapEntry} (hn : (arr.toList.map (·.born)).Nodup) (h : (leftOf arr seen).toList = C ++ e :: D) : (leftOf arr (seen.push e.born)).toList = C ++ D := by
  have h1 : (leftOf arr (seen.push e.born)).toList = (leftOf arr seen).toList.filter fun x => !(x.born == e.born) := by
    unfold leftOf
    rw [Array.toList_filter, Array.toList_filter, List.filter_filter]
    refine List.filter_congr fun x _ => ?_
    rw [contains_push]
    cases seen.contains x.born <;> cases (x.born == e.born) <;> rfl
  have hnd : ((leftOf arr seen).toList.map (·.born)).Nodup := by
    unfold leftOf
    rw [Array.toList_filter]
    exact (List.Sublist.map _ (List.filter_sublist)).nodup hn
  rw [h, List.map_append, List.map_cons] at hnd
  have hnd2 := (List.perm_middle.nodup_iff).1 hnd
  rw [List.nodup_cons] at hnd2
  have hne : ∀ x ∈ C ++ D, (!(x.born == e.born)) = true := fun x hx => by
    have : x.born ≠ e.born := fun he => hnd2.1 (by rw [← List.map_append]; exact List.mem_map.2 ⟨x, hx, he⟩)
    simp [this]
  rw [h1, h, List.filter_append, List.filter_cons]
  simp only [beq_self_eq_true, Bool.not_true, Bool.false_eq_true, if_false]
  rw [← List.filter_append, List.filter_eq_self.2 hne]

theorem aFind_none {kt : TypeId} {k : Value} : ∀ {es : List MapEntry} {i : Nat}, (∀ x ∈ es, eqK P kt k x = some false) → aFind P kt k es i = some none
  | [], _, _ => rfl
  | e :: es, i, h => by
    simp only [aFind, h e (by simp)]
    exact aFind_none fun x hx => h x (by simp [hx])

theorem upd_eval {ut kt et : TypeId} {B c : Nat} {es : List MapEntry} {k v : Value} {G : Gh} (hu : P.underlying ut = some (.map kt et)) (hkt : (P.underlying kt).isSome = true) (hp : plainKeys es = true) (hk : keyOk P kt false k = true) (hf : ∀ x ∈ es, eqK P kt k x = some false) (hG : G B = some (.map es c)) :
    aUpdate P ut (.map (some B)) k v G = .val undef [(B, some (.map (es ++ [{ key := k, val := v, born := 0 }]) (c + 1)))] 0 := by
  unfold aUpdate
  rw [hu]
  simp only [hG]
  cases hd : P.underlying kt with
  | none => rw [hd] at hkt; cases hkt
  | some d => simp only [hp, hk, Bool.and_self, cond_true, aFind_none hf]

theorem gset2 (G : Gh) (k : Nat) (x y : Option AObj) : gset (gset G k x) k y = gset G k y := by
  funext j; unfold gset; by_cases h : j = k <;> simp [h]

/-- M's heap at a round's head: the entries of X are laid already. -/
def gx (G : Gh) (B : Nat) (esB : List MapEntry) (ckB : Nat) (X : List MapEntry) : Gh := gset G B (some (.map (esB ++ X) (ckB + X.length)))
theorem gx_sub {G : Gh} {B : Nat} {esB : List MapEntry} {ckB : Nat} {X : List MapEntry} : ∀ k o, gset G B none k = some o → gx G B esB ckB X k = some o := fun k o h => by
  unfold gset at h
  unfold gx gset
  by_cases hk : k = B
  · simp [hk] at h
  · simpa [hk] using h

/-- At a round's head, or within a round. -/
structure MB (P : Program) (g0 nt : Nat) (E0 : Env) (w0 : World) (rd : Option Nat) (wr : List Nat) (df : List ADf) (b m ck : Nat) (arr : Array MapEntry) (E : Env) (a : Act) (w : World) (T : Tr Value) (G : Gh) (seen : Array Nat) : Prop where
  tr : TR E T nt a.tmps
  hr : HR P E G w
  db : E.dom b
  dm : E.dom m
  it : w.heap[E.ρ b]? = some (.mapIter (some (E.ρ m)) ck seen ck)
  ap : ∀ i, G i ≠ none → E.ρ i ≠ E.ρ b
  hA : w.heap[E.ρ m]? = some (.map arr ck)
  stp : Stp E0 E wr w0 w
  df : DR E df a.defers
  gl : GL g0 E
  rdd : ∀ l, rd = some l → E.dom l

section
variable {E0 : Env} {w0 : World} {rd : Option Nat} {wr : List Nat} {df : List ADf} {b m ck : Nat} {arr : Array MapEntry} {E : Env} {a : Act} {w : World} {T : Tr Value} {G : Gh} {seen : Array Nat}

theorem MB.step (h : MB P g0 nt E0 w0 rd wr df b m ck arr E a w T G seen) {E1 : Env} {a1 : Act} {w1 : World} {T1 : Tr Value} (hx : Ext E E1) (hd : ∀ b, E1.dom b ↔ E.dom b) (hs : Stp E E1 [] w w1) (hT : TR E1 T1 nt a1.tmps) (hG : HR P E1 G w1) (hde : a1.defers = a.defers) :
    MB P g0 nt E0 w0 rd wr df b m ck arr E1 a1 w1 T1 G seen := by
  have blk : ∀ i, E.dom i → w1.heap[E1.ρ i]? = w.heap[E.ρ i]? := fun i hi => by rw [hx.ρ i hi]; exact hs.block _ (h.hr.lt i hi) (fun _ hh => by cases hh)
  exact ⟨hT, hG, hx.n _ h.db, hx.n _ h.dm, by rw [blk b h.db, hx.ρ m h.dm]; exact h.it, fun i hi => by rw [hx.ρ b h.db, hx.ρ i ((hd i).1 (hG.live hi))]; exact h.ap i hi, by rw [blk m h.dm]; exact h.hA, by
    have := h.stp.trans hs; simpa using this, by rw [hde]; exact h.df.ext hx, h.gl.ext hx, fun l hl => hx.n l (h.rdd l hl)⟩

theorem MB.ptr (h : MB P g0 nt E0 w0 rd wr df b m ck arr E a w T G seen) {x : Operand} (hok : okX g0 x = true) (he : aev T x = .pointer (some ⟨b, 0, none⟩)) : a.eval x = .pointer (some ⟨E.ρ b, 0, none⟩) := by
  have hv := aev_rel h.tr h.gl hok
  rw [he] at hv
  cases hv' : a.eval x <;> rw [hv'] at hv <;> cases hv
  rfl

/-- Which entries are left. -/
def LF (arr : Array MapEntry) (E : Env) (seen : Array Nat) (Y : List MapEntry) : Prop := ∃ yl, yl.Perm (leftOf arr seen).toList ∧ ML E Y yl
theorem LF.ext {E1 : Env} {Y : List MapEntry} (h : LF arr E seen Y) (hx : Ext E E1) : LF arr E1 seen Y := h.elim fun yl ⟨h1, h2⟩ => ⟨yl, h1, h2.ext hx⟩

theorem setBlock_hr {r : Nat} {o' : Obj} (h : HR P E G w) (hr : ∀ i, G i ≠ none → E.ρ i ≠ r) : HR P E G (setBlock w r o') := by
  refine ⟨fun id hd => by simpa [setBlock] using h.lt id hd, h.dom, fun id o ho => ?_, h.inj⟩
  refine (h.obj id o ho).mono (.refl E) (h.live (by rw [ho]; simp)) ?_
  have := hr id (by rw [ho]; simp)
  simp [setBlock, Array.getElem?_setIfInBounds, Ne.symm this]

theorem next_ok (h : MB P g0 nt E0 w0 rd wr df b m ck arr E a w T G seen) (hbw : b ∈ wr) (hmb : E.ρ m ≠ E.ρ b) (hlt : ∀ x ∈ arr.toList, x.born < ck) (hnd : (arr.toList.map (·.born)).Nodup) {Y : List MapEntry} (hL : LF arr E seen Y) {o : Oper} {it : Operand} {t : Tmp} (ho : isNext o = some (it, t)) (hok : okX g0 it = true) (he : aev T it = .pointer (some ⟨b, 0, none⟩)) :
    (Y = [] ∧ (execOp a.eval o).run P w = .ok (.value (.tuple #[.bool false])) w) ∨
    ∃ e Y1 Y2 e' W, Y = Y1 ++ e :: Y2 ∧ VR E e.key e'.key ∧ VR E e.val e'.val ∧ e' ∈ arr.toList ∧ (execOp a.eval o).run P w = .ok (.value (.tuple #[.bool true, e'.key, e'.val])) W ∧ MB P g0 nt E0 w0 rd wr df b m ck arr E a W T G (seen.push e'.born) ∧ LF arr E (seen.push e'.born) (Y1 ++ Y2) := by
  obtain ⟨hdst, hop, hgd⟩ := isNext_spec ho
  have hp := h.ptr hok he
  have hrun : (execOp a.eval o).run P w = ((Instr.next (.pointer (some ⟨E.ρ b, 0, none⟩)) false o.type).run P w).andThen fun v w => .ok (.value v) w := by simp [execOp, hop, hp]
  obtain ⟨yl, hp1, hml⟩ := hL
  rcases run_next_at (P := P) w o.type (E.ρ b) (E.ρ m) ck ck seen arr ck h.it h.hA hlt (Nat.le_refl _) with ⟨h0, h1⟩ | ⟨e', he', w1, hw1, h1⟩
  · refine .inl ⟨?_, by rw [hrun, h1]; rfl⟩
    have : yl = [] := by
      have hl : yl.length = (leftOf arr seen).size := by rw [hp1.length_eq]; simp
      rw [h0] at hl
      exact List.eq_nil_of_length_eq_zero hl
    subst this
    cases hml; rfl
  · right
    have hmem := hp1.mem_iff.2 he'
    obtain ⟨yA, yB, hyl⟩ := List.append_of_mem hmem
    subst hyl
    -- split Y alike
    have hsplit : ∃ Y1 e Y2, Y = Y1 ++ e :: Y2 ∧ ML E Y1 yA ∧ VR E e.key e'.key ∧ VR E e.val e'.val ∧ ML E Y2 yB := by
      clear hp1 hmem
      induction yA generalizing Y with
      | nil => cases hml with | cons e _ l _ hk hv t => exact ⟨[], e, l, rfl, .nil, hk, hv, t⟩
      | cons x yA ih =>
        cases hml with
        | cons e _ l _ hk hv t =>
          obtain ⟨Y1, e1, Y2, q1, q2, q3, q4, q5⟩ := ih t
          exact ⟨e :: Y1, e1, Y2, by rw [q1]; rfl, .cons _ _ _ _ hk hv q2, q3, q4, q5⟩
    obtain ⟨Y1, e, Y2, rfl, m1, hk, hv, m2⟩ := hsplit
    obtain ⟨C, D, hCD⟩ := List.append_of_mem he'
    have hl2 := leftOf_push hnd hCD
    have hperm : (yA ++ yB).Perm (C ++ D) := by
      rw [hCD] at hp1
      exact (List.perm_middle.symm.trans (hp1.trans List.perm_middle)).cons_inv
    have hmap : ML E (Y1 ++ Y2) (yA ++ yB) := m1.append m2
    refine ⟨e, Y1, Y2, e', _, rfl, hk, hv, (mem_left he').1, by rw [hrun, h1]; rfl, ?_, ⟨yA ++ yB, by rw [hl2]; exact hperm, hmap⟩⟩
    have hd1 : HR P E G w1 := by rcases hw1 with rfl | rfl; exact h.hr; exact h.hr.drew
    have hheap : w1.heap = w.heap := by rcases hw1 with rfl | rfl <;> rfl
    have hst1 : Stp E0 E wr w0 w1 := by rcases hw1 with rfl | rfl; exact h.stp; exact h.stp.drew _
    have hlb : E.ρ b < w.heap.size := h.hr.lt b h.db
    refine ⟨h.tr, setBlock_hr hd1 (fun i hi => h.ap i hi), h.db, h.dm, ?_, h.ap, ?_, ?_, h.df, h.gl, h.rdd⟩
    · simp [setBlock, hheap, hlb]
    · simp only [setBlock, hheap]
      rw [Array.getElem?_setIfInBounds, if_neg (Ne.symm hmb)]
      exact h.hA
    · have : Stp E E [b] w1 (setBlock w1 (E.ρ b) (.mapIter (some (E.ρ m)) ck (seen.push e'.born) ck)) := by
        refine ⟨.refl E, rfl, rfl, rfl, by simp [setBlock], fun k _ hk => ?_, fun _ h1 h2 => absurd h2 h1⟩
        have := hk b (by simp) h.db
        simp [setBlock, Array.getElem?_setIfInBounds, this]
      exact hst1.trans' this (fun y hy => by
        rcases hy with hy | hy
        · simp at hy; subst hy; exact hbw
        · exact hy)

theorem entry_ok {s : Nat} (h : MB P g0 nt E0 w0 rd wr df b m ck arr E a w T G (seen.push s)) (hnd : (arr.toList.map (·.born)).Nodup) {e' : MapEntry} (hs : s = e'.born) (hmem : e' ∈ arr.toList) {o : Oper} {it : Operand} {t : Tmp} (ho : isEntry o = some (it, t)) (hok : okX g0 it = true) (he : aev T it = .pointer (some ⟨b, 0, none⟩)) :
    (execOp a.eval o).run P w = .ok (.value (.tuple #[e'.key, e'.val])) w := by
  obtain ⟨hdst, hop, hgd⟩ := isEntry_spec ho
  have hp := h.ptr hok he
  subst hs
  have h1 := run_entry_at (P := P) w (E.ρ b) (E.ρ m) ck seen arr ck e' h.it h.hA hmem hnd
  have hrun : (execOp a.eval o).run P w = ((Instr.entry (.pointer (some ⟨E.ρ b, 0, none⟩))).run P w).andThen fun v w => .ok (.value v) w := by simp [execOp, hop, hp]
  rw [hrun, h1]; rfl
end
end
end Go.Proofs.YtgfjmkjhjfmbeaaGreat
