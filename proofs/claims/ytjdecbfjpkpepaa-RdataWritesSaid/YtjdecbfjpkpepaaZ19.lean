/- DERIVED. Texts put together: Lw2, Lw3. -/
import Derived.Test.YtjdecbfjpkpepaaZ12
import Derived.Test.YtjdecbfjpkpepaaZ13
import Derived.Test.YtjdecbfjpkpepaaZ17
import Derived.Test.YtjdecbfjpkpepaaZ18
namespace Go.Proofs.Ytjdecbfjpkpepaa
open Go Go.RowKit
noncomputable def inl_new : Ct Try.prog 0 := Ct.inl (tbOf mixed []) mixed [] 24 Try.f24 Try.func24 (bodyOf Try.f24) (by kernel_rfl)
noncomputable def inl_known : Ct Try.prog 0 := Ct.inl (tbOf mixed []) mixed [] 30 Try.f30 Try.func30 (bodyOf Try.f30) (by kernel_rfl)
noncomputable def inl_name0 : Ct Try.prog 0 := Ct.inl (tbOf mixed []) mixed [] 41 Try.f41 Try.func41 (bodyOf Try.f41) (by kernel_rfl)
noncomputable def inl_write0 : Ct Try.prog 0 := Ct.inl (tbOf mixed [inl_name0]) mixed [] 27 Try.f27 Try.func27 (bodyOf Try.f27) (by kernel_rfl)
def pnil0 : List Value → Bool
  | .pointer none :: _ => true
  | _ => false
noncomputable def ct_writeA : Ct Try.prog 0 := Ct.alt pnil0 inl_write0 ct_write rfl
noncomputable def tbLw2 : Tb Try.prog 0 := tbOf mixed [inl_new, ct_long6, ct_pick, ct_sameE, inl_known, ct_writeA, ct_rwrite, ct_overB, Ct.yes 9 awake_calls]
theorem wrD_len {en : Nat} {T : List (Bl × Nat)} {a t : Int} {l : Bs} (hl : l.length ≤ 3000) : (wrD en T a t l).2.2.1.length ≤ 1000 ∧ (wrD en T a t l).2.1.length ≤ 10000 := by
  unfold wrD
  split
  · exact ⟨Nat.zero_le _, Nat.zero_le _⟩
  · rename_i h
    obtain ⟨k1, k2, k3, k4⟩ := pcsD_ok (Decidable.not_not.1 h)
    obtain ⟨q1, q2, q3⟩ := wrN_len a (T := T) (pcsD t l) [] [] en (fun s hs => (k1 s hs).2)
    simp only [List.length_nil] at q1 q2
    omega
theorem encT_len (T : List (Bl × Nat)) : (encT T).length = T.length := by simp [encT]
theorem map_ro0 {σ : Nat → Nat → Prop} (T : List (Bl × Nat)) (ck : Nat) : RO Try.prog σ (.map (encT (T ++ [])) (ck + ([] : List (Bl × Nat)).length)) (.map (encT T) ck) := by
  rw [List.append_nil]; exact RO.map _ _ _ (plain_rm _)
theorem map_ro1 {σ : Nat → Nat → Prop} (T : List (Bl × Nat)) (ck : Nat) : RO Try.prog σ (.map (encT T) ck) (.map (encT T) ck) := RO.map _ _ _ (plain_rm _)
def lw6E (l : List A6) (c : Nat) (i : Nat) (T : List (Bl × Nat)) (en ck : Nat) (f : Nat → Option Value) : Fs := match T with
  | [] => ⟨slots 7 [(0, .slice (some ⟨0, 0, none⟩) l.length c), (3, .pointer (some ⟨2, 0, none⟩)), (4, .pointer (some ⟨3, 0, none⟩)), (5, .int .i64 (i : Int))] f, heap 3 [(0, .win (l.flatMap layA6.g) layA6.k), (1, .map (encT []) ck), (2, .cells [.map (some 1), .int .i64 (en : Int)] 81), (3, .cells [.slice none 0 0, .int .i64 (en : Int)] 54)], 4, [], []⟩
  | q :: T => ⟨slots 7 [(0, .slice (some ⟨0, 0, none⟩) l.length c), (3, .pointer (some ⟨2, 0, none⟩)), (4, .pointer (some ⟨3, 0, none⟩)), (5, .int .i64 (i : Int))] f, heap 3 [(0, .win (l.flatMap layA6.g) layA6.k), (1, .map (encT (q :: T)) ck), (2, .cells [.map (some 1), .int .i64 (en : Int)] 81), (3, .cells [.slice (some ⟨4, 0, none⟩) (q :: T).length U, .int .i64 (en : Int)] 54), (4, .cells ((q :: T).flatMap layT.g) 97)], 5, [], []⟩
def lw6S (l : List A6) (c : Nat) (x : Nat × List (Bl × Nat) × Nat × Nat) (f : Nat → Option Value) : Fs := lw6E l c x.1 x.2.1 x.2.2.1 x.2.2.2 f
set_option maxRecDepth 1000000 in
theorem fact6 {l : List A6} (hd : ∀ x ∈ l, x.d.data.size ≤ 3000) (i : Nat) (h : i < l.length) {x : A6} (hx : l[i] = x) : inI (i : Int) l.length = true ∧ (∀ j (hj : j < 4), (l.flatMap layA6.g)[0 + ((i : Int)).toNat * (Try.prog.types[46]).size + j]? = x.g[j]?) ∧ shortB x.d = true ∧ (bs x.d).length ≤ 3000 := by
  have hsz : (Try.prog.types[46]).size = 4 := by kernel_rfl
  subst hx
  refine ⟨by simp [inI]; omega, fun j hj => ?_, ?_, ?_⟩
  · have := RdL.cell layA6 [] [] l i j h hj
    rw [List.nil_append, List.append_nil, List.length_nil] at this
    rw [hsz, Int.toNat_natCast]; exact this
  · have := hd _ (List.getElem_mem h)
    have e : l[i].d.data.size = l[i].d.size := rfl
    unfold shortB; exact Nat.ble_eq_true_of_le (by omega)
  · have := hd _ (List.getElem_mem h)
    rw [← bs_size] ; omega
def lw6A (l : List A6) (c i : Nat) (T : List (Bl × Nat)) (en ck : Nat) (a : Int) (f : Nat → Option Value) : Fs := match T with
  | [] => ⟨slots 7 [(0, .slice (some ⟨0, 0, none⟩) l.length c), (3, .pointer (some ⟨2, 0, none⟩)), (4, .pointer (some ⟨3, 0, none⟩)), (5, .int .i64 (i : Int)), (6, .int .i64 a)] f, heap 3 [(0, .win (l.flatMap layA6.g) layA6.k), (1, .map (encT []) ck), (2, .cells [.map (some 1), .int .i64 (en : Int)] 81), (3, .cells [.slice none 0 0, .int .i64 (en : Int)] 54)], 4, [], []⟩
  | q :: T => ⟨slots 7 [(0, .slice (some ⟨0, 0, none⟩) l.length c), (3, .pointer (some ⟨2, 0, none⟩)), (4, .pointer (some ⟨3, 0, none⟩)), (5, .int .i64 (i : Int)), (6, .int .i64 a)] f, heap 3 [(0, .win (l.flatMap layA6.g) layA6.k), (1, .map (encT (q :: T)) ck), (2, .cells [.map (some 1), .int .i64 (en : Int)] 81), (3, .cells [.slice (some ⟨4, 0, none⟩) (q :: T).length U, .int .i64 (en : Int)] 54), (4, .cells ((q :: T).flatMap layT.g) 97)], 5, [], []⟩
def lw6B (l : List A6) (c i : Nat) (T G : List (Bl × Nat)) (en en' ck : Nat) (a e : Int) (o : Bl) (f : Nat → Option Value) : Fs := match T, o with
  | [], [] => ⟨slots 7 [(0, .slice (some ⟨0, 0, none⟩) l.length c), (3, .pointer (some ⟨2, 0, none⟩)), (4, .pointer (some ⟨3, 0, none⟩)), (5, .int .i64 (i : Int)), (6, .int .i64 a), (7, .slice none 0 0), (8, .int .i64 e)] f, heap 3 [(0, .win (l.flatMap layA6.g) layA6.k), (1, .map (encT G) ck), (2, .cells [.map (some 1), .int .i64 (en' : Int)] 81), (3, .cells [.slice none 0 0, .int .i64 (en : Int)] 54)], 4, [], []⟩
  | [], u :: us => ⟨slots 7 [(0, .slice (some ⟨0, 0, none⟩) l.length c), (3, .pointer (some ⟨2, 0, none⟩)), (4, .pointer (some ⟨3, 0, none⟩)), (5, .int .i64 (i : Int)), (6, .int .i64 a), (7, .slice (some ⟨4, 0, none⟩) (us.length + 1) U), (8, .int .i64 e)] f, heap 3 [(0, .win (l.flatMap layA6.g) layA6.k), (1, .map (encT G) ck), (2, .cells [.map (some 1), .int .i64 (en' : Int)] 81), (3, .cells [.slice none 0 0, .int .i64 (en : Int)] 54), (4, .cells ((u :: us).map byV) 5)], 5, [], []⟩
  | q :: T, [] => ⟨slots 7 [(0, .slice (some ⟨0, 0, none⟩) l.length c), (3, .pointer (some ⟨2, 0, none⟩)), (4, .pointer (some ⟨3, 0, none⟩)), (5, .int .i64 (i : Int)), (6, .int .i64 a), (7, .slice none 0 0), (8, .int .i64 e)] f, heap 3 [(0, .win (l.flatMap layA6.g) layA6.k), (1, .map (encT G) ck), (2, .cells [.map (some 1), .int .i64 (en' : Int)] 81), (3, .cells [.slice (some ⟨4, 0, none⟩) (q :: T).length U, .int .i64 (en : Int)] 54), (4, .cells ((q :: T).flatMap layT.g) 97)], 5, [], []⟩
  | q :: T, u :: us => ⟨slots 7 [(0, .slice (some ⟨0, 0, none⟩) l.length c), (3, .pointer (some ⟨2, 0, none⟩)), (4, .pointer (some ⟨3, 0, none⟩)), (5, .int .i64 (i : Int)), (6, .int .i64 a), (7, .slice (some ⟨5, 0, none⟩) (us.length + 1) U), (8, .int .i64 e)] f, heap 3 [(0, .win (l.flatMap layA6.g) layA6.k), (1, .map (encT G) ck), (2, .cells [.map (some 1), .int .i64 (en' : Int)] 81), (3, .cells [.slice (some ⟨4, 0, none⟩) (q :: T).length U, .int .i64 (en : Int)] 54), (4, .cells ((q :: T).flatMap layT.g) 97), (5, .cells ((u :: us).map byV) 5)], 6, [], []⟩
def lw6C (l : List A6) (c i : Nat) (T : List (Bl × Nat)) (en ck : Nat) (e : Int) (o : Bl) (f : Nat → Option Value) : Fs := match T, o with
  | [], [] => ⟨slots 7 [(0, .slice (some ⟨0, 0, none⟩) l.length c), (3, .pointer (some ⟨2, 0, none⟩)), (4, .pointer (some ⟨3, 0, none⟩)), (5, .int .i64 (i : Int)), (7, .slice none 0 0), (8, .int .i64 e), (9, .slice none 0 0), (10, .int .i64 e)] f, heap 3 [(0, .win (l.flatMap layA6.g) layA6.k), (1, .map (encT []) ck), (2, .cells [.map (some 1), .int .i64 (en : Int)] 81), (3, .cells [.slice none 0 0, .int .i64 (en : Int)] 54)], 4, [], []⟩
  | [], u :: us => ⟨slots 7 [(0, .slice (some ⟨0, 0, none⟩) l.length c), (3, .pointer (some ⟨2, 0, none⟩)), (4, .pointer (some ⟨3, 0, none⟩)), (5, .int .i64 (i : Int)), (7, .slice (some ⟨4, 0, none⟩) (us.length + 1) U), (8, .int .i64 e), (9, .slice (some ⟨5, 0, none⟩) (us.length + 1) U), (10, .int .i64 e)] f, heap 3 [(0, .win (l.flatMap layA6.g) layA6.k), (1, .map (encT []) ck), (2, .cells [.map (some 1), .int .i64 (en : Int)] 81), (3, .cells [.slice none 0 0, .int .i64 (en : Int)] 54), (4, .cells ((u :: us).map byV) 5), (5, .cells ((u :: us).map byV) 5)], 6, [], []⟩
  | q :: T, [] => ⟨slots 7 [(0, .slice (some ⟨0, 0, none⟩) l.length c), (3, .pointer (some ⟨2, 0, none⟩)), (4, .pointer (some ⟨3, 0, none⟩)), (5, .int .i64 (i : Int)), (7, .slice none 0 0), (8, .int .i64 e), (9, .slice none 0 0), (10, .int .i64 e)] f, heap 3 [(0, .win (l.flatMap layA6.g) layA6.k), (1, .map (encT (q :: T)) ck), (2, .cells [.map (some 1), .int .i64 (en : Int)] 81), (3, .cells [.slice (some ⟨4, 0, none⟩) (q :: T).length U, .int .i64 (en : Int)] 54), (4, .cells ((q :: T).flatMap layT.g) 97)], 5, [], []⟩
  | q :: T, u :: us => ⟨slots 7 [(0, .slice (some ⟨0, 0, none⟩) l.length c), (3, .pointer (some ⟨2, 0, none⟩)), (4, .pointer (some ⟨3, 0, none⟩)), (5, .int .i64 (i : Int)), (7, .slice (some ⟨5, 0, none⟩) (us.length + 1) U), (8, .int .i64 e), (9, .slice (some ⟨6, 0, none⟩) (us.length + 1) U), (10, .int .i64 e)] f, heap 3 [(0, .win (l.flatMap layA6.g) layA6.k), (1, .map (encT (q :: T)) ck), (2, .cells [.map (some 1), .int .i64 (en : Int)] 81), (3, .cells [.slice (some ⟨4, 0, none⟩) (q :: T).length U, .int .i64 (en : Int)] 54), (4, .cells ((q :: T).flatMap layT.g) 97), (5, .cells ((u :: us).map byV) 5), (6, .cells ((u :: us).map byV) 5)], 7, [], []⟩
set_option maxRecDepth 1000000 in
set_option maxHeartbeats 32000000 in
theorem lw6x_0 (l : List A6) (c i en ck : Nat) (f : Nat → Option Value) (hd : ∀ x ∈ l, x.d.data.size ≤ 3000) (hl40 : l.length ≤ 40) (h1 : i < l.length) : CW Try.prog 0 1 (1 + (Try.f8.ntmps - 1)) none (codeAt (loopAt Try.f8 0) [0]) (lw6E l c i [] en ck f) (stepK Try.prog 0 1 (1 + (Try.f8.ntmps - 1)) none (lw6E l c i [] en ck)) := by
  have hpl : plainL (l.flatMap layA6.g) = true := flat_plain layA6.g layA6.plain _
  refine sx_ok tbLw2 [0] 1 _ none mixed _ _ _ ?_
  refine ifK (fun _ => ?_) (fun g => absurd (show ((i : Nat) : Int) < (l.length : Int) by omega) (of_decide_eq_false g))
  exact rc_slots [1, 2, 3] rfl rfl rfl (fun l e => by cases e) (by decide) (by decide) rfl rfl (wr_of rfl) ⟨⟨_, rfl, .sl _ _ _ _ _ rfl⟩, ⟨_, rfl, .ptr _ _ _ rfl⟩, ⟨_, rfl, .ptr _ _ _ rfl⟩, ⟨_, rfl, .int _ _⟩, trivial⟩ ⟨⟨by decide, _, rfl, .sameW (hpl)⟩, ⟨by decide, _, rfl, map_ro1 _ _⟩, ⟨by decide, _, rfl, pbox_ro 1 1 (by exact rfl) _⟩, ⟨by decide, _, rfl, .same rfl⟩, trivial⟩ .nil
set_option maxRecDepth 1000000 in
set_option maxHeartbeats 32000000 in
theorem lw6y_0 (l : List A6) (c i en ck : Nat) (f : Nat → Option Value) (hd : ∀ x ∈ l, x.d.data.size ≤ 3000) (hl40 : l.length ≤ 40) (h1 : i < l.length) (t a0 : Int) (raw : Bool) (d : ByteArray) (hx : l[i] = ⟨t, a0, raw, d⟩) : CW Try.prog 0 1 (1 + (Try.f8.ntmps - 1)) none (codeAt (loopAt Try.f8 0) [1, 0, 0]) (lw6E l c i [] en ck f) (stepK Try.prog 0 1 (1 + (Try.f8.ntmps - 1)) none (lw6A l c i [] en ck a0)) := by
  obtain ⟨dom, cell, hsh, hdl⟩ := fact6 hd i h1 hx
  have hdl : (bs d).length ≤ 3000 := hdl
  have hpl : plainL (l.flatMap layA6.g) = true := flat_plain layA6.g layA6.plain _
  refine sx_ok tbLw2 [0] 1 _ none mixed _ _ _ ?_
  refine ifK (fun _ => ?_) (fun h2 => absurd (dom.symm.trans h2) (by decide))
  refine Exists.intro a0 (And.intro (cell 1 (by decide)) ?_)
  exact rc_slots [1, 2, 3] rfl rfl rfl (fun l e => by cases e) (by decide) (by decide) rfl rfl (wr_of rfl) ⟨⟨_, rfl, .sl _ _ _ _ _ rfl⟩, ⟨_, rfl, .ptr _ _ _ rfl⟩, ⟨_, rfl, .ptr _ _ _ rfl⟩, ⟨_, rfl, .int _ _⟩, ⟨_, rfl, .int _ _⟩, trivial⟩ ⟨⟨by decide, _, rfl, .sameW (hpl)⟩, ⟨by decide, _, rfl, map_ro1 _ _⟩, ⟨by decide, _, rfl, pbox_ro 1 1 (by exact rfl) _⟩, ⟨by decide, _, rfl, .same rfl⟩, trivial⟩ .nil
set_option maxRecDepth 1000000 in
set_option maxHeartbeats 32000000 in
theorem lw6z_00 (l : List A6) (c i en ck : Nat) (f : Nat → Option Value) (hd : ∀ x ∈ l, x.d.data.size ≤ 3000) (hl40 : l.length ≤ 40) (h1 : i < l.length) (t a0 : Int) (d : ByteArray) (hx : l[i] = ⟨t, a0, false, d⟩) : CW Try.prog 0 1 (1 + (Try.f8.ntmps - 1)) none (codeAt (loopAt Try.f8 0) [1, 0, 1, 0]) (lw6A l c i [] en ck a0 f) (stepK Try.prog 0 1 (1 + (Try.f8.ntmps - 1)) none (lw6A l c i [] en ck (IntKind.i64.wrap ((en : Int) + pickI a0 20000)))) := by
  obtain ⟨dom, cell, hsh, hdl⟩ := fact6 hd i h1 hx
  have hdl : (bs d).length ≤ 3000 := hdl
  have hpl : plainL (l.flatMap layA6.g) = true := flat_plain layA6.g layA6.plain _
  refine sx_ok tbLw2 [0] 1 _ none mixed _ _ _ ?_
  refine ifK (fun _ => ?_) (fun h2 => absurd (dom.symm.trans h2) (by decide))
  refine Exists.intro false (And.intro (cell 2 (by decide)) ?_)
  refine And.intro (by kernel_rfl) ?_
  exact rc_slots [1, 2, 3] rfl rfl rfl (fun l e => by cases e) (by decide) (by decide) rfl rfl (wr_of rfl) ⟨⟨_, rfl, .sl _ _ _ _ _ rfl⟩, ⟨_, rfl, .ptr _ _ _ rfl⟩, ⟨_, rfl, .ptr _ _ _ rfl⟩, ⟨_, rfl, .int _ _⟩, ⟨_, rfl, .int _ _⟩, trivial⟩ ⟨⟨by decide, _, rfl, .sameW (hpl)⟩, ⟨by decide, _, rfl, map_ro1 _ _⟩, ⟨by decide, _, rfl, pbox_ro 1 1 (by exact rfl) _⟩, ⟨by decide, _, rfl, .same rfl⟩, trivial⟩ .nil
set_option maxRecDepth 1000000 in
set_option maxHeartbeats 32000000 in
theorem lw6z_01 (l : List A6) (c i en ck : Nat) (f : Nat → Option Value) (hd : ∀ x ∈ l, x.d.data.size ≤ 3000) (hl40 : l.length ≤ 40) (h1 : i < l.length) (t a0 : Int) (d : ByteArray) (hx : l[i] = ⟨t, a0, true, d⟩) : CW Try.prog 0 1 (1 + (Try.f8.ntmps - 1)) none (codeAt (loopAt Try.f8 0) [1, 0, 1, 0]) (lw6A l c i [] en ck a0 f) (stepK Try.prog 0 1 (1 + (Try.f8.ntmps - 1)) none (lw6A l c i [] en ck a0)) := by
  obtain ⟨dom, cell, hsh, hdl⟩ := fact6 hd i h1 hx
  have hdl : (bs d).length ≤ 3000 := hdl
  have hpl : plainL (l.flatMap layA6.g) = true := flat_plain layA6.g layA6.plain _
  refine sx_ok tbLw2 [0] 1 _ none mixed _ _ _ ?_
  refine ifK (fun _ => ?_) (fun h2 => absurd (dom.symm.trans h2) (by decide))
  refine Exists.intro true (And.intro (cell 2 (by decide)) ?_)
  exact rc_slots [1, 2, 3] rfl rfl rfl (fun l e => by cases e) (by decide) (by decide) rfl rfl (wr_of rfl) ⟨⟨_, rfl, .sl _ _ _ _ _ rfl⟩, ⟨_, rfl, .ptr _ _ _ rfl⟩, ⟨_, rfl, .ptr _ _ _ rfl⟩, ⟨_, rfl, .int _ _⟩, ⟨_, rfl, .int _ _⟩, trivial⟩ ⟨⟨by decide, _, rfl, .sameW (hpl)⟩, ⟨by decide, _, rfl, map_ro1 _ _⟩, ⟨by decide, _, rfl, pbox_ro 1 1 (by exact rfl) _⟩, ⟨by decide, _, rfl, .same rfl⟩, trivial⟩ .nil
set_option maxRecDepth 1000000 in
set_option maxHeartbeats 32000000 in
theorem lw6w_00 (l : List A6) (c i en ck : Nat) (f : Nat → Option Value) (hd : ∀ x ∈ l, x.d.data.size ≤ 3000) (hl40 : l.length ≤ 40) (h1 : i < l.length) (t a0 : Int) (raw : Bool) (d : ByteArray) (hx : l[i] = ⟨t, a0, raw, d⟩) (a e : Int) (F : List (Bl × Nat)) (en' : Nat) (hg : goodT []) (hD : wrD en [] a t (bs d) = (e, [], F, en')) : CW Try.prog 0 1 (1 + (Try.f8.ntmps - 1)) none (codeAt (loopAt Try.f8 0) [1, 0, 1, 1, 0]) (lw6A l c i [] en ck a f) (stepK Try.prog 0 1 (1 + (Try.f8.ntmps - 1)) none (lw6B l c i [] ([] ++ F) en en' (ck + F.length) a e [])) := by
  obtain ⟨dom, cell, hsh, hdl⟩ := fact6 hd i h1 hx
  have hdl : (bs d).length ≤ 3000 := hdl
  have hpl : plainL (l.flatMap layA6.g) = true := flat_plain layA6.g layA6.plain _
  refine sx_ok tbLw2 [0] 1 _ none mixed _ _ _ ?_
  refine And.intro (by kernel_rfl) ?_
  refine ifK (fun _ => ?_) (fun h2 => absurd (dom.symm.trans h2) (by decide))
  refine Exists.intro t (And.intro (cell 0 (by decide)) ?_)
  refine ifK (fun _ => ?_) (fun h2 => absurd (dom.symm.trans h2) (by decide))
  refine Exists.intro d (And.intro (cell 3 (by decide)) ?_)
  refine Exists.intro (⟨2, 1, en, [], ck, a, t, d, e, [], F, en'⟩ : WrX) (And.intro ⟨rfl, (show Tr.get _ 2 = some (AObj.cells [.map (some 1), .int .i64 (en : Int)] _) from rfl), (show Tr.get _ 1 = some (AObj.map (encT []) ck) from rfl), hg, hsh, hD⟩ ?_)
  exact rc_slots [1, 2, 3] rfl rfl rfl (fun l e => by cases e) (by decide) (by decide) rfl rfl (wr_of rfl) ⟨⟨_, rfl, .sl _ _ _ _ _ rfl⟩, ⟨_, rfl, .ptr _ _ _ rfl⟩, ⟨_, rfl, .ptr _ _ _ rfl⟩, ⟨_, rfl, .int _ _⟩, ⟨_, rfl, .int _ _⟩, ⟨_, rfl, plain_rv 8 rfl⟩, ⟨_, rfl, .int _ _⟩, trivial⟩ ⟨⟨by decide, _, rfl, .sameW (hpl)⟩, ⟨by decide, _, rfl, map_ro1 _ _⟩, ⟨by decide, _, rfl, pbox_ro 1 1 (by exact rfl) _⟩, ⟨by decide, _, rfl, .same rfl⟩, trivial⟩ .nil
set_option maxRecDepth 1000000 in
set_option maxHeartbeats 32000000 in
theorem lw6v_000 (l : List A6) (c i en ck : Nat) (f : Nat → Option Value) (hd : ∀ x ∈ l, x.d.data.size ≤ 3000) (hl40 : l.length ≤ 40) (h1 : i < l.length) (t a0 : Int) (raw : Bool) (d : ByteArray) (hx : l[i] = ⟨t, a0, raw, d⟩) (a e : Int) (en' : Nat) (hg : goodT []) (hT9 : ([] : List (Bl × Nat)).length ≤ 900000000) (hD : wrD en [] a t (bs d) = (e, [], [], en')) : CW Try.prog 0 1 (1 + (Try.f8.ntmps - 1)) none (codeAt (loopAt Try.f8 0) [1, 0, 1, 1, 1, 0]) (lw6B l c i [] (([] : List (Bl × Nat)) ++ ([] : List (Bl × Nat))) en en' (ck + List.length ([] : List (Bl × Nat))) a e [] f) (stepK Try.prog 0 1 (1 + (Try.f8.ntmps - 1)) none (lw6C l c i [] en' ck e [])) := by
  obtain ⟨dom, cell, hsh, hdl⟩ := fact6 hd i h1 hx
  have hdl : (bs d).length ≤ 3000 := hdl
  have hpl : plainL (l.flatMap layA6.g) = true := flat_plain layA6.g layA6.plain _
  refine sx_ok tbLw2 [0] 1 _ none mixed _ _ _ ?_
  refine And.intro (by kernel_rfl) ?_
  refine ifK (fun _ => ?_) (fun h2 => absurd (dom.symm.trans h2) (by decide))
  refine Exists.intro t (And.intro (cell 0 (by decide)) ?_)
  refine ifK (fun _ => ?_) (fun h2 => absurd (dom.symm.trans h2) (by decide))
  refine Exists.intro d (And.intro (cell 3 (by decide)) ?_)
  refine Exists.intro (⟨3, none, en, [], a, t, d, e, [], [], en'⟩ : RwX) (And.intro ⟨rfl, (show Tr.get _ 3 = some (AObj.cells [.slice none 0 0, .int .i64 (en : Int)] _) from rfl), rfl, hg, hT9, (show (bs d).length ≤ 100000000 by omega), hD⟩ ?_)
  exact rc_slots [1, 2, 3] rfl rfl rfl (fun l e => by cases e) (by decide) (by decide) rfl rfl (wr_of rfl) ⟨⟨_, rfl, .sl _ _ _ _ _ rfl⟩, ⟨_, rfl, .ptr _ _ _ rfl⟩, ⟨_, rfl, .ptr _ _ _ rfl⟩, ⟨_, rfl, .int _ _⟩, ⟨_, rfl, plain_rv 8 rfl⟩, ⟨_, rfl, .int _ _⟩, ⟨_, rfl, plain_rv 8 rfl⟩, ⟨_, rfl, .int _ _⟩, trivial⟩ ⟨⟨by decide, _, rfl, .sameW (hpl)⟩, ⟨by decide, _, rfl, map_ro0 [] ck⟩, ⟨by decide, _, rfl, pbox_ro 1 1 (by exact rfl) _⟩, ⟨by decide, _, rfl, .same rfl⟩, trivial⟩ .nil
set_option maxRecDepth 1000000 in
set_option maxHeartbeats 32000000 in
theorem lw6v_001 (l : List A6) (c i en ck : Nat) (f : Nat → Option Value) (hd : ∀ x ∈ l, x.d.data.size ≤ 3000) (hl40 : l.length ≤ 40) (h1 : i < l.length) (t a0 : Int) (raw : Bool) (d : ByteArray) (hx : l[i] = ⟨t, a0, raw, d⟩) (p : Bl × Nat) (F : List (Bl × Nat)) (a e : Int) (en' : Nat) (hg : goodT []) (hT9 : ([] : List (Bl × Nat)).length ≤ 900000000) (hD : wrD en [] a t (bs d) = (e, [], (p :: F), en')) : CW Try.prog 0 1 (1 + (Try.f8.ntmps - 1)) none (codeAt (loopAt Try.f8 0) [1, 0, 1, 1, 1, 0]) (lw6B l c i [] (([] : List (Bl × Nat)) ++ ((p :: F) : List (Bl × Nat))) en en' (ck + List.length ((p :: F) : List (Bl × Nat))) a e [] f) (stepK Try.prog 0 1 (1 + (Try.f8.ntmps - 1)) none (lw6C l c i (p :: F) en' (ck + (F.length + 1)) e [])) := by
  obtain ⟨dom, cell, hsh, hdl⟩ := fact6 hd i h1 hx
  have hdl : (bs d).length ≤ 3000 := hdl
  have hpl : plainL (l.flatMap layA6.g) = true := flat_plain layA6.g layA6.plain _
  refine sx_ok tbLw2 [0] 1 _ none mixed _ _ _ ?_
  refine And.intro (by kernel_rfl) ?_
  refine ifK (fun _ => ?_) (fun h2 => absurd (dom.symm.trans h2) (by decide))
  refine Exists.intro t (And.intro (cell 0 (by decide)) ?_)
  refine ifK (fun _ => ?_) (fun h2 => absurd (dom.symm.trans h2) (by decide))
  refine Exists.intro d (And.intro (cell 3 (by decide)) ?_)
  refine Exists.intro (⟨3, none, en, [], a, t, d, e, [], (p :: F), en'⟩ : RwX) (And.intro ⟨rfl, (show Tr.get _ 3 = some (AObj.cells [.slice none 0 0, .int .i64 (en : Int)] _) from rfl), rfl, hg, hT9, (show (bs d).length ≤ 100000000 by omega), hD⟩ ?_)
  exact rc_slots [1, 2, 3, 4] rfl rfl rfl (fun l e => by cases e) (by decide) (by decide) rfl rfl (wr_of rfl) ⟨⟨_, rfl, .sl _ _ _ _ _ rfl⟩, ⟨_, rfl, .ptr _ _ _ rfl⟩, ⟨_, rfl, .ptr _ _ _ rfl⟩, ⟨_, rfl, .int _ _⟩, ⟨_, rfl, plain_rv 8 rfl⟩, ⟨_, rfl, .int _ _⟩, ⟨_, rfl, plain_rv 8 rfl⟩, ⟨_, rfl, .int _ _⟩, trivial⟩ ⟨⟨by decide, _, rfl, .sameW (hpl)⟩, ⟨by decide, _, rfl, map_ro1 ((p :: F)) _⟩, ⟨by decide, _, rfl, pbox_ro 1 1 (by exact rfl) _⟩, ⟨by decide, _, rfl, rbox_ro 4 4 (by rfl) rfl _⟩, ⟨by decide, _, rfl, ro_eq rfl (pT_all _)⟩, trivial⟩ .nil
set_option maxRecDepth 1000000 in
set_option maxHeartbeats 32000000 in
theorem lw6u_00 (l : List A6) (c i en ck : Nat) (f : Nat → Option Value) (hd : ∀ x ∈ l, x.d.data.size ≤ 3000) (hl40 : l.length ≤ 40) (h1 : i < l.length) (e : Int) : CW Try.prog 0 1 (1 + (Try.f8.ntmps - 1)) none (codeAt (loopAt Try.f8 0) [1, 0, 1, 1, 1, 1]) (lw6C l c i [] en ck e [] f) (stepK Try.prog 0 1 (1 + (Try.f8.ntmps - 1)) none (lw6E l c i [] en ck)) := by
  have hpl : plainL (l.flatMap layA6.g) = true := flat_plain layA6.g layA6.plain _
  have h1s : (Try.prog.types[5]).size = 1 := by kernel_rfl
  refine sx_ok tbLw2 [0] 1 _ none mixed _ _ _ ?_
  refine And.intro (by kernel_rfl) ?_
  refine ifK (fun g => by simp at g) (fun _ => ?_)
  exact rc_slots [1, 2, 3] rfl rfl rfl (fun l e => by cases e) (by decide) (by decide) rfl rfl (wr_of rfl) ⟨⟨_, rfl, .sl _ _ _ _ _ rfl⟩, ⟨_, rfl, .ptr _ _ _ rfl⟩, ⟨_, rfl, .ptr _ _ _ rfl⟩, ⟨_, rfl, .int _ _⟩, trivial⟩ ⟨⟨by decide, _, rfl, .sameW (hpl)⟩, ⟨by decide, _, rfl, map_ro1 _ _⟩, ⟨by decide, _, rfl, pbox_ro 1 1 (by exact rfl) _⟩, ⟨by decide, _, rfl, .same rfl⟩, trivial⟩ .nil
set_option maxRecDepth 1000000 in
set_option maxHeartbeats 32000000 in
theorem lw6w_01 (l : List A6) (c i en ck : Nat) (f : Nat → Option Value) (hd : ∀ x ∈ l, x.d.data.size ≤ 3000) (hl40 : l.length ≤ 40) (h1 : i < l.length) (t a0 : Int) (raw : Bool) (d : ByteArray) (hx : l[i] = ⟨t, a0, raw, d⟩) (u : UInt8) (us : Bl) (a e : Int) (F : List (Bl × Nat)) (en' : Nat) (hg : goodT []) (hD : wrD en [] a t (bs d) = (e, (u :: us), F, en')) : CW Try.prog 0 1 (1 + (Try.f8.ntmps - 1)) none (codeAt (loopAt Try.f8 0) [1, 0, 1, 1, 0]) (lw6A l c i [] en ck a f) (stepK Try.prog 0 1 (1 + (Try.f8.ntmps - 1)) none (lw6B l c i [] ([] ++ F) en en' (ck + F.length) a e (u :: us))) := by
  obtain ⟨dom, cell, hsh, hdl⟩ := fact6 hd i h1 hx
  have hdl : (bs d).length ≤ 3000 := hdl
  have hpl : plainL (l.flatMap layA6.g) = true := flat_plain layA6.g layA6.plain _
  refine sx_ok tbLw2 [0] 1 _ none mixed _ _ _ ?_
  refine And.intro (by kernel_rfl) ?_
  refine ifK (fun _ => ?_) (fun h2 => absurd (dom.symm.trans h2) (by decide))
  refine Exists.intro t (And.intro (cell 0 (by decide)) ?_)
  refine ifK (fun _ => ?_) (fun h2 => absurd (dom.symm.trans h2) (by decide))
  refine Exists.intro d (And.intro (cell 3 (by decide)) ?_)
  refine Exists.intro (⟨2, 1, en, [], ck, a, t, d, e, (u :: us), F, en'⟩ : WrX) (And.intro ⟨rfl, (show Tr.get _ 2 = some (AObj.cells [.map (some 1), .int .i64 (en : Int)] _) from rfl), (show Tr.get _ 1 = some (AObj.map (encT []) ck) from rfl), hg, hsh, hD⟩ ?_)
  exact rc_slots [1, 2, 3, 4] rfl rfl rfl (fun l e => by cases e) (by decide) (by decide) rfl rfl (wr_of rfl) ⟨⟨_, rfl, .sl _ _ _ _ _ rfl⟩, ⟨_, rfl, .ptr _ _ _ rfl⟩, ⟨_, rfl, .ptr _ _ _ rfl⟩, ⟨_, rfl, .int _ _⟩, ⟨_, rfl, .int _ _⟩, ⟨_, rfl, .sl _ _ _ _ _ rfl⟩, ⟨_, rfl, .int _ _⟩, trivial⟩ ⟨⟨by decide, _, rfl, .sameW (hpl)⟩, ⟨by decide, _, rfl, map_ro1 _ _⟩, ⟨by decide, _, rfl, pbox_ro 1 1 (by exact rfl) _⟩, ⟨by decide, _, rfl, .same rfl⟩, ⟨by decide, _, rfl, (by first | exact .same (byV_plain (u :: us)) | exact .sameW (byV_plain (u :: us)))⟩, trivial⟩ .nil
set_option maxRecDepth 1000000 in
set_option maxHeartbeats 32000000 in
theorem lw6v_010 (l : List A6) (c i en ck : Nat) (f : Nat → Option Value) (hd : ∀ x ∈ l, x.d.data.size ≤ 3000) (hl40 : l.length ≤ 40) (h1 : i < l.length) (t a0 : Int) (raw : Bool) (d : ByteArray) (hx : l[i] = ⟨t, a0, raw, d⟩) (u : UInt8) (us : Bl) (a e : Int) (en' : Nat) (hg : goodT []) (hT9 : ([] : List (Bl × Nat)).length ≤ 900000000) (hD : wrD en [] a t (bs d) = (e, (u :: us), [], en')) : CW Try.prog 0 1 (1 + (Try.f8.ntmps - 1)) none (codeAt (loopAt Try.f8 0) [1, 0, 1, 1, 1, 0]) (lw6B l c i [] (([] : List (Bl × Nat)) ++ ([] : List (Bl × Nat))) en en' (ck + List.length ([] : List (Bl × Nat))) a e (u :: us) f) (stepK Try.prog 0 1 (1 + (Try.f8.ntmps - 1)) none (lw6C l c i [] en' ck e (u :: us))) := by
  obtain ⟨dom, cell, hsh, hdl⟩ := fact6 hd i h1 hx
  have hdl : (bs d).length ≤ 3000 := hdl
  have hpl : plainL (l.flatMap layA6.g) = true := flat_plain layA6.g layA6.plain _
  refine sx_ok tbLw2 [0] 1 _ none mixed _ _ _ ?_
  refine And.intro (by kernel_rfl) ?_
  refine ifK (fun _ => ?_) (fun h2 => absurd (dom.symm.trans h2) (by decide))
  refine Exists.intro t (And.intro (cell 0 (by decide)) ?_)
  refine ifK (fun _ => ?_) (fun h2 => absurd (dom.symm.trans h2) (by decide))
  refine Exists.intro d (And.intro (cell 3 (by decide)) ?_)
  refine Exists.intro (⟨3, none, en, [], a, t, d, e, (u :: us), [], en'⟩ : RwX) (And.intro ⟨rfl, (show Tr.get _ 3 = some (AObj.cells [.slice none 0 0, .int .i64 (en : Int)] _) from rfl), rfl, hg, hT9, (show (bs d).length ≤ 100000000 by omega), hD⟩ ?_)
  exact rc_slots [1, 2, 3, 4, 5] rfl rfl rfl (fun l e => by cases e) (by decide) (by decide) rfl rfl (wr_of rfl) ⟨⟨_, rfl, .sl _ _ _ _ _ rfl⟩, ⟨_, rfl, .ptr _ _ _ rfl⟩, ⟨_, rfl, .ptr _ _ _ rfl⟩, ⟨_, rfl, .int _ _⟩, ⟨_, rfl, .sl _ _ _ _ _ rfl⟩, ⟨_, rfl, .int _ _⟩, ⟨_, rfl, .sl _ _ _ _ _ rfl⟩, ⟨_, rfl, .int _ _⟩, trivial⟩ ⟨⟨by decide, _, rfl, .sameW (hpl)⟩, ⟨by decide, _, rfl, map_ro0 [] ck⟩, ⟨by decide, _, rfl, pbox_ro 1 1 (by exact rfl) _⟩, ⟨by decide, _, rfl, .same rfl⟩, ⟨by decide, _, rfl, (by first | exact .same (byV_plain (u :: us)) | exact .sameW (byV_plain (u :: us)))⟩, ⟨by decide, _, rfl, (by first | exact .same (byV_plain (u :: us)) | exact .sameW (byV_plain (u :: us)))⟩, trivial⟩ .nil
set_option maxRecDepth 1000000 in
set_option maxHeartbeats 32000000 in
theorem lw6v_011 (l : List A6) (c i en ck : Nat) (f : Nat → Option Value) (hd : ∀ x ∈ l, x.d.data.size ≤ 3000) (hl40 : l.length ≤ 40) (h1 : i < l.length) (t a0 : Int) (raw : Bool) (d : ByteArray) (hx : l[i] = ⟨t, a0, raw, d⟩) (u : UInt8) (us : Bl) (p : Bl × Nat) (F : List (Bl × Nat)) (a e : Int) (en' : Nat) (hg : goodT []) (hT9 : ([] : List (Bl × Nat)).length ≤ 900000000) (hD : wrD en [] a t (bs d) = (e, (u :: us), (p :: F), en')) : CW Try.prog 0 1 (1 + (Try.f8.ntmps - 1)) none (codeAt (loopAt Try.f8 0) [1, 0, 1, 1, 1, 0]) (lw6B l c i [] (([] : List (Bl × Nat)) ++ ((p :: F) : List (Bl × Nat))) en en' (ck + List.length ((p :: F) : List (Bl × Nat))) a e (u :: us) f) (stepK Try.prog 0 1 (1 + (Try.f8.ntmps - 1)) none (lw6C l c i (p :: F) en' (ck + (F.length + 1)) e (u :: us))) := by
  obtain ⟨dom, cell, hsh, hdl⟩ := fact6 hd i h1 hx
  have hdl : (bs d).length ≤ 3000 := hdl
  have hpl : plainL (l.flatMap layA6.g) = true := flat_plain layA6.g layA6.plain _
  refine sx_ok tbLw2 [0] 1 _ none mixed _ _ _ ?_
  refine And.intro (by kernel_rfl) ?_
  refine ifK (fun _ => ?_) (fun h2 => absurd (dom.symm.trans h2) (by decide))
  refine Exists.intro t (And.intro (cell 0 (by decide)) ?_)
  refine ifK (fun _ => ?_) (fun h2 => absurd (dom.symm.trans h2) (by decide))
  refine Exists.intro d (And.intro (cell 3 (by decide)) ?_)
  refine Exists.intro (⟨3, none, en, [], a, t, d, e, (u :: us), (p :: F), en'⟩ : RwX) (And.intro ⟨rfl, (show Tr.get _ 3 = some (AObj.cells [.slice none 0 0, .int .i64 (en : Int)] _) from rfl), rfl, hg, hT9, (show (bs d).length ≤ 100000000 by omega), hD⟩ ?_)
  exact rc_slots [1, 2, 3, 6, 4, 5] rfl rfl rfl (fun l e => by cases e) (by decide) (by decide) rfl rfl (wr_of rfl) ⟨⟨_, rfl, .sl _ _ _ _ _ rfl⟩, ⟨_, rfl, .ptr _ _ _ rfl⟩, ⟨_, rfl, .ptr _ _ _ rfl⟩, ⟨_, rfl, .int _ _⟩, ⟨_, rfl, .sl _ _ _ _ _ rfl⟩, ⟨_, rfl, .int _ _⟩, ⟨_, rfl, .sl _ _ _ _ _ rfl⟩, ⟨_, rfl, .int _ _⟩, trivial⟩ ⟨⟨by decide, _, rfl, .sameW (hpl)⟩, ⟨by decide, _, rfl, map_ro1 ((p :: F)) _⟩, ⟨by decide, _, rfl, pbox_ro 1 1 (by exact rfl) _⟩, ⟨by decide, _, rfl, rbox_ro 6 4 (by rfl) rfl _⟩, ⟨by decide, _, rfl, ro_eq rfl (pT_all _)⟩, ⟨by decide, _, rfl, (by first | exact .same (byV_plain (u :: us)) | exact .sameW (byV_plain (u :: us)))⟩, ⟨by decide, _, rfl, (by first | exact .same (byV_plain (u :: us)) | exact .sameW (byV_plain (u :: us)))⟩, trivial⟩ .nil
set_option maxRecDepth 1000000 in
set_option maxHeartbeats 32000000 in
theorem lw6u_01 (l : List A6) (c i en ck : Nat) (f : Nat → Option Value) (hd : ∀ x ∈ l, x.d.data.size ≤ 3000) (hl40 : l.length ≤ 40) (h1 : i < l.length) (u : UInt8) (us : Bl) (e : Int) : CW Try.prog 0 1 (1 + (Try.f8.ntmps - 1)) none (codeAt (loopAt Try.f8 0) [1, 0, 1, 1, 1, 1]) (lw6C l c i [] en ck e (u :: us) f) (stepK Try.prog 0 1 (1 + (Try.f8.ntmps - 1)) none (lw6E l c i [] en ck)) := by
  have hpl : plainL (l.flatMap layA6.g) = true := flat_plain layA6.g layA6.plain _
  have h1s : (Try.prog.types[5]).size = 1 := by kernel_rfl
  refine sx_ok tbLw2 [0] 1 _ none mixed _ _ _ ?_
  refine And.intro (by kernel_rfl) ?_
  refine And.intro ⟨u :: us, 4, 5, rfl, (show Tr.get _ 4 = some (AObj.cells ((u :: us).map byV) _) from rfl), (show Tr.get _ 5 = some (AObj.cells ((u :: us).map byV) _) from rfl)⟩ ?_
  refine ifK (fun g => by simp at g) (fun _ => ?_)
  refine Exists.intro (⟨4, u :: us⟩ : OvX) (And.intro ⟨rfl, (show Tr.get _ 4 = some (AObj.cells ((u :: us).map byV) _) from rfl), List.cons_ne_nil _ _⟩ ?_)
  exact rc_slots [1, 2, 3] rfl rfl rfl (fun l e => by cases e) (by decide) (by decide) rfl rfl (wr_of rfl) ⟨⟨_, rfl, .sl _ _ _ _ _ rfl⟩, ⟨_, rfl, .ptr _ _ _ rfl⟩, ⟨_, rfl, .ptr _ _ _ rfl⟩, ⟨_, rfl, .int _ _⟩, trivial⟩ ⟨⟨by decide, _, rfl, .sameW (hpl)⟩, ⟨by decide, _, rfl, map_ro1 _ _⟩, ⟨by decide, _, rfl, pbox_ro 1 1 (by exact rfl) _⟩, ⟨by decide, _, rfl, .same rfl⟩, trivial⟩ .nil
set_option maxRecDepth 1000000 in
set_option maxHeartbeats 32000000 in
theorem lw6t_0 (l : List A6) (c i en ck : Nat) (f : Nat → Option Value) (hd : ∀ x ∈ l, x.d.data.size ≤ 3000) (hl40 : l.length ≤ 40) (h1 : i < l.length) : CW Try.prog 0 1 (1 + (Try.f8.ntmps - 1)) none (codeAt (loopAt Try.f8 0) [1, 1]) (lw6E l c i [] en ck f) (stepK Try.prog 0 1 (1 + (Try.f8.ntmps - 1)) none (lw6E l c (i + 1) [] en ck)) := by
  have hpl : plainL (l.flatMap layA6.g) = true := flat_plain layA6.g layA6.plain _
  refine sx_ok tbLw2 [0] 1 _ none mixed _ _ _ ?_
  exact rc_slots [1, 2, 3] rfl rfl rfl (fun l e => by cases e) (by decide) (by decide) rfl rfl (wr_of rfl) ⟨⟨_, rfl, .sl _ _ _ _ _ rfl⟩, ⟨_, rfl, .ptr _ _ _ rfl⟩, ⟨_, rfl, .ptr _ _ _ rfl⟩, slot_int rfl (by rw [wrapN (by omega) (by omega)]; omega), trivial⟩ ⟨⟨by decide, _, rfl, .sameW (hpl)⟩, ⟨by decide, _, rfl, map_ro1 _ _⟩, ⟨by decide, _, rfl, pbox_ro 1 1 (by exact rfl) _⟩, ⟨by decide, _, rfl, .same rfl⟩, trivial⟩ .nil
set_option maxRecDepth 1000000 in
set_option maxHeartbeats 32000000 in
theorem lw6x_1 (l : List A6) (c i en ck : Nat) (f : Nat → Option Value) (hd : ∀ x ∈ l, x.d.data.size ≤ 3000) (hl40 : l.length ≤ 40) (h1 : i < l.length) (q : Bl × Nat) (T : List (Bl × Nat)) : CW Try.prog 0 1 (1 + (Try.f8.ntmps - 1)) none (codeAt (loopAt Try.f8 0) [0]) (lw6E l c i (q :: T) en ck f) (stepK Try.prog 0 1 (1 + (Try.f8.ntmps - 1)) none (lw6E l c i (q :: T) en ck)) := by
  have hpl : plainL (l.flatMap layA6.g) = true := flat_plain layA6.g layA6.plain _
  refine sx_ok tbLw2 [0] 1 _ none mixed _ _ _ ?_
  refine ifK (fun _ => ?_) (fun g => absurd (show ((i : Nat) : Int) < (l.length : Int) by omega) (of_decide_eq_false g))
  exact rc_slots [1, 2, 3, 4] rfl rfl rfl (fun l e => by cases e) (by decide) (by decide) rfl rfl (wr_of rfl) ⟨⟨_, rfl, .sl _ _ _ _ _ rfl⟩, ⟨_, rfl, .ptr _ _ _ rfl⟩, ⟨_, rfl, .ptr _ _ _ rfl⟩, ⟨_, rfl, .int _ _⟩, trivial⟩ ⟨⟨by decide, _, rfl, .sameW (hpl)⟩, ⟨by decide, _, rfl, map_ro1 _ _⟩, ⟨by decide, _, rfl, pbox_ro 1 1 (by exact rfl) _⟩, ⟨by decide, _, rfl, rbox_ro 4 4 (by rfl) rfl _⟩, ⟨by decide, _, rfl, (by first | exact .same (pT_all (q :: T)) | exact .sameW (pT_all (q :: T)))⟩, trivial⟩ .nil
set_option maxRecDepth 1000000 in
set_option maxHeartbeats 32000000 in
theorem lw6y_1 (l : List A6) (c i en ck : Nat) (f : Nat → Option Value) (hd : ∀ x ∈ l, x.d.data.size ≤ 3000) (hl40 : l.length ≤ 40) (h1 : i < l.length) (t a0 : Int) (raw : Bool) (d : ByteArray) (hx : l[i] = ⟨t, a0, raw, d⟩) (q : Bl × Nat) (T : List (Bl × Nat)) : CW Try.prog 0 1 (1 + (Try.f8.ntmps - 1)) none (codeAt (loopAt Try.f8 0) [1, 0, 0]) (lw6E l c i (q :: T) en ck f) (stepK Try.prog 0 1 (1 + (Try.f8.ntmps - 1)) none (lw6A l c i (q :: T) en ck a0)) := by
  obtain ⟨dom, cell, hsh, hdl⟩ := fact6 hd i h1 hx
  have hdl : (bs d).length ≤ 3000 := hdl
  have hpl : plainL (l.flatMap layA6.g) = true := flat_plain layA6.g layA6.plain _
  refine sx_ok tbLw2 [0] 1 _ none mixed _ _ _ ?_
  refine ifK (fun _ => ?_) (fun h2 => absurd (dom.symm.trans h2) (by decide))
  refine Exists.intro a0 (And.intro (cell 1 (by decide)) ?_)
  exact rc_slots [1, 2, 3, 4] rfl rfl rfl (fun l e => by cases e) (by decide) (by decide) rfl rfl (wr_of rfl) ⟨⟨_, rfl, .sl _ _ _ _ _ rfl⟩, ⟨_, rfl, .ptr _ _ _ rfl⟩, ⟨_, rfl, .ptr _ _ _ rfl⟩, ⟨_, rfl, .int _ _⟩, ⟨_, rfl, .int _ _⟩, trivial⟩ ⟨⟨by decide, _, rfl, .sameW (hpl)⟩, ⟨by decide, _, rfl, map_ro1 _ _⟩, ⟨by decide, _, rfl, pbox_ro 1 1 (by exact rfl) _⟩, ⟨by decide, _, rfl, rbox_ro 4 4 (by rfl) rfl _⟩, ⟨by decide, _, rfl, (by first | exact .same (pT_all (q :: T)) | exact .sameW (pT_all (q :: T)))⟩, trivial⟩ .nil
set_option maxRecDepth 1000000 in
set_option maxHeartbeats 32000000 in
theorem lw6z_10 (l : List A6) (c i en ck : Nat) (f : Nat → Option Value) (hd : ∀ x ∈ l, x.d.data.size ≤ 3000) (hl40 : l.length ≤ 40) (h1 : i < l.length) (t a0 : Int) (d : ByteArray) (hx : l[i] = ⟨t, a0, false, d⟩) (q : Bl × Nat) (T : List (Bl × Nat)) : CW Try.prog 0 1 (1 + (Try.f8.ntmps - 1)) none (codeAt (loopAt Try.f8 0) [1, 0, 1, 0]) (lw6A l c i (q :: T) en ck a0 f) (stepK Try.prog 0 1 (1 + (Try.f8.ntmps - 1)) none (lw6A l c i (q :: T) en ck (IntKind.i64.wrap ((en : Int) + pickI a0 20000)))) := by
  obtain ⟨dom, cell, hsh, hdl⟩ := fact6 hd i h1 hx
  have hdl : (bs d).length ≤ 3000 := hdl
  have hpl : plainL (l.flatMap layA6.g) = true := flat_plain layA6.g layA6.plain _
  refine sx_ok tbLw2 [0] 1 _ none mixed _ _ _ ?_
  refine ifK (fun _ => ?_) (fun h2 => absurd (dom.symm.trans h2) (by decide))
  refine Exists.intro false (And.intro (cell 2 (by decide)) ?_)
  refine And.intro (by kernel_rfl) ?_
  exact rc_slots [1, 2, 3, 4] rfl rfl rfl (fun l e => by cases e) (by decide) (by decide) rfl rfl (wr_of rfl) ⟨⟨_, rfl, .sl _ _ _ _ _ rfl⟩, ⟨_, rfl, .ptr _ _ _ rfl⟩, ⟨_, rfl, .ptr _ _ _ rfl⟩, ⟨_, rfl, .int _ _⟩, ⟨_, rfl, .int _ _⟩, trivial⟩ ⟨⟨by decide, _, rfl, .sameW (hpl)⟩, ⟨by decide, _, rfl, map_ro1 _ _⟩, ⟨by decide, _, rfl, pbox_ro 1 1 (by exact rfl) _⟩, ⟨by decide, _, rfl, rbox_ro 4 4 (by rfl) rfl _⟩, ⟨by decide, _, rfl, (by first | exact .same (pT_all (q :: T)) | exact .sameW (pT_all (q :: T)))⟩, trivial⟩ .nil
set_option maxRecDepth 1000000 in
set_option maxHeartbeats 32000000 in
theorem lw6z_11 (l : List A6) (c i en ck : Nat) (f : Nat → Option Value) (hd : ∀ x ∈ l, x.d.data.size ≤ 3000) (hl40 : l.length ≤ 40) (h1 : i < l.length) (t a0 : Int) (d : ByteArray) (hx : l[i] = ⟨t, a0, true, d⟩) (q : Bl × Nat) (T : List (Bl × Nat)) : CW Try.prog 0 1 (1 + (Try.f8.ntmps - 1)) none (codeAt (loopAt Try.f8 0) [1, 0, 1, 0]) (lw6A l c i (q :: T) en ck a0 f) (stepK Try.prog 0 1 (1 + (Try.f8.ntmps - 1)) none (lw6A l c i (q :: T) en ck a0)) := by
  obtain ⟨dom, cell, hsh, hdl⟩ := fact6 hd i h1 hx
  have hdl : (bs d).length ≤ 3000 := hdl
  have hpl : plainL (l.flatMap layA6.g) = true := flat_plain layA6.g layA6.plain _
  refine sx_ok tbLw2 [0] 1 _ none mixed _ _ _ ?_
  refine ifK (fun _ => ?_) (fun h2 => absurd (dom.symm.trans h2) (by decide))
  refine Exists.intro true (And.intro (cell 2 (by decide)) ?_)
  exact rc_slots [1, 2, 3, 4] rfl rfl rfl (fun l e => by cases e) (by decide) (by decide) rfl rfl (wr_of rfl) ⟨⟨_, rfl, .sl _ _ _ _ _ rfl⟩, ⟨_, rfl, .ptr _ _ _ rfl⟩, ⟨_, rfl, .ptr _ _ _ rfl⟩, ⟨_, rfl, .int _ _⟩, ⟨_, rfl, .int _ _⟩, trivial⟩ ⟨⟨by decide, _, rfl, .sameW (hpl)⟩, ⟨by decide, _, rfl, map_ro1 _ _⟩, ⟨by decide, _, rfl, pbox_ro 1 1 (by exact rfl) _⟩, ⟨by decide, _, rfl, rbox_ro 4 4 (by rfl) rfl _⟩, ⟨by decide, _, rfl, (by first | exact .same (pT_all (q :: T)) | exact .sameW (pT_all (q :: T)))⟩, trivial⟩ .nil
set_option maxRecDepth 1000000 in
set_option maxHeartbeats 32000000 in
theorem lw6w_10 (l : List A6) (c i en ck : Nat) (f : Nat → Option Value) (hd : ∀ x ∈ l, x.d.data.size ≤ 3000) (hl40 : l.length ≤ 40) (h1 : i < l.length) (t a0 : Int) (raw : Bool) (d : ByteArray) (hx : l[i] = ⟨t, a0, raw, d⟩) (q : Bl × Nat) (T : List (Bl × Nat)) (a e : Int) (F : List (Bl × Nat)) (en' : Nat) (hg : goodT (q :: T)) (hD : wrD en (q :: T) a t (bs d) = (e, [], F, en')) : CW Try.prog 0 1 (1 + (Try.f8.ntmps - 1)) none (codeAt (loopAt Try.f8 0) [1, 0, 1, 1, 0]) (lw6A l c i (q :: T) en ck a f) (stepK Try.prog 0 1 (1 + (Try.f8.ntmps - 1)) none (lw6B l c i (q :: T) ((q :: T) ++ F) en en' (ck + F.length) a e [])) := by
  obtain ⟨dom, cell, hsh, hdl⟩ := fact6 hd i h1 hx
  have hdl : (bs d).length ≤ 3000 := hdl
  have hpl : plainL (l.flatMap layA6.g) = true := flat_plain layA6.g layA6.plain _
  refine sx_ok tbLw2 [0] 1 _ none mixed _ _ _ ?_
  refine And.intro (by kernel_rfl) ?_
  refine ifK (fun _ => ?_) (fun h2 => absurd (dom.symm.trans h2) (by decide))
  refine Exists.intro t (And.intro (cell 0 (by decide)) ?_)
  refine ifK (fun _ => ?_) (fun h2 => absurd (dom.symm.trans h2) (by decide))
  refine Exists.intro d (And.intro (cell 3 (by decide)) ?_)
  refine Exists.intro (⟨2, 1, en, (q :: T), ck, a, t, d, e, [], F, en'⟩ : WrX) (And.intro ⟨rfl, (show Tr.get _ 2 = some (AObj.cells [.map (some 1), .int .i64 (en : Int)] _) from rfl), (show Tr.get _ 1 = some (AObj.map (encT (q :: T)) ck) from rfl), hg, hsh, hD⟩ ?_)
  exact rc_slots [1, 2, 3, 4] rfl rfl rfl (fun l e => by cases e) (by decide) (by decide) rfl rfl (wr_of rfl) ⟨⟨_, rfl, .sl _ _ _ _ _ rfl⟩, ⟨_, rfl, .ptr _ _ _ rfl⟩, ⟨_, rfl, .ptr _ _ _ rfl⟩, ⟨_, rfl, .int _ _⟩, ⟨_, rfl, .int _ _⟩, ⟨_, rfl, plain_rv 8 rfl⟩, ⟨_, rfl, .int _ _⟩, trivial⟩ ⟨⟨by decide, _, rfl, .sameW (hpl)⟩, ⟨by decide, _, rfl, map_ro1 _ _⟩, ⟨by decide, _, rfl, pbox_ro 1 1 (by exact rfl) _⟩, ⟨by decide, _, rfl, rbox_ro 4 4 (by rfl) rfl _⟩, ⟨by decide, _, rfl, (by first | exact .same (pT_all (q :: T)) | exact .sameW (pT_all (q :: T)))⟩, trivial⟩ .nil
set_option maxRecDepth 1000000 in
set_option maxHeartbeats 32000000 in
theorem lw6v_100 (l : List A6) (c i en ck : Nat) (f : Nat → Option Value) (hd : ∀ x ∈ l, x.d.data.size ≤ 3000) (hl40 : l.length ≤ 40) (h1 : i < l.length) (t a0 : Int) (raw : Bool) (d : ByteArray) (hx : l[i] = ⟨t, a0, raw, d⟩) (q : Bl × Nat) (T : List (Bl × Nat)) (a e : Int) (en' : Nat) (hg : goodT (q :: T)) (hT9 : ((q :: T) : List (Bl × Nat)).length ≤ 900000000) (hD : wrD en (q :: T) a t (bs d) = (e, [], [], en')) : CW Try.prog 0 1 (1 + (Try.f8.ntmps - 1)) none (codeAt (loopAt Try.f8 0) [1, 0, 1, 1, 1, 0]) (lw6B l c i (q :: T) (((q :: T) : List (Bl × Nat)) ++ ([] : List (Bl × Nat))) en en' (ck + List.length ([] : List (Bl × Nat))) a e [] f) (stepK Try.prog 0 1 (1 + (Try.f8.ntmps - 1)) none (lw6C l c i (q :: T) en' ck e [])) := by
  obtain ⟨dom, cell, hsh, hdl⟩ := fact6 hd i h1 hx
  have hdl : (bs d).length ≤ 3000 := hdl
  have hpl : plainL (l.flatMap layA6.g) = true := flat_plain layA6.g layA6.plain _
  refine sx_ok tbLw2 [0] 1 _ none mixed _ _ _ ?_
  refine And.intro (by kernel_rfl) ?_
  refine ifK (fun _ => ?_) (fun h2 => absurd (dom.symm.trans h2) (by decide))
  refine Exists.intro t (And.intro (cell 0 (by decide)) ?_)
  refine ifK (fun _ => ?_) (fun h2 => absurd (dom.symm.trans h2) (by decide))
  refine Exists.intro d (And.intro (cell 3 (by decide)) ?_)
  refine Exists.intro (⟨3, some 4, en, (q :: T), a, t, d, e, [], [], en'⟩ : RwX) (And.intro ⟨rfl, (show Tr.get _ 3 = some (AObj.cells [.slice (some ⟨4, 0, none⟩) (q :: T).length U, .int .i64 (en : Int)] _) from rfl), ⟨(show Tr.get _ 4 = some (AObj.cells ((q :: T).flatMap layT.g) _) from rfl), List.cons_ne_nil _ _⟩, hg, hT9, (show (bs d).length ≤ 100000000 by omega), hD⟩ ?_)
  exact rc_slots [1, 2, 3, 4] rfl rfl rfl (fun l e => by cases e) (by decide) (by decide) rfl rfl (wr_of rfl) ⟨⟨_, rfl, .sl _ _ _ _ _ rfl⟩, ⟨_, rfl, .ptr _ _ _ rfl⟩, ⟨_, rfl, .ptr _ _ _ rfl⟩, ⟨_, rfl, .int _ _⟩, ⟨_, rfl, plain_rv 8 rfl⟩, ⟨_, rfl, .int _ _⟩, ⟨_, rfl, plain_rv 8 rfl⟩, ⟨_, rfl, .int _ _⟩, trivial⟩ ⟨⟨by decide, _, rfl, .sameW (hpl)⟩, ⟨by decide, _, rfl, map_ro0 (q :: T) ck⟩, ⟨by decide, _, rfl, pbox_ro 1 1 (by exact rfl) _⟩, ⟨by decide, _, rfl, rbox_ro 4 4 (by rfl) rfl _⟩, ⟨by decide, _, rfl, (by first | exact .same (pT_all (q :: T)) | exact .sameW (pT_all (q :: T)))⟩, trivial⟩ .nil
set_option maxRecDepth 1000000 in
set_option maxHeartbeats 32000000 in
theorem lw6v_101 (l : List A6) (c i en ck : Nat) (f : Nat → Option Value) (hd : ∀ x ∈ l, x.d.data.size ≤ 3000) (hl40 : l.length ≤ 40) (h1 : i < l.length) (t a0 : Int) (raw : Bool) (d : ByteArray) (hx : l[i] = ⟨t, a0, raw, d⟩) (q : Bl × Nat) (T : List (Bl × Nat)) (p : Bl × Nat) (F : List (Bl × Nat)) (a e : Int) (en' : Nat) (hg : goodT (q :: T)) (hT9 : ((q :: T) : List (Bl × Nat)).length ≤ 900000000) (hD : wrD en (q :: T) a t (bs d) = (e, [], (p :: F), en')) : CW Try.prog 0 1 (1 + (Try.f8.ntmps - 1)) none (codeAt (loopAt Try.f8 0) [1, 0, 1, 1, 1, 0]) (lw6B l c i (q :: T) (((q :: T) : List (Bl × Nat)) ++ ((p :: F) : List (Bl × Nat))) en en' (ck + List.length ((p :: F) : List (Bl × Nat))) a e [] f) (stepK Try.prog 0 1 (1 + (Try.f8.ntmps - 1)) none (lw6C l c i (q :: (T ++ p :: F)) en' (ck + (F.length + 1)) e [])) := by
  obtain ⟨dom, cell, hsh, hdl⟩ := fact6 hd i h1 hx
  have hdl : (bs d).length ≤ 3000 := hdl
  have hpl : plainL (l.flatMap layA6.g) = true := flat_plain layA6.g layA6.plain _
  refine sx_ok tbLw2 [0] 1 _ none mixed _ _ _ ?_
  refine And.intro (by kernel_rfl) ?_
  refine ifK (fun _ => ?_) (fun h2 => absurd (dom.symm.trans h2) (by decide))
  refine Exists.intro t (And.intro (cell 0 (by decide)) ?_)
  refine ifK (fun _ => ?_) (fun h2 => absurd (dom.symm.trans h2) (by decide))
  refine Exists.intro d (And.intro (cell 3 (by decide)) ?_)
  refine Exists.intro (⟨3, some 4, en, (q :: T), a, t, d, e, [], (p :: F), en'⟩ : RwX) (And.intro ⟨rfl, (show Tr.get _ 3 = some (AObj.cells [.slice (some ⟨4, 0, none⟩) (q :: T).length U, .int .i64 (en : Int)] _) from rfl), ⟨(show Tr.get _ 4 = some (AObj.cells ((q :: T).flatMap layT.g) _) from rfl), List.cons_ne_nil _ _⟩, hg, hT9, (show (bs d).length ≤ 100000000 by omega), hD⟩ ?_)
  exact rc_slots [1, 2, 3, 5] rfl rfl rfl (fun l e => by cases e) (by decide) (by decide) rfl rfl (wr_of rfl) ⟨⟨_, rfl, .sl _ _ _ _ _ rfl⟩, ⟨_, rfl, .ptr _ _ _ rfl⟩, ⟨_, rfl, .ptr _ _ _ rfl⟩, ⟨_, rfl, .int _ _⟩, ⟨_, rfl, plain_rv 8 rfl⟩, ⟨_, rfl, .int _ _⟩, ⟨_, rfl, plain_rv 8 rfl⟩, ⟨_, rfl, .int _ _⟩, trivial⟩ ⟨⟨by decide, _, rfl, .sameW (hpl)⟩, ⟨by decide, _, rfl, map_ro1 ((q :: (T ++ p :: F))) _⟩, ⟨by decide, _, rfl, pbox_ro 1 1 (by exact rfl) _⟩, ⟨by decide, _, rfl, rbox_ro 5 4 (by rfl) (by simp <;> omega) _⟩, ⟨by decide, _, rfl, ro_eq rfl (pT_all _)⟩, trivial⟩ .nil
set_option maxRecDepth 1000000 in
set_option maxHeartbeats 32000000 in
theorem lw6u_10 (l : List A6) (c i en ck : Nat) (f : Nat → Option Value) (hd : ∀ x ∈ l, x.d.data.size ≤ 3000) (hl40 : l.length ≤ 40) (h1 : i < l.length) (q : Bl × Nat) (T : List (Bl × Nat)) (e : Int) : CW Try.prog 0 1 (1 + (Try.f8.ntmps - 1)) none (codeAt (loopAt Try.f8 0) [1, 0, 1, 1, 1, 1]) (lw6C l c i (q :: T) en ck e [] f) (stepK Try.prog 0 1 (1 + (Try.f8.ntmps - 1)) none (lw6E l c i (q :: T) en ck)) := by
  have hpl : plainL (l.flatMap layA6.g) = true := flat_plain layA6.g layA6.plain _
  have h1s : (Try.prog.types[5]).size = 1 := by kernel_rfl
  refine sx_ok tbLw2 [0] 1 _ none mixed _ _ _ ?_
  refine And.intro (by kernel_rfl) ?_
  refine ifK (fun g => by simp at g) (fun _ => ?_)
  refine ifK (fun g => by simp [encT_len] at g) (fun _ => ?_)
  exact rc_slots [1, 2, 3, 4] rfl rfl rfl (fun l e => by cases e) (by decide) (by decide) rfl rfl (wr_of rfl) ⟨⟨_, rfl, .sl _ _ _ _ _ rfl⟩, ⟨_, rfl, .ptr _ _ _ rfl⟩, ⟨_, rfl, .ptr _ _ _ rfl⟩, ⟨_, rfl, .int _ _⟩, trivial⟩ ⟨⟨by decide, _, rfl, .sameW (hpl)⟩, ⟨by decide, _, rfl, map_ro1 _ _⟩, ⟨by decide, _, rfl, pbox_ro 1 1 (by exact rfl) _⟩, ⟨by decide, _, rfl, rbox_ro 4 4 (by rfl) rfl _⟩, ⟨by decide, _, rfl, (by first | exact .same (pT_all (q :: T)) | exact .sameW (pT_all (q :: T)))⟩, trivial⟩ .nil
set_option maxRecDepth 1000000 in
set_option maxHeartbeats 32000000 in
theorem lw6w_11 (l : List A6) (c i en ck : Nat) (f : Nat → Option Value) (hd : ∀ x ∈ l, x.d.data.size ≤ 3000) (hl40 : l.length ≤ 40) (h1 : i < l.length) (t a0 : Int) (raw : Bool) (d : ByteArray) (hx : l[i] = ⟨t, a0, raw, d⟩) (q : Bl × Nat) (T : List (Bl × Nat)) (u : UInt8) (us : Bl) (a e : Int) (F : List (Bl × Nat)) (en' : Nat) (hg : goodT (q :: T)) (hD : wrD en (q :: T) a t (bs d) = (e, (u :: us), F, en')) : CW Try.prog 0 1 (1 + (Try.f8.ntmps - 1)) none (codeAt (loopAt Try.f8 0) [1, 0, 1, 1, 0]) (lw6A l c i (q :: T) en ck a f) (stepK Try.prog 0 1 (1 + (Try.f8.ntmps - 1)) none (lw6B l c i (q :: T) ((q :: T) ++ F) en en' (ck + F.length) a e (u :: us))) := by
  obtain ⟨dom, cell, hsh, hdl⟩ := fact6 hd i h1 hx
  have hdl : (bs d).length ≤ 3000 := hdl
  have hpl : plainL (l.flatMap layA6.g) = true := flat_plain layA6.g layA6.plain _
  refine sx_ok tbLw2 [0] 1 _ none mixed _ _ _ ?_
  refine And.intro (by kernel_rfl) ?_
  refine ifK (fun _ => ?_) (fun h2 => absurd (dom.symm.trans h2) (by decide))
  refine Exists.intro t (And.intro (cell 0 (by decide)) ?_)
  refine ifK (fun _ => ?_) (fun h2 => absurd (dom.symm.trans h2) (by decide))
  refine Exists.intro d (And.intro (cell 3 (by decide)) ?_)
  refine Exists.intro (⟨2, 1, en, (q :: T), ck, a, t, d, e, (u :: us), F, en'⟩ : WrX) (And.intro ⟨rfl, (show Tr.get _ 2 = some (AObj.cells [.map (some 1), .int .i64 (en : Int)] _) from rfl), (show Tr.get _ 1 = some (AObj.map (encT (q :: T)) ck) from rfl), hg, hsh, hD⟩ ?_)
  exact rc_slots [1, 2, 3, 4, 5] rfl rfl rfl (fun l e => by cases e) (by decide) (by decide) rfl rfl (wr_of rfl) ⟨⟨_, rfl, .sl _ _ _ _ _ rfl⟩, ⟨_, rfl, .ptr _ _ _ rfl⟩, ⟨_, rfl, .ptr _ _ _ rfl⟩, ⟨_, rfl, .int _ _⟩, ⟨_, rfl, .int _ _⟩, ⟨_, rfl, .sl _ _ _ _ _ rfl⟩, ⟨_, rfl, .int _ _⟩, trivial⟩ ⟨⟨by decide, _, rfl, .sameW (hpl)⟩, ⟨by decide, _, rfl, map_ro1 _ _⟩, ⟨by decide, _, rfl, pbox_ro 1 1 (by exact rfl) _⟩, ⟨by decide, _, rfl, rbox_ro 4 4 (by rfl) rfl _⟩, ⟨by decide, _, rfl, (by first | exact .same (pT_all (q :: T)) | exact .sameW (pT_all (q :: T)))⟩, ⟨by decide, _, rfl, (by first | exact .same (byV_plain (u :: us)) | exact .sameW (byV_plain (u :: us)))⟩, trivial⟩ .nil
set_option maxRecDepth 1000000 in
set_option maxHeartbeats 32000000 in
theorem lw6v_110 (l : List A6) (c i en ck : Nat) (f : Nat → Option Value) (hd : ∀ x ∈ l, x.d.data.size ≤ 3000) (hl40 : l.length ≤ 40) (h1 : i < l.length) (t a0 : Int) (raw : Bool) (d : ByteArray) (hx : l[i] = ⟨t, a0, raw, d⟩) (q : Bl × Nat) (T : List (Bl × Nat)) (u : UInt8) (us : Bl) (a e : Int) (en' : Nat) (hg : goodT (q :: T)) (hT9 : ((q :: T) : List (Bl × Nat)).length ≤ 900000000) (hD : wrD en (q :: T) a t (bs d) = (e, (u :: us), [], en')) : CW Try.prog 0 1 (1 + (Try.f8.ntmps - 1)) none (codeAt (loopAt Try.f8 0) [1, 0, 1, 1, 1, 0]) (lw6B l c i (q :: T) (((q :: T) : List (Bl × Nat)) ++ ([] : List (Bl × Nat))) en en' (ck + List.length ([] : List (Bl × Nat))) a e (u :: us) f) (stepK Try.prog 0 1 (1 + (Try.f8.ntmps - 1)) none (lw6C l c i (q :: T) en' ck e (u :: us))) := by
  obtain ⟨dom, cell, hsh, hdl⟩ := fact6 hd i h1 hx
  have hdl : (bs d).length ≤ 3000 := hdl
  have hpl : plainL (l.flatMap layA6.g) = true := flat_plain layA6.g layA6.plain _
  refine sx_ok tbLw2 [0] 1 _ none mixed _ _ _ ?_
  refine And.intro (by kernel_rfl) ?_
  refine ifK (fun _ => ?_) (fun h2 => absurd (dom.symm.trans h2) (by decide))
  refine Exists.intro t (And.intro (cell 0 (by decide)) ?_)
  refine ifK (fun _ => ?_) (fun h2 => absurd (dom.symm.trans h2) (by decide))
  refine Exists.intro d (And.intro (cell 3 (by decide)) ?_)
  refine Exists.intro (⟨3, some 4, en, (q :: T), a, t, d, e, (u :: us), [], en'⟩ : RwX) (And.intro ⟨rfl, (show Tr.get _ 3 = some (AObj.cells [.slice (some ⟨4, 0, none⟩) (q :: T).length U, .int .i64 (en : Int)] _) from rfl), ⟨(show Tr.get _ 4 = some (AObj.cells ((q :: T).flatMap layT.g) _) from rfl), List.cons_ne_nil _ _⟩, hg, hT9, (show (bs d).length ≤ 100000000 by omega), hD⟩ ?_)
  exact rc_slots [1, 2, 3, 4, 5, 6] rfl rfl rfl (fun l e => by cases e) (by decide) (by decide) rfl rfl (wr_of rfl) ⟨⟨_, rfl, .sl _ _ _ _ _ rfl⟩, ⟨_, rfl, .ptr _ _ _ rfl⟩, ⟨_, rfl, .ptr _ _ _ rfl⟩, ⟨_, rfl, .int _ _⟩, ⟨_, rfl, .sl _ _ _ _ _ rfl⟩, ⟨_, rfl, .int _ _⟩, ⟨_, rfl, .sl _ _ _ _ _ rfl⟩, ⟨_, rfl, .int _ _⟩, trivial⟩ ⟨⟨by decide, _, rfl, .sameW (hpl)⟩, ⟨by decide, _, rfl, map_ro0 (q :: T) ck⟩, ⟨by decide, _, rfl, pbox_ro 1 1 (by exact rfl) _⟩, ⟨by decide, _, rfl, rbox_ro 4 4 (by rfl) rfl _⟩, ⟨by decide, _, rfl, (by first | exact .same (pT_all (q :: T)) | exact .sameW (pT_all (q :: T)))⟩, ⟨by decide, _, rfl, (by first | exact .same (byV_plain (u :: us)) | exact .sameW (byV_plain (u :: us)))⟩, ⟨by decide, _, rfl, (by first | exact .same (byV_plain (u :: us)) | exact .sameW (byV_plain (u :: us)))⟩, trivial⟩ .nil
set_option maxRecDepth 1000000 in
set_option maxHeartbeats 32000000 in
theorem lw6v_111 (l : List A6) (c i en ck : Nat) (f : Nat → Option Value) (hd : ∀ x ∈ l, x.d.data.size ≤ 3000) (hl40 : l.length ≤ 40) (h1 : i < l.length) (t a0 : Int) (raw : Bool) (d : ByteArray) (hx : l[i] = ⟨t, a0, raw, d⟩) (q : Bl × Nat) (T : List (Bl × Nat)) (u : UInt8) (us : Bl) (p : Bl × Nat) (F : List (Bl × Nat)) (a e : Int) (en' : Nat) (hg : goodT (q :: T)) (hT9 : ((q :: T) : List (Bl × Nat)).length ≤ 900000000) (hD : wrD en (q :: T) a t (bs d) = (e, (u :: us), (p :: F), en')) : CW Try.prog 0 1 (1 + (Try.f8.ntmps - 1)) none (codeAt (loopAt Try.f8 0) [1, 0, 1, 1, 1, 0]) (lw6B l c i (q :: T) (((q :: T) : List (Bl × Nat)) ++ ((p :: F) : List (Bl × Nat))) en en' (ck + List.length ((p :: F) : List (Bl × Nat))) a e (u :: us) f) (stepK Try.prog 0 1 (1 + (Try.f8.ntmps - 1)) none (lw6C l c i (q :: (T ++ p :: F)) en' (ck + (F.length + 1)) e (u :: us))) := by
  obtain ⟨dom, cell, hsh, hdl⟩ := fact6 hd i h1 hx
  have hdl : (bs d).length ≤ 3000 := hdl
  have hpl : plainL (l.flatMap layA6.g) = true := flat_plain layA6.g layA6.plain _
  refine sx_ok tbLw2 [0] 1 _ none mixed _ _ _ ?_
  refine And.intro (by kernel_rfl) ?_
  refine ifK (fun _ => ?_) (fun h2 => absurd (dom.symm.trans h2) (by decide))
  refine Exists.intro t (And.intro (cell 0 (by decide)) ?_)
  refine ifK (fun _ => ?_) (fun h2 => absurd (dom.symm.trans h2) (by decide))
  refine Exists.intro d (And.intro (cell 3 (by decide)) ?_)
  refine Exists.intro (⟨3, some 4, en, (q :: T), a, t, d, e, (u :: us), (p :: F), en'⟩ : RwX) (And.intro ⟨rfl, (show Tr.get _ 3 = some (AObj.cells [.slice (some ⟨4, 0, none⟩) (q :: T).length U, .int .i64 (en : Int)] _) from rfl), ⟨(show Tr.get _ 4 = some (AObj.cells ((q :: T).flatMap layT.g) _) from rfl), List.cons_ne_nil _ _⟩, hg, hT9, (show (bs d).length ≤ 100000000 by omega), hD⟩ ?_)
  exact rc_slots [1, 2, 3, 7, 5, 6] rfl rfl rfl (fun l e => by cases e) (by decide) (by decide) rfl rfl (wr_of rfl) ⟨⟨_, rfl, .sl _ _ _ _ _ rfl⟩, ⟨_, rfl, .ptr _ _ _ rfl⟩, ⟨_, rfl, .ptr _ _ _ rfl⟩, ⟨_, rfl, .int _ _⟩, ⟨_, rfl, .sl _ _ _ _ _ rfl⟩, ⟨_, rfl, .int _ _⟩, ⟨_, rfl, .sl _ _ _ _ _ rfl⟩, ⟨_, rfl, .int _ _⟩, trivial⟩ ⟨⟨by decide, _, rfl, .sameW (hpl)⟩, ⟨by decide, _, rfl, map_ro1 ((q :: (T ++ p :: F))) _⟩, ⟨by decide, _, rfl, pbox_ro 1 1 (by exact rfl) _⟩, ⟨by decide, _, rfl, rbox_ro 7 4 (by rfl) (by simp <;> omega) _⟩, ⟨by decide, _, rfl, ro_eq rfl (pT_all _)⟩, ⟨by decide, _, rfl, (by first | exact .same (byV_plain (u :: us)) | exact .sameW (byV_plain (u :: us)))⟩, ⟨by decide, _, rfl, (by first | exact .same (byV_plain (u :: us)) | exact .sameW (byV_plain (u :: us)))⟩, trivial⟩ .nil
set_option maxRecDepth 1000000 in
set_option maxHeartbeats 32000000 in
theorem lw6u_11 (l : List A6) (c i en ck : Nat) (f : Nat → Option Value) (hd : ∀ x ∈ l, x.d.data.size ≤ 3000) (hl40 : l.length ≤ 40) (h1 : i < l.length) (q : Bl × Nat) (T : List (Bl × Nat)) (u : UInt8) (us : Bl) (e : Int) : CW Try.prog 0 1 (1 + (Try.f8.ntmps - 1)) none (codeAt (loopAt Try.f8 0) [1, 0, 1, 1, 1, 1]) (lw6C l c i (q :: T) en ck e (u :: us) f) (stepK Try.prog 0 1 (1 + (Try.f8.ntmps - 1)) none (lw6E l c i (q :: T) en ck)) := by
  have hpl : plainL (l.flatMap layA6.g) = true := flat_plain layA6.g layA6.plain _
  have h1s : (Try.prog.types[5]).size = 1 := by kernel_rfl
  refine sx_ok tbLw2 [0] 1 _ none mixed _ _ _ ?_
  refine And.intro (by kernel_rfl) ?_
  refine And.intro ⟨u :: us, 5, 6, rfl, (show Tr.get _ 5 = some (AObj.cells ((u :: us).map byV) _) from rfl), (show Tr.get _ 6 = some (AObj.cells ((u :: us).map byV) _) from rfl)⟩ ?_
  refine ifK (fun g => by simp at g) (fun _ => ?_)
  refine ifK (fun g => by simp [encT_len] at g) (fun _ => ?_)
  refine Exists.intro (⟨5, u :: us⟩ : OvX) (And.intro ⟨rfl, (show Tr.get _ 5 = some (AObj.cells ((u :: us).map byV) _) from rfl), List.cons_ne_nil _ _⟩ ?_)
  exact rc_slots [1, 2, 3, 4] rfl rfl rfl (fun l e => by cases e) (by decide) (by decide) rfl rfl (wr_of rfl) ⟨⟨_, rfl, .sl _ _ _ _ _ rfl⟩, ⟨_, rfl, .ptr _ _ _ rfl⟩, ⟨_, rfl, .ptr _ _ _ rfl⟩, ⟨_, rfl, .int _ _⟩, trivial⟩ ⟨⟨by decide, _, rfl, .sameW (hpl)⟩, ⟨by decide, _, rfl, map_ro1 _ _⟩, ⟨by decide, _, rfl, pbox_ro 1 1 (by exact rfl) _⟩, ⟨by decide, _, rfl, rbox_ro 4 4 (by rfl) rfl _⟩, ⟨by decide, _, rfl, (by first | exact .same (pT_all (q :: T)) | exact .sameW (pT_all (q :: T)))⟩, trivial⟩ .nil
set_option maxRecDepth 1000000 in
set_option maxHeartbeats 32000000 in
theorem lw6t_1 (l : List A6) (c i en ck : Nat) (f : Nat → Option Value) (hd : ∀ x ∈ l, x.d.data.size ≤ 3000) (hl40 : l.length ≤ 40) (h1 : i < l.length) (q : Bl × Nat) (T : List (Bl × Nat)) : CW Try.prog 0 1 (1 + (Try.f8.ntmps - 1)) none (codeAt (loopAt Try.f8 0) [1, 1]) (lw6E l c i (q :: T) en ck f) (stepK Try.prog 0 1 (1 + (Try.f8.ntmps - 1)) none (lw6E l c (i + 1) (q :: T) en ck)) := by
  have hpl : plainL (l.flatMap layA6.g) = true := flat_plain layA6.g layA6.plain _
  refine sx_ok tbLw2 [0] 1 _ none mixed _ _ _ ?_
  exact rc_slots [1, 2, 3, 4] rfl rfl rfl (fun l e => by cases e) (by decide) (by decide) rfl rfl (wr_of rfl) ⟨⟨_, rfl, .sl _ _ _ _ _ rfl⟩, ⟨_, rfl, .ptr _ _ _ rfl⟩, ⟨_, rfl, .ptr _ _ _ rfl⟩, slot_int rfl (by rw [wrapN (by omega) (by omega)]; omega), trivial⟩ ⟨⟨by decide, _, rfl, .sameW (hpl)⟩, ⟨by decide, _, rfl, map_ro1 _ _⟩, ⟨by decide, _, rfl, pbox_ro 1 1 (by exact rfl) _⟩, ⟨by decide, _, rfl, rbox_ro 4 4 (by rfl) rfl _⟩, ⟨by decide, _, rfl, (by first | exact .same (pT_all (q :: T)) | exact .sameW (pT_all (q :: T)))⟩, trivial⟩ .nil
end Go.Proofs.Ytjdecbfjpkpepaa
namespace Go.Proofs.Ytjdecbfjpkpepaa
open Go Go.RowKit
set_option maxRecDepth 1000000 in
set_option maxHeartbeats 32000000 in
theorem lw6_body (l : List A6) (c i en ck : Nat) (f : Nat → Option Value) (hd : ∀ x ∈ l, x.d.data.size ≤ 3000) (hl40 : l.length ≤ 40) (h1 : i < l.length) (t a0 : Int) (raw : Bool) (d : ByteArray) (hx : l[i] = ⟨t, a0, raw, d⟩) (T : List (Bl × Nat)) (hg : goodT T) (hT9 : T.length ≤ 900000000) (a e : Int) (ha : a = bif raw then a0 else IntKind.i64.wrap ((en : Int) + pickI a0 20000)) (o : Bl) (F : List (Bl × Nat)) (en' : Nat)
    (hD : wrD en T a t (bs d) = (e, o, F, en')) : ∃ (T' : List (Bl × Nat)) (ck' : Nat), T' = T ++ F ∧ CW Try.prog 0 1 (1 + (Try.f8.ntmps - 1)) none (loopAt Try.f8 0) (lw6E l c i T en ck f) (stepK Try.prog 0 1 (1 + (Try.f8.ntmps - 1)) none (lw6E l c (i + 1) T' en' ck')) := by
  cases T with
  | nil =>
    cases raw with
    | false =>
      cases F with
      | nil =>
        cases o with
        | nil =>
          refine ⟨[], ck, (by simp), ?_⟩
          refine cw_cut (lw6E l c i [] en ck) (lw6x_0 l c i en ck f hd hl40 h1 ) (fun f => ?_)
          refine cw_cut (lw6E l c i [] en' ck) ?_ (fun f => lw6t_0 l c i en' ck f hd hl40 h1 )
          refine cw_blk _ ?_
          refine cw_cut (lw6A l c i [] en ck a0) (lw6y_0 l c i en ck f hd hl40 h1 t a0 false d hx ) (fun f => ?_)
          refine cw_cut (lw6A l c i [] en ck a) (by rw [ha]; exact lw6z_00 l c i en ck f hd hl40 h1 t a0 d hx ) (fun f => ?_)
          refine cw_cut (lw6B l c i [] (([] : List (Bl × Nat)) ++ ([] : List (Bl × Nat))) en en' (ck + List.length ([] : List (Bl × Nat))) a e []) (lw6w_00 l c i en ck f hd hl40 h1 t a0 false d hx a e [] en' hg hD) (fun f => ?_)
          refine cw_cut (lw6C l c i [] en' ck e []) (lw6v_000 l c i en ck f hd hl40 h1 t a0 false d hx a e en' hg hT9 hD) (fun f => ?_)
          exact lw6u_00 l c i en' ck f hd hl40 h1 e
        | cons u us =>
          refine ⟨[], ck, (by simp), ?_⟩
          refine cw_cut (lw6E l c i [] en ck) (lw6x_0 l c i en ck f hd hl40 h1 ) (fun f => ?_)
          refine cw_cut (lw6E l c i [] en' ck) ?_ (fun f => lw6t_0 l c i en' ck f hd hl40 h1 )
          refine cw_blk _ ?_
          refine cw_cut (lw6A l c i [] en ck a0) (lw6y_0 l c i en ck f hd hl40 h1 t a0 false d hx ) (fun f => ?_)
          refine cw_cut (lw6A l c i [] en ck a) (by rw [ha]; exact lw6z_00 l c i en ck f hd hl40 h1 t a0 d hx ) (fun f => ?_)
          refine cw_cut (lw6B l c i [] (([] : List (Bl × Nat)) ++ ([] : List (Bl × Nat))) en en' (ck + List.length ([] : List (Bl × Nat))) a e (u :: us)) (lw6w_01 l c i en ck f hd hl40 h1 t a0 false d hx u us a e [] en' hg hD) (fun f => ?_)
          refine cw_cut (lw6C l c i [] en' ck e (u :: us)) (lw6v_010 l c i en ck f hd hl40 h1 t a0 false d hx u us a e en' hg hT9 hD) (fun f => ?_)
          exact lw6u_01 l c i en' ck f hd hl40 h1 u us e
      | cons p F =>
        cases o with
        | nil =>
          refine ⟨(p :: F), (ck + (F.length + 1)), (by simp), ?_⟩
          refine cw_cut (lw6E l c i [] en ck) (lw6x_0 l c i en ck f hd hl40 h1 ) (fun f => ?_)
          refine cw_cut (lw6E l c i (p :: F) en' (ck + (F.length + 1))) ?_ (fun f => lw6t_1 l c i en' (ck + (F.length + 1)) f hd hl40 h1 p F )
          refine cw_blk _ ?_
          refine cw_cut (lw6A l c i [] en ck a0) (lw6y_0 l c i en ck f hd hl40 h1 t a0 false d hx ) (fun f => ?_)
          refine cw_cut (lw6A l c i [] en ck a) (by rw [ha]; exact lw6z_00 l c i en ck f hd hl40 h1 t a0 d hx ) (fun f => ?_)
          refine cw_cut (lw6B l c i [] (([] : List (Bl × Nat)) ++ ((p :: F) : List (Bl × Nat))) en en' (ck + List.length ((p :: F) : List (Bl × Nat))) a e []) (lw6w_00 l c i en ck f hd hl40 h1 t a0 false d hx a e (p :: F) en' hg hD) (fun f => ?_)
          refine cw_cut (lw6C l c i (p :: F) en' (ck + (F.length + 1)) e []) (lw6v_001 l c i en ck f hd hl40 h1 t a0 false d hx p F a e en' hg hT9 hD) (fun f => ?_)
          exact lw6u_10 l c i en' (ck + (F.length + 1)) f hd hl40 h1 p F e
        | cons u us =>
          refine ⟨(p :: F), (ck + (F.length + 1)), (by simp), ?_⟩
          refine cw_cut (lw6E l c i [] en ck) (lw6x_0 l c i en ck f hd hl40 h1 ) (fun f => ?_)
          refine cw_cut (lw6E l c i (p :: F) en' (ck + (F.length + 1))) ?_ (fun f => lw6t_1 l c i en' (ck + (F.length + 1)) f hd hl40 h1 p F )
          refine cw_blk _ ?_
          refine cw_cut (lw6A l c i [] en ck a0) (lw6y_0 l c i en ck f hd hl40 h1 t a0 false d hx ) (fun f => ?_)
          refine cw_cut (lw6A l c i [] en ck a) (by rw [ha]; exact lw6z_00 l c i en ck f hd hl40 h1 t a0 d hx ) (fun f => ?_)
          refine cw_cut (lw6B l c i [] (([] : List (Bl × Nat)) ++ ((p :: F) : List (Bl × Nat))) en en' (ck + List.length ((p :: F) : List (Bl × Nat))) a e (u :: us)) (lw6w_01 l c i en ck f hd hl40 h1 t a0 false d hx u us a e (p :: F) en' hg hD) (fun f => ?_)
          refine cw_cut (lw6C l c i (p :: F) en' (ck + (F.length + 1)) e (u :: us)) (lw6v_011 l c i en ck f hd hl40 h1 t a0 false d hx u us p F a e en' hg hT9 hD) (fun f => ?_)
          exact lw6u_11 l c i en' (ck + (F.length + 1)) f hd hl40 h1 p F u us e
    | true =>
      cases F with
      | nil =>
        cases o with
        | nil =>
          refine ⟨[], ck, (by simp), ?_⟩
          refine cw_cut (lw6E l c i [] en ck) (lw6x_0 l c i en ck f hd hl40 h1 ) (fun f => ?_)
          refine cw_cut (lw6E l c i [] en' ck) ?_ (fun f => lw6t_0 l c i en' ck f hd hl40 h1 )
          refine cw_blk _ ?_
          refine cw_cut (lw6A l c i [] en ck a0) (lw6y_0 l c i en ck f hd hl40 h1 t a0 true d hx ) (fun f => ?_)
          refine cw_cut (lw6A l c i [] en ck a) (by rw [ha]; exact lw6z_01 l c i en ck f hd hl40 h1 t a0 d hx ) (fun f => ?_)
          refine cw_cut (lw6B l c i [] (([] : List (Bl × Nat)) ++ ([] : List (Bl × Nat))) en en' (ck + List.length ([] : List (Bl × Nat))) a e []) (lw6w_00 l c i en ck f hd hl40 h1 t a0 true d hx a e [] en' hg hD) (fun f => ?_)
          refine cw_cut (lw6C l c i [] en' ck e []) (lw6v_000 l c i en ck f hd hl40 h1 t a0 true d hx a e en' hg hT9 hD) (fun f => ?_)
          exact lw6u_00 l c i en' ck f hd hl40 h1 e
        | cons u us =>
          refine ⟨[], ck, (by simp), ?_⟩
          refine cw_cut (lw6E l c i [] en ck) (lw6x_0 l c i en ck f hd hl40 h1 ) (fun f => ?_)
          refine cw_cut (lw6E l c i [] en' ck) ?_ (fun f => lw6t_0 l c i en' ck f hd hl40 h1 )
          refine cw_blk _ ?_
          refine cw_cut (lw6A l c i [] en ck a0) (lw6y_0 l c i en ck f hd hl40 h1 t a0 true d hx ) (fun f => ?_)
          refine cw_cut (lw6A l c i [] en ck a) (by rw [ha]; exact lw6z_01 l c i en ck f hd hl40 h1 t a0 d hx ) (fun f => ?_)
          refine cw_cut (lw6B l c i [] (([] : List (Bl × Nat)) ++ ([] : List (Bl × Nat))) en en' (ck + List.length ([] : List (Bl × Nat))) a e (u :: us)) (lw6w_01 l c i en ck f hd hl40 h1 t a0 true d hx u us a e [] en' hg hD) (fun f => ?_)
          refine cw_cut (lw6C l c i [] en' ck e (u :: us)) (lw6v_010 l c i en ck f hd hl40 h1 t a0 true d hx u us a e en' hg hT9 hD) (fun f => ?_)
          exact lw6u_01 l c i en' ck f hd hl40 h1 u us e
      | cons p F =>
        cases o with
        | nil =>
          refine ⟨(p :: F), (ck + (F.length + 1)), (by simp), ?_⟩
          refine cw_cut (lw6E l c i [] en ck) (lw6x_0 l c i en ck f hd hl40 h1 ) (fun f => ?_)
          refine cw_cut (lw6E l c i (p :: F) en' (ck + (F.length + 1))) ?_ (fun f => lw6t_1 l c i en' (ck + (F.length + 1)) f hd hl40 h1 p F )
          refine cw_blk _ ?_
          refine cw_cut (lw6A l c i [] en ck a0) (lw6y_0 l c i en ck f hd hl40 h1 t a0 true d hx ) (fun f => ?_)
          refine cw_cut (lw6A l c i [] en ck a) (by rw [ha]; exact lw6z_01 l c i en ck f hd hl40 h1 t a0 d hx ) (fun f => ?_)
          refine cw_cut (lw6B l c i [] (([] : List (Bl × Nat)) ++ ((p :: F) : List (Bl × Nat))) en en' (ck + List.length ((p :: F) : List (Bl × Nat))) a e []) (lw6w_00 l c i en ck f hd hl40 h1 t a0 true d hx a e (p :: F) en' hg hD) (fun f => ?_)
          refine cw_cut (lw6C l c i (p :: F) en' (ck + (F.length + 1)) e []) (lw6v_001 l c i en ck f hd hl40 h1 t a0 true d hx p F a e en' hg hT9 hD) (fun f => ?_)
          exact lw6u_10 l c i en' (ck + (F.length + 1)) f hd hl40 h1 p F e
        | cons u us =>
          refine ⟨(p :: F), (ck + (F.length + 1)), (by simp), ?_⟩
          refine cw_cut (lw6E l c i [] en ck) (lw6x_0 l c i en ck f hd hl40 h1 ) (fun f => ?_)
          refine cw_cut (lw6E l c i (p :: F) en' (ck + (F.length + 1))) ?_ (fun f => lw6t_1 l c i en' (ck + (F.length + 1)) f hd hl40 h1 p F )
          refine cw_blk _ ?_
          refine cw_cut (lw6A l c i [] en ck a0) (lw6y_0 l c i en ck f hd hl40 h1 t a0 true d hx ) (fun f => ?_)
          refine cw_cut (lw6A l c i [] en ck a) (by rw [ha]; exact lw6z_01 l c i en ck f hd hl40 h1 t a0 d hx ) (fun f => ?_)
          refine cw_cut (lw6B l c i [] (([] : List (Bl × Nat)) ++ ((p :: F) : List (Bl × Nat))) en en' (ck + List.length ((p :: F) : List (Bl × Nat))) a e (u :: us)) (lw6w_01 l c i en ck f hd hl40 h1 t a0 true d hx u us a e (p :: F) en' hg hD) (fun f => ?_)
          refine cw_cut (lw6C l c i (p :: F) en' (ck + (F.length + 1)) e (u :: us)) (lw6v_011 l c i en ck f hd hl40 h1 t a0 true d hx u us p F a e en' hg hT9 hD) (fun f => ?_)
          exact lw6u_11 l c i en' (ck + (F.length + 1)) f hd hl40 h1 p F u us e
  | cons q T =>
    cases raw with
    | false =>
      cases F with
      | nil =>
        cases o with
        | nil =>
          refine ⟨(q :: T), ck, (by simp), ?_⟩
          refine cw_cut (lw6E l c i (q :: T) en ck) (lw6x_1 l c i en ck f hd hl40 h1 q T ) (fun f => ?_)
          refine cw_cut (lw6E l c i (q :: T) en' ck) ?_ (fun f => lw6t_1 l c i en' ck f hd hl40 h1 q T )
          refine cw_blk _ ?_
          refine cw_cut (lw6A l c i (q :: T) en ck a0) (lw6y_1 l c i en ck f hd hl40 h1 t a0 false d hx q T ) (fun f => ?_)
          refine cw_cut (lw6A l c i (q :: T) en ck a) (by rw [ha]; exact lw6z_10 l c i en ck f hd hl40 h1 t a0 d hx q T ) (fun f => ?_)
          refine cw_cut (lw6B l c i (q :: T) (((q :: T) : List (Bl × Nat)) ++ ([] : List (Bl × Nat))) en en' (ck + List.length ([] : List (Bl × Nat))) a e []) (lw6w_10 l c i en ck f hd hl40 h1 t a0 false d hx q T a e [] en' hg hD) (fun f => ?_)
          refine cw_cut (lw6C l c i (q :: T) en' ck e []) (lw6v_100 l c i en ck f hd hl40 h1 t a0 false d hx q T a e en' hg hT9 hD) (fun f => ?_)
          exact lw6u_10 l c i en' ck f hd hl40 h1 q T e
        | cons u us =>
          refine ⟨(q :: T), ck, (by simp), ?_⟩
          refine cw_cut (lw6E l c i (q :: T) en ck) (lw6x_1 l c i en ck f hd hl40 h1 q T ) (fun f => ?_)
          refine cw_cut (lw6E l c i (q :: T) en' ck) ?_ (fun f => lw6t_1 l c i en' ck f hd hl40 h1 q T )
          refine cw_blk _ ?_
          refine cw_cut (lw6A l c i (q :: T) en ck a0) (lw6y_1 l c i en ck f hd hl40 h1 t a0 false d hx q T ) (fun f => ?_)
          refine cw_cut (lw6A l c i (q :: T) en ck a) (by rw [ha]; exact lw6z_10 l c i en ck f hd hl40 h1 t a0 d hx q T ) (fun f => ?_)
          refine cw_cut (lw6B l c i (q :: T) (((q :: T) : List (Bl × Nat)) ++ ([] : List (Bl × Nat))) en en' (ck + List.length ([] : List (Bl × Nat))) a e (u :: us)) (lw6w_11 l c i en ck f hd hl40 h1 t a0 false d hx q T u us a e [] en' hg hD) (fun f => ?_)
          refine cw_cut (lw6C l c i (q :: T) en' ck e (u :: us)) (lw6v_110 l c i en ck f hd hl40 h1 t a0 false d hx q T u us a e en' hg hT9 hD) (fun f => ?_)
          exact lw6u_11 l c i en' ck f hd hl40 h1 q T u us e
      | cons p F =>
        cases o with
        | nil =>
          refine ⟨(q :: (T ++ p :: F)), (ck + (F.length + 1)), (by simp), ?_⟩
          refine cw_cut (lw6E l c i (q :: T) en ck) (lw6x_1 l c i en ck f hd hl40 h1 q T ) (fun f => ?_)
          refine cw_cut (lw6E l c i (q :: (T ++ p :: F)) en' (ck + (F.length + 1))) ?_ (fun f => lw6t_1 l c i en' (ck + (F.length + 1)) f hd hl40 h1 q (T ++ p :: F) )
          refine cw_blk _ ?_
          refine cw_cut (lw6A l c i (q :: T) en ck a0) (lw6y_1 l c i en ck f hd hl40 h1 t a0 false d hx q T ) (fun f => ?_)
          refine cw_cut (lw6A l c i (q :: T) en ck a) (by rw [ha]; exact lw6z_10 l c i en ck f hd hl40 h1 t a0 d hx q T ) (fun f => ?_)
          refine cw_cut (lw6B l c i (q :: T) (((q :: T) : List (Bl × Nat)) ++ ((p :: F) : List (Bl × Nat))) en en' (ck + List.length ((p :: F) : List (Bl × Nat))) a e []) (lw6w_10 l c i en ck f hd hl40 h1 t a0 false d hx q T a e (p :: F) en' hg hD) (fun f => ?_)
          refine cw_cut (lw6C l c i (q :: (T ++ p :: F)) en' (ck + (F.length + 1)) e []) (lw6v_101 l c i en ck f hd hl40 h1 t a0 false d hx q T p F a e en' hg hT9 hD) (fun f => ?_)
          exact lw6u_10 l c i en' (ck + (F.length + 1)) f hd hl40 h1 q (T ++ p :: F) e
        | cons u us =>
          refine ⟨(q :: (T ++ p :: F)), (ck + (F.length + 1)), (by simp), ?_⟩
          refine cw_cut (lw6E l c i (q :: T) en ck) (lw6x_1 l c i en ck f hd hl40 h1 q T ) (fun f => ?_)
          refine cw_cut (lw6E l c i (q :: (T ++ p :: F)) en' (ck + (F.length + 1))) ?_ (fun f => lw6t_1 l c i en' (ck + (F.length + 1)) f hd hl40 h1 q (T ++ p :: F) )
          refine cw_blk _ ?_
          refine cw_cut (lw6A l c i (q :: T) en ck a0) (lw6y_1 l c i en ck f hd hl40 h1 t a0 false d hx q T ) (fun f => ?_)
          refine cw_cut (lw6A l c i (q :: T) en ck a) (by rw [ha]; exact lw6z_10 l c i en ck f hd hl40 h1 t a0 d hx q T ) (fun f => ?_)
          refine cw_cut (lw6B l c i (q :: T) (((q :: T) : List (Bl × Nat)) ++ ((p :: F) : List (Bl × Nat))) en en' (ck + List.length ((p :: F) : List (Bl × Nat))) a e (u :: us)) (lw6w_11 l c i en ck f hd hl40 h1 t a0 false d hx q T u us a e (p :: F) en' hg hD) (fun f => ?_)
          refine cw_cut (lw6C l c i (q :: (T ++ p :: F)) en' (ck + (F.length + 1)) e (u :: us)) (lw6v_111 l c i en ck f hd hl40 h1 t a0 false d hx q T u us p F a e en' hg hT9 hD) (fun f => ?_)
          exact lw6u_11 l c i en' (ck + (F.length + 1)) f hd hl40 h1 q (T ++ p :: F) u us e
    | true =>
      cases F with
      | nil =>
        cases o with
        | nil =>
          refine ⟨(q :: T), ck, (by simp), ?_⟩
          refine cw_cut (lw6E l c i (q :: T) en ck) (lw6x_1 l c i en ck f hd hl40 h1 q T ) (fun f => ?_)
          refine cw_cut (lw6E l c i (q :: T) en' ck) ?_ (fun f => lw6t_1 l c i en' ck f hd hl40 h1 q T )
          refine cw_blk _ ?_
          refine cw_cut (lw6A l c i (q :: T) en ck a0) (lw6y_1 l c i en ck f hd hl40 h1 t a0 true d hx q T ) (fun f => ?_)
          refine cw_cut (lw6A l c i (q :: T) en ck a) (by rw [ha]; exact lw6z_11 l c i en ck f hd hl40 h1 t a0 d hx q T ) (fun f => ?_)
          refine cw_cut (lw6B l c i (q :: T) (((q :: T) : List (Bl × Nat)) ++ ([] : List (Bl × Nat))) en en' (ck + List.length ([] : List (Bl × Nat))) a e []) (lw6w_10 l c i en ck f hd hl40 h1 t a0 true d hx q T a e [] en' hg hD) (fun f => ?_)
          refine cw_cut (lw6C l c i (q :: T) en' ck e []) (lw6v_100 l c i en ck f hd hl40 h1 t a0 true d hx q T a e en' hg hT9 hD) (fun f => ?_)
          exact lw6u_10 l c i en' ck f hd hl40 h1 q T e
        | cons u us =>
          refine ⟨(q :: T), ck, (by simp), ?_⟩
          refine cw_cut (lw6E l c i (q :: T) en ck) (lw6x_1 l c i en ck f hd hl40 h1 q T ) (fun f => ?_)
          refine cw_cut (lw6E l c i (q :: T) en' ck) ?_ (fun f => lw6t_1 l c i en' ck f hd hl40 h1 q T )
          refine cw_blk _ ?_
          refine cw_cut (lw6A l c i (q :: T) en ck a0) (lw6y_1 l c i en ck f hd hl40 h1 t a0 true d hx q T ) (fun f => ?_)
          refine cw_cut (lw6A l c i (q :: T) en ck a) (by rw [ha]; exact lw6z_11 l c i en ck f hd hl40 h1 t a0 d hx q T ) (fun f => ?_)
          refine cw_cut (lw6B l c i (q :: T) (((q :: T) : List (Bl × Nat)) ++ ([] : List (Bl × Nat))) en en' (ck + List.length ([] : List (Bl × Nat))) a e (u :: us)) (lw6w_11 l c i en ck f hd hl40 h1 t a0 true d hx q T u us a e [] en' hg hD) (fun f => ?_)
          refine cw_cut (lw6C l c i (q :: T) en' ck e (u :: us)) (lw6v_110 l c i en ck f hd hl40 h1 t a0 true d hx q T u us a e en' hg hT9 hD) (fun f => ?_)
          exact lw6u_11 l c i en' ck f hd hl40 h1 q T u us e
      | cons p F =>
        cases o with
        | nil =>
          refine ⟨(q :: (T ++ p :: F)), (ck + (F.length + 1)), (by simp), ?_⟩
          refine cw_cut (lw6E l c i (q :: T) en ck) (lw6x_1 l c i en ck f hd hl40 h1 q T ) (fun f => ?_)
          refine cw_cut (lw6E l c i (q :: (T ++ p :: F)) en' (ck + (F.length + 1))) ?_ (fun f => lw6t_1 l c i en' (ck + (F.length + 1)) f hd hl40 h1 q (T ++ p :: F) )
          refine cw_blk _ ?_
          refine cw_cut (lw6A l c i (q :: T) en ck a0) (lw6y_1 l c i en ck f hd hl40 h1 t a0 true d hx q T ) (fun f => ?_)
          refine cw_cut (lw6A l c i (q :: T) en ck a) (by rw [ha]; exact lw6z_11 l c i en ck f hd hl40 h1 t a0 d hx q T ) (fun f => ?_)
          refine cw_cut (lw6B l c i (q :: T) (((q :: T) : List (Bl × Nat)) ++ ((p :: F) : List (Bl × Nat))) en en' (ck + List.length ((p :: F) : List (Bl × Nat))) a e []) (lw6w_10 l c i en ck f hd hl40 h1 t a0 true d hx q T a e (p :: F) en' hg hD) (fun f => ?_)
          refine cw_cut (lw6C l c i (q :: (T ++ p :: F)) en' (ck + (F.length + 1)) e []) (lw6v_101 l c i en ck f hd hl40 h1 t a0 true d hx q T p F a e en' hg hT9 hD) (fun f => ?_)
          exact lw6u_10 l c i en' (ck + (F.length + 1)) f hd hl40 h1 q (T ++ p :: F) e
        | cons u us =>
          refine ⟨(q :: (T ++ p :: F)), (ck + (F.length + 1)), (by simp), ?_⟩
          refine cw_cut (lw6E l c i (q :: T) en ck) (lw6x_1 l c i en ck f hd hl40 h1 q T ) (fun f => ?_)
          refine cw_cut (lw6E l c i (q :: (T ++ p :: F)) en' (ck + (F.length + 1))) ?_ (fun f => lw6t_1 l c i en' (ck + (F.length + 1)) f hd hl40 h1 q (T ++ p :: F) )
          refine cw_blk _ ?_
          refine cw_cut (lw6A l c i (q :: T) en ck a0) (lw6y_1 l c i en ck f hd hl40 h1 t a0 true d hx q T ) (fun f => ?_)
          refine cw_cut (lw6A l c i (q :: T) en ck a) (by rw [ha]; exact lw6z_11 l c i en ck f hd hl40 h1 t a0 d hx q T ) (fun f => ?_)
          refine cw_cut (lw6B l c i (q :: T) (((q :: T) : List (Bl × Nat)) ++ ((p :: F) : List (Bl × Nat))) en en' (ck + List.length ((p :: F) : List (Bl × Nat))) a e (u :: us)) (lw6w_11 l c i en ck f hd hl40 h1 t a0 true d hx q T u us a e (p :: F) en' hg hD) (fun f => ?_)
          refine cw_cut (lw6C l c i (q :: (T ++ p :: F)) en' (ck + (F.length + 1)) e (u :: us)) (lw6v_111 l c i en ck f hd hl40 h1 t a0 true d hx q T u us p F a e en' hg hT9 hD) (fun f => ?_)
          exact lw6u_11 l c i en' (ck + (F.length + 1)) f hd hl40 h1 q (T ++ p :: F) u us e
set_option maxRecDepth 1000000 in
set_option maxHeartbeats 32000000 in
theorem writes_fn (l : List A6) (c : Nat) : ∃ r, FnS Try.prog 0 8 [.slice (some ⟨0, 0, none⟩) l.length c] (heap 1 [(0, .win (l.flatMap layA6.g) layA6.k)]) 1 r ∧ ∃ H m wr, r = .ret (.bool true) H m wr ∧ ∀ k ∈ wr, 1 ≤ k := by
  have hpl : plainL (l.flatMap layA6.g) = true := flat_plain layA6.g layA6.plain _
  refine fn_sx mixed tbLw2 [0] Try.func8 (c := bodyOf Try.f8) (by kernel_rfl) ?_
  refine Exists.intro (⟨0, c, [], l, []⟩, ()) (And.intro ⟨rfl, ⟨(by show _ = some ([] ++ l.flatMap layA6.g ++ []); rw [List.append_nil]; rfl), rfl, rfl⟩, trivial⟩ ?_)
  refine ifK (fun g => ?_) (fun g => ?_)
  · exact ⟨_, _, _, rfl, wr_ge rfl⟩
  obtain ⟨hl40, hd⟩ := longA_no g
  have hl40 : l.length ≤ 40 := hl40
  refine loop_goX (lw6S l c) (fun x => l.length - x.1) (fun x => x.1 ≤ l.length ∧ goodT x.2.1 ∧ x.2.1.length ≤ 1000 * x.1) (0, [], 0, 0) ⟨Nat.zero_le _, ⟨List.nodup_nil, fun p hp => by cases hp⟩, Nat.le_refl _⟩ (rc_slots [1, 2, 3] rfl rfl rfl (fun l e => by cases e) (by decide) (by decide) rfl rfl (wr_of rfl) ⟨⟨_, rfl, .sl _ _ _ _ _ rfl⟩, ⟨_, rfl, .ptr _ _ _ rfl⟩, ⟨_, rfl, .ptr _ _ _ rfl⟩, ⟨_, rfl, .int _ _⟩, trivial⟩ ⟨⟨by decide, _, rfl, .sameW (hpl)⟩, ⟨by decide, _, rfl, map_ro1 [] 0⟩, ⟨by decide, _, rfl, pbox_ro 1 1 (by exact rfl) 0⟩, ⟨by decide, _, rfl, .same rfl⟩, trivial⟩ .nil) ?_
  rintro ⟨i, T, en, ck⟩ f ⟨hi, hg, hTl⟩
  have hi : i ≤ l.length := hi
  have hg : goodT T := hg
  have hTl : T.length ≤ 1000 * i := hTl
  have hT9 : T.length ≤ 900000000 := by omega
  by_cases h1 : i < l.length
  · obtain ⟨x, hx⟩ : ∃ x, l[i] = x := ⟨_, rfl⟩
    obtain ⟨_, _, _, hdl⟩ := fact6 hd i h1 hx
    obtain ⟨t, a0, raw, d⟩ := x
    have hdl : (bs d).length ≤ 3000 := hdl
    obtain ⟨a, ha⟩ : ∃ a : Int, a = bif raw then a0 else IntKind.i64.wrap ((en : Int) + pickI a0 20000) := ⟨_, rfl⟩
    obtain ⟨D, hD⟩ : ∃ D, wrD en T a t (bs d) = D := ⟨_, rfl⟩
    have hgd : goodT (T ++ D.2.2.1) := by rw [← hD]; exact wrD_good hg
    obtain ⟨hF1, _⟩ : D.2.2.1.length ≤ 1000 ∧ D.2.1.length ≤ 10000 := by rw [← hD]; exact wrD_len hdl
    have hln : (T ++ D.2.2.1).length ≤ 1000 * (i + 1) := by rw [List.length_append]; omega
    obtain ⟨e, o, F, en'⟩ := D
    obtain ⟨T', ck', hT', hcw⟩ := lw6_body l c i en ck f hd hl40 h1 t a0 raw d hx T hg hT9 a e ha o F en' hD
    subst hT'
    refine hcw.mono fun x s1 hk => ?_
    cases x with
    | normal => obtain ⟨f', hr⟩ := hk; exact ⟨(i + 1, T ++ F, en', ck'), ⟨h1, hgd, hln⟩, (by show l.length - (i + 1) < l.length - i; omega), f', hr⟩
    | _ => exact hk.elim
  · have e1 : i = l.length := by omega
    subst e1
    cases T with
    | nil =>
      refine sx_ok tbLw2 [0] 1 _ none mixed _ _ _ ?_
      refine ifK (fun g => absurd (of_decide_eq_true g) (by omega)) (fun _ => ?_)
      refine And.intro rfl (rc_end (rc_slots [] rfl rfl rfl (fun l e => by cases e) (by decide) (by decide) rfl rfl (wr_of rfl) (d := 7) (d2 := 1) (lv := [(0, .slice (some ⟨0, 0, none⟩) l.length c)]) (bs := [(0, .win (l.flatMap layA6.g) layA6.k)]) (W := []) (m := 1) (df := []) ⟨⟨_, rfl, .sl _ _ _ _ _ rfl⟩, trivial⟩ ⟨⟨by decide, _, rfl, .sameW (hpl)⟩, trivial⟩ .nil) (fun f => ?_))
      exact ⟨_, _, _, rfl, wr_ge rfl⟩
    | cons q T =>
      refine sx_ok tbLw2 [0] 1 _ none mixed _ _ _ ?_
      refine ifK (fun g => absurd (of_decide_eq_true g) (by omega)) (fun _ => ?_)
      refine And.intro rfl (rc_end (rc_slots [] rfl rfl rfl (fun l e => by cases e) (by decide) (by decide) rfl rfl (wr_of rfl) (d := 7) (d2 := 1) (lv := [(0, .slice (some ⟨0, 0, none⟩) l.length c)]) (bs := [(0, .win (l.flatMap layA6.g) layA6.k)]) (W := []) (m := 1) (df := []) ⟨⟨_, rfl, .sl _ _ _ _ _ rfl⟩, trivial⟩ ⟨⟨by decide, _, rfl, .sameW (hpl)⟩, trivial⟩ .nil) (fun f => ?_))
      exact ⟨_, _, _, rfl, wr_ge rfl⟩
end Go.Proofs.Ytjdecbfjpkpepaa
