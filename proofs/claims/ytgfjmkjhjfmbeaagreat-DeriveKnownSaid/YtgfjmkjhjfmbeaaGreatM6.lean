/- DERIVED. The machine M, sixth part: append, copy, len; strings and bytes. -/
import Derived.Test.YtgfjmkjhjfmbeaaGreatM5
namespace Go.Proofs.YtgfjmkjhjfmbeaaGreat
open Go.RowKit

/-- The cells that a slice (or a string) shows: how many elements, and the cells. -/
def srcCells (G : Gh) (sz : Nat) (v : Value) : Option (Nat × List Value) :=
  match v with
  | .slice none n _ => bif n.beq 0 then some (0, []) else none
  | .slice (some ⟨b, o, none⟩) n _ =>
    bif n.beq 0 then some (0, []) else
    match G b with
    | some (.cells c _) => bif (o + n * sz).ble c.length then some (n, (c.drop o).take (n * sz)) else none
    | _ => none
  | .string s => bif sz.beq 1 then some (s.data.toList.length, s.data.toList.map fun b => .int .u8 b.toNat) else none
  | _ => none

/-- What the model reads of such a value. -/
structure Src (P : Program) (w : World) (sz : Nat) (v : Value) (m : Nat) (cs : List Value) : Prop where
  len : ∀ w' : World, (Builtin.lenOf v).run P w' = .ok m w'
  first : ∀ (w' : World) (k : Nat), w'.heap = w.heap → k ≤ m → (Builtin.firstCells sz k v).run P w' = .ok (cs.take (k * sz)).toArray w'
  size : cs.length = m * sz

theorem src_cells {P : Program} {w : World} {sz : Nat} {b o n c : Nat} {cs : List Value} (hl : cs.length = n * sz) (h : ∀ j v, cs[j]? = some v → w.cell? ⟨b, o + j, none⟩ = some v) : Src P w sz (.slice (some ⟨b, o, none⟩) n c) n cs := by
  refine ⟨fun w' => by simp [Builtin.lenOf], fun w' k hw hk => ?_, hl⟩
  have hk' : k * sz ≤ n * sz := Nat.mul_le_mul_right _ hk
  have := run_loadCells_list (P := P) w' ⟨b, o, none⟩ (cs.take (k * sz)) (fun j v hj => by
    rw [addr_add]
    have hj' : j < k * sz := by have := (List.getElem?_eq_some_iff.1 hj).1; simp at this; omega
    rw [List.getElem?_take_of_lt hj'] at hj
    have := h j v hj
    simpa [World.cell?, hw] using this)
  rw [show (cs.take (k * sz)).length = k * sz by simp; omega] at this
  simp [Builtin.firstCells, this]

theorem src_nil {P : Program} {w : World} {sz : Nat} {a : Option Addr} {c : Nat} : Src P w sz (.slice a 0 c) 0 [] := by
  refine ⟨fun w' => by simp [Builtin.lenOf], fun w' k hw hk => ?_, by simp⟩
  have hk : k = 0 := by omega
  subst hk
  cases a with
  | none => simp [Builtin.firstCells]
  | some a => simp [Builtin.firstCells, loadCells, loadCellsFrom]

theorem src_string {P : Program} {w : World} {s : ByteArray} : Src P w 1 (.string s) s.data.toList.length (s.data.toList.map fun b => .int .u8 b.toNat) := by
  refine ⟨fun w' => rfl, fun w' k hw hk => ?_, by rw [List.length_map, Nat.mul_one]⟩
  have e : (s.extract 0 k).data = s.data.extract 0 k := ByteArray.data_extract
  show Result.ok ((s.extract 0 k).data.map fun b => Value.int .u8 b.toNat) w' = _
  rw [e, Nat.mul_one]
  congr 1
  apply Array.ext'
  rw [Array.toList_map, Array.toList_extract, List.extract_eq_take_drop, List.drop_zero, Nat.sub_zero, List.map_take]

theorem srcCells_ok {P : Program} {E : Env} {G : Gh} {w : World} (h : HR P E G w) {sz m : Nat} {v v' : Value} {cs : List Value} (hv : VR E v v') (hs : srcCells G sz v = some (m, cs)) :
    ∃ cs', Src P w sz v' m cs' ∧ VL E cs cs' := by
  unfold srcCells at hs
  split at hs
  · rename_i n c
    cases hv
    cases hn : n.beq 0 with
    | false => simp [hn] at hs
    | true =>
      have : n = 0 := Nat.eq_of_beq_eq_true hn
      subst this
      simp at hs
      obtain ⟨rfl, rfl⟩ := hs
      exact ⟨[], src_nil, .nil⟩
  · rename_i b o n c
    cases hn : n.beq 0 with
    | true =>
      have : n = 0 := Nat.eq_of_beq_eq_true hn
      subst this
      simp at hs
      obtain ⟨rfl, rfl⟩ := hs
      obtain ⟨hb, ⟨_, rfl⟩ | ⟨_, c', rfl, _⟩ | ⟨_, _, o', rfl⟩⟩ := hv.slice_inv
      all_goals exact ⟨[], src_nil, .nil⟩
    | false =>
      have hn0 : n ≠ 0 := fun e => by rw [e] at hn; simp at hn
      simp only [hn, cond_false] at hs
      cases hg : G b with
      | none => simp [hg] at hs
      | some ob =>
        cases ob with
        | cells cc e =>
          simp only [hg] at hs
          cases hb : (o + n * sz).ble cc.length with
          | false => simp [hb] at hs
          | true =>
            simp only [hb, cond_true, Option.some.injEq, Prod.mk.injEq] at hs
            obtain ⟨rfl, rfl⟩ := hs
            have hb' : o + n * sz ≤ cc.length := Nat.le_of_ble_eq_true hb
            obtain ⟨arr, fr, h1, h2, h3, h4, h5, h6⟩ := h.obj b _ hg
            have hsub : VL E ((cc.drop o).take (n * sz)) ((arr.toList.drop o).take (n * sz)) := by
              have := (h6.drop o).take (n * sz)
              rw [List.drop_take, List.take_take, Nat.min_eq_left (by omega)] at this
              exact this
            have hcell : ∀ j v, ((arr.toList.drop o).take (n * sz))[j]? = some v → w.cell? ⟨E.ρ b, o + j, none⟩ = some v := by
              intro j u hj
              have hj' : j < n * sz := by have := (List.getElem?_eq_some_iff.1 hj).1; simp at this; omega
              rw [List.getElem?_take_of_lt hj', List.getElem?_drop] at hj
              simp [World.cell?, h1]; simpa using hj
            have hlen : ((arr.toList.drop o).take (n * sz)).length = n * sz := by simp; omega
            obtain ⟨hbn, ⟨_, rfl⟩ | ⟨_, c', rfl, _⟩ | ⟨h0, _⟩⟩ := hv.slice_inv
            · exact ⟨_, src_cells hlen hcell, hsub⟩
            · exact ⟨_, src_cells hlen hcell, hsub⟩
            · exact absurd h0 hn0
        | _ => simp [hg] at hs
  · rename_i s
    cases hv
    cases h1 : sz.beq 1 with
    | false => simp [h1] at hs
    | true =>
      have : sz = 1 := Nat.eq_of_beq_eq_true h1
      subst this
      simp at hs
      obtain ⟨rfl, rfl⟩ := hs
      exact ⟨_, src_string, plainL_refl (List.all_eq_true.2 (by intro v hv; obtain ⟨b, _, rfl⟩ := List.mem_map.1 hv; rfl))⟩
  · cases hs

theorem Src.all {P : Program} {w : World} {sz : Nat} {v : Value} {m : Nat} {cs : List Value} (h : Src P w sz v m cs) (w' : World) (hw : w'.heap = w.heap) : (Builtin.firstCells sz m v).run P w' = .ok cs.toArray w' := by
  have := h.first w' m hw (Nat.le_refl _)
  rwa [List.take_of_length_le (by rw [h.size]; exact Nat.le_refl _)] at this

theorem run_app_grow {P : Program} {w : World} (sT xT ty e : TypeId) (d : TypeDesc) (i : TypeInfo) (z : Value) (ht : P.underlying sT = some (.slice e)) (hx : P.underlying xT = some d) (hd : ∀ k, d ≠ .int k) (hi : P.info? e = some i) (hz : i.zero = some z)
    {sb : Option Addr} {sLen sCap : Nat} {olds : List Value} {x : Value} {n : Nat} {news : List Value} (ho : Src P w i.size (.slice sb sLen sCap) sLen olds) (hn : Src P w i.size x n news)
    (hg : sCap < sLen + n) (hbytes : (sLen + n) * i.bytes ≤ 140737488355328) (h63 : sLen + n ≤ 9223372036854775807) :
    (Builtin.append_ #[sT, xT] ty #[.slice sb sLen sCap, x]).run P w =
      .ok (.slice (some ⟨w.heap.size, 0, none⟩) (sLen + n) (grownCap w (sLen + n) sCap e))
        (w.drew.alloc (.cells (olds.toArray ++ news.toArray ++ Builtin.zeroCells z.cells (grownCap w (sLen + n) sCap e - (sLen + n))) e)) := by
  have hn' : ¬ (sLen + n ≤ sCap) := by omega
  have h63' : ¬ (9223372036854775807 < ((sLen : Int) + (n : Int))) := by omega
  have h48' : ¬ (281474976710656 < Builtin.nextslicecap (sLen + n) sCap * i.bytes) := by have := growslice_fits (bytes := i.bytes) hg hbytes; omega
  have f1 := ho.all w.drew rfl
  have f2 := hn.all w.drew rfl
  have f3 := hn.len w
  have hm : ∀ w' : World, ((match d with | .int _ => true | _ => false) : Bool) = false := fun _ => by cases d <;> first | rfl | exact absurd rfl (hd _)
  have hm' := hm w
  simp [Builtin.append_, run_underlying ht, run_underlying hx, sizeOf, typeInfo, zeroValue, hi, hz, hn', h63', h48', Question.forced, f1, f2, f3, newRow, grownCap]
  congr 2
  apply Array.ext'
  simp [List.append_assoc]

theorem run_app_room {P : Program} {w : World} (sT xT ty e : TypeId) (d : TypeDesc) (i : TypeInfo) (ht : P.underlying sT = some (.slice e)) (hx : P.underlying xT = some d) (hd : ∀ k, d ≠ .int k) (hi : P.info? e = some i)
    {b o sLen sCap : Nat} {x : Value} {n : Nat} {news : List Value} (hn : Src P w i.size x n news) (hg : sLen + n ≤ sCap)
    (hc : ∀ j, j < news.length → (w.cell? ⟨b, o + sLen * i.size + j, none⟩).isSome = true) (hf : ∀ j, j < news.length → w.frozen? ⟨b, o + sLen * i.size + j, none⟩ = false) (h1 : ∀ u ∈ news, u.oneCell' = true) :
    (Builtin.append_ #[sT, xT] ty #[.slice (some ⟨b, o, none⟩) sLen sCap, x]).run P w = .ok (.slice (some ⟨b, o, none⟩) (sLen + n) sCap) (w.setCells b (o + sLen * i.size) news) := by
  have f2 := hn.all w rfl
  have f3 := hn.len w
  have hm' : ((match d with | .int _ => true | _ => false) : Bool) = false := by cases d <;> first | rfl | exact absurd rfl (hd _)
  have hst := run_storeCells_cells (P := P) b (o + sLen * i.size) news 0 w (by simpa using hc) (by simpa using hf) h1
  simp only [Nat.add_zero] at hst
  simp [Builtin.append_, run_underlying ht, run_underlying hx, sizeOf, typeInfo, hi, hg, f2, f3, addr_add, hst]

theorem run_app_none {P : Program} {w : World} (sT xT ty e : TypeId) (d : TypeDesc) (i : TypeInfo) (ht : P.underlying sT = some (.slice e)) (hx : P.underlying xT = some d) (hd : ∀ k, d ≠ .int k) (hi : P.info? e = some i)
    {a : Option Addr} {sLen sCap : Nat} {x : Value} {news : List Value} (hn : Src P w i.size x 0 news) (hg : sLen ≤ sCap) :
    (Builtin.append_ #[sT, xT] ty #[.slice a sLen sCap, x]).run P w = .ok (.slice a sLen sCap) w := by
  have hnil : news = [] := List.eq_nil_of_length_eq_zero (by rw [hn.size]; simp)
  subst hnil
  have f2 := hn.all w rfl
  have f3 := hn.len w
  have hm' : ((match d with | .int _ => true | _ => false) : Bool) = false := by cases d <;> first | rfl | exact absurd rfl (hd _)
  cases a <;> simp [Builtin.append_, run_underlying ht, run_underlying hx, sizeOf, typeInfo, hi, hg, f2, f3, storeCells]

def notInt (P : Program) (t : TypeId) : Bool := match P.underlying t with | some (.int _) => false | some _ => true | none => false
theorem notInt_spec {P : Program} {t : TypeId} (h : notInt P t = true) : ∃ d, P.underlying t = some d ∧ ∀ k, d ≠ .int k := by
  unfold notInt at h
  split at h
  · cases h
  · rename_i d hn hu; exact ⟨d, hu, fun k e => hn k (by rw [← e])⟩
  · cases h

theorem cap_sum {a m g : Nat} (s : Nat) (h : a + m ≤ g) : a * s + m * s + (g - (a + m)) * s = g * s := by
  rw [← Nat.add_mul, ← Nat.add_mul, Nat.add_sub_cancel' h]

/-- Growing: a new block of the two's cells. -/
theorem grow_sound {P : Program} {E : Env} {G : Gh} {nn : Nat} {w : World} (h : HR P E G w) {sT xT ty e : TypeId} {d : TypeDesc} {i : TypeInfo} {z : Value} (ht : P.underlying sT = some (.slice e)) (hx : P.underlying xT = some d) (hd : ∀ k, d ≠ .int k) (hi : P.info? e = some i) (hz : i.zero = some z) (hzs : z.cells.size = i.size)
    {sb : Option Addr} {sLen sCap : Nat} {olds olds' : List Value} {x : Value} {n : Nat} {news news' : List Value} (ho : Src P w i.size (.slice sb sLen sCap) sLen olds') (hn : Src P w i.size x n news') (vo : VL E olds olds') (vn : VL E news news')
    (hg : sCap < sLen + n) (hbytes : (sLen + n) * i.bytes ≤ 140737488355328) (h63 : sLen + n ≤ 9223372036854775807) {r : Result Next} (hr : r = ((Builtin.append_ #[sT, xT] ty #[.slice sb sLen sCap, x]).run P w).andThen fun v w' => .ok (.value v) w') :
    Sound1 P E G nn w r (newCells nn (olds ++ news) e (.slice (some ⟨nn, 0, none⟩) (sLen + n) U)) := by
  rw [run_app_grow sT xT ty e d i z ht hx hd hi hz ho hn hg hbytes h63] at hr
  simp only [Result.andThen_ok] at hr
  have hcap : sLen + n ≤ grownCap w (sLen + n) sCap e := grownCap_ge w _ _ _
  have hcm : grownCap w (sLen + n) sCap e ≤ maxLen := grownCap_le_maxLen w _ _ _ (by unfold maxLen; omega)
  have l1 := vo.length
  have l2 := vn.length
  have l3 := ho.size
  have l4 := hn.size
  have hsz : (olds'.toArray ++ news'.toArray ++ Builtin.zeroCells z.cells (grownCap w (sLen + n) sCap e - (sLen + n))).size = grownCap w (sLen + n) sCap e * i.size := by
    simp only [Array.size_append, List.size_toArray, size_zeroCells, hzs, l3, l4, ← Nat.add_mul]
    congr 1; omega
  refine Sound1.newD h (.inr rfl) _ _ _ i.size hr (fun hfr => or_part (w := w.drew) hfr (0, 0) (.inl rfl) (by simp [hi]) ?_ ?_) ?_
  · simp only [List.length_append, Array.size_append, List.size_toArray]; omega
  · have : (olds ++ news).length = (olds' ++ news').length := by simp [l1, l2]
    rw [this]
    simp only [Array.toList_append]
    rw [List.take_left']
    · exact vo.append vn
    · simp
  · rw [hsz]; exact slice_newU hcap hcm rfl

/-- What is known of a block's cells reaches beyond the place where these come to lie. -/
def roomy (G : Gh) (b at_ : Nat) (news : List Value) (e : TypeId) (sz : Nat) : Bool :=
  match G b with
  | some (.cells cc e') => (at_ + news.length).ble cc.length && oneL news && e'.beq e && Nat.blt 0 sz
  | _ => false

def aAppend (P : Program) (sT xT : TypeId) (s x : Value) (G : Gh) (n : Nat) : ORes :=
  match P.underlying sT with
  | some (.slice e) =>
    bif notInt P xT then
      match P.info? e with
      | some i =>
        bif i.size.beq 0 then .bad "append: no size" else
        match i.zero with
        | some z =>
          bif z.cells.size.beq i.size then
            match srcCells G i.size x with
            | some (m, news) =>
              match s with
              | .slice none l c =>
                bif l.beq 0 && c.beq 0 then
                  (bif m.beq 0 then .val s [] 0 else
                   bif decide (m * i.bytes ≤ 140737488355328) && decide (m ≤ 9223372036854775807) then newCells n news e (.slice (some ⟨n, 0, none⟩) m U) else .bad "append: size")
                else .bad "append: nil"
              | .slice (some ⟨b, o, none⟩) l c =>
                bif m.beq 0 then (bif c.beq U || l.ble c then .val s [] 0 else .bad "append: cap") else
                bif c.beq U && roomy G b (o + l * i.size) news e i.size then
                  (match G b with
                  | some (.cells cc e') => .val (.slice (some ⟨b, o, none⟩) (l + m) U) [(b, some (.cells (cc.take (o + l * i.size) ++ news ++ cc.drop (o + l * i.size + news.length)) e'))] 0
                  | _ => .bad "append: no block")
                else bif c.beq U then
                  (match G b with
                  | some (.cells cc e') =>
                    bif o.beq 0 && e'.beq e && (l * i.size).ble cc.length && oneL news && decide ((l + m) * i.bytes ≤ 140737488355328) && decide (l + m ≤ 9223372036854775807) then
                      .val (.slice (some ⟨n, 0, none⟩) (l + m) U) [(b, none), (n, some (.cells (cc.take (l * i.size) ++ news) e))] 1
                    else .bad "append: not known"
                  | _ => .bad "append: no block")
                else bif (l + m).ble c then
                  (match G b with
                  | some (.cells cc e') =>
                    bif (o + l * i.size + news.length).ble cc.length && oneL news then
                      .val (.slice (some ⟨b, o, none⟩) (l + m) c) [(b, some (.cells (cc.take (o + l * i.size) ++ news ++ cc.drop (o + l * i.size + news.length)) e'))] 0
                    else .bad "append: no room"
                  | _ => .bad "append: no block")
                else
                  (match srcCells G i.size s with
                  | some (l', olds) => bif l'.beq l && decide ((l + m) * i.bytes ≤ 140737488355328) && decide (l + m ≤ 9223372036854775807) then newCells n (olds ++ news) e (.slice (some ⟨n, 0, none⟩) (l + m) U) else .bad "append: size"
                  | none => .bad "append: olds")
              | _ => .bad "append: no slice"
            | none => .bad "append: source"
          else .bad "append: zero's size"
        | none => .bad "append: no zero"
      | none => .bad "append: no type"
    else .bad "append: of make"
  | _ => .bad "append"

/-- A block moves on: its old name is dead, a new one stands for it, in its place or in a new one. -/
theorem HR.move {P : Program} {E : Env} {G : Gh} {w w' : World} (h : HR P E G w) {m : Nat} (hm : ¬ E.dom m) {b : Nat} {o : AObj} (hg : G b = some o) (hw : w'.os = w.os ∧ w'.tape = w.tape ∧ w'.output = w.output ∧ w'.heap.size = w.heap.size)
    (hb : ∀ k, k ≠ E.ρ b → w'.heap[k]? = w.heap[k]?) {o' : AObj} (ho : OR P (E.push m (E.ρ b) (E.tot b) (E.sz b)) w' m o') :
    HR P (E.push m (E.ρ b) (E.tot b) (E.sz b)) (gset (gset G b none) m (some o')) w' ∧ Stp E (E.push m (E.ρ b) (E.tot b) (E.sz b)) [b] w w' := by
  have hl := h.live (id := b) (by rw [hg]; simp)
  have hx := Env.push_ext hm (E.ρ b) (E.tot b) (E.sz b)
  have key : ∀ k, k ≠ m → gset (gset G b none) m (some o') k ≠ none → k ≠ b ∧ G k ≠ none := fun k hk hn => by
    have hn : (if k = m then some o' else if k = b then none else G k) ≠ none := hn
    rw [if_neg hk] at hn
    by_cases hkb : k = b
    · rw [if_pos hkb] at hn; exact absurd rfl hn
    · rw [if_neg hkb] at hn; exact ⟨hkb, hn⟩
  refine ⟨⟨fun k hk => ?_, fun k hk => ?_, fun k x hx' => ?_, fun i j hi hj e => ?_⟩, ⟨hx, hw.1, hw.2.1, hw.2.2.1, Nat.le_of_eq hw.2.2.2.symm, fun k _ hk => hb k (fun e => hk b (by simp) hl e.symm), fun k h1 h2 => .inr ⟨b, by simp, hl, ?_⟩⟩⟩
  · rw [hw.2.2.2]
    rcases hk with h1 | h1
    · subst h1; rw [Env.push_ρ]; exact h.lt b hl
    · rw [hx.ρ k h1]; exact h.lt k h1
  · show (if _ then _ else if _ then _ else _) = none
    rw [if_neg (fun e => hk (.inl e))]
    split
    · rfl
    · exact h.dom k (fun e => hk (.inr e))
  · by_cases hk : k = m
    · subst hk
      have : some o' = some x := by have := hx'; simp only [gset, if_true] at this; exact this
      cases this; exact ho
    · obtain ⟨hkb, hn⟩ := key k hk (by rw [hx']; simp)
      have hx2 : (if k = m then some o' else if k = b then none else G k) = some x := hx'
      rw [if_neg hk, if_neg hkb] at hx2
      have hkl := h.live hn
      exact (h.obj k x hx2).mono hx hkl (hb _ (fun e => hkb (h.inj k b hn (by rw [hg]; simp) e)))
  · by_cases hie : i = m <;> by_cases hje : j = m
    · rw [hie, hje]
    · obtain ⟨hjb, hjn⟩ := key j hje hj
      have hjl := h.live hjn
      rw [hie, Env.push_ρ, hx.ρ j hjl] at e
      exact absurd (h.inj j b hjn (by rw [hg]; simp) e.symm) hjb
    · obtain ⟨hib, hin⟩ := key i hie hi
      have hil := h.live hin
      rw [hje, Env.push_ρ, hx.ρ i hil] at e
      exact absurd (h.inj i b hin (by rw [hg]; simp) e) hib
    · obtain ⟨_, hin⟩ := key i hie hi
      obtain ⟨_, hjn⟩ := key j hje hj
      rw [hx.ρ i (h.live hin), hx.ρ j (h.live hjn)] at e
      exact h.inj i j hin hjn e
  · rcases h2 with h2 | h2
    · subst h2; exact Env.push_ρ _ _ _ _ _
    · exact absurd h2 h1

/-- A new block, the old one's name dead besides. -/
theorem HR.newKill {P : Program} {E : Env} {G : Gh} {w w1 : World} (h : HR P E G w) {m : Nat} (hm : ¬ E.dom m) {b : Nat} (hg : G b ≠ none) (ob : Obj) (o : AObj) (t s : Nat) (ho : OR P (E.push m w.heap.size t s) (w.drew.alloc ob) m o) (hw : w1 = w.drew.alloc ob) :
    HR P (E.push m w.heap.size t s) (gset (gset G b none) m (some o)) w1 ∧ Stp E (E.push m w.heap.size t s) [b, m] w w1 := by
  subst hw
  obtain ⟨h1, h2⟩ := h.drew.new hm ob o t s ho
  have hl := h.live hg
  refine ⟨h1.sub (fun k x hx => ?_), Stp.sub (W := []) ⟨h2.ext, h2.os, h2.tape, h2.output, h2.size, h2.block, h2.fresh⟩ (fun x hx => by cases hx)⟩
  have hx : (if k = m then some o else if k = b then none else G k) = some x := hx
  show (if k = m then some o else G k) = some x
  by_cases hk : k = m
  · rw [if_pos hk] at hx ⊢; exact hx
  · rw [if_neg hk] at hx ⊢
    by_cases hkb : k = b
    · rw [if_pos hkb] at hx; cases hx
    · rwa [if_neg hkb] at hx

theorem aAppend_ok {P : Program} {E : Env} {G : Gh} {nn : Nat} {w : World} (h : HR P E G w) (sT xT ty : TypeId) {s s' x x' : Value} (hs : VR E s s') (hx : VR E x x') :
    Sound1 P E G nn w (((Builtin.append_ #[sT, xT] ty #[s', x']).run P w).andThen fun v w' => .ok (.value v) w') (aAppend P sT xT s x G nn) := by
  unfold aAppend
  split
  · rename_i e ht
    cases hni : notInt P xT with
    | false => trivial
    | true =>
      obtain ⟨d, hxd, hd⟩ := notInt_spec hni
      simp only [cond_true]
      cases hi : P.info? e with
      | none => trivial
      | some i =>
        simp only []
        cases hsz : i.size.beq 0 with
        | true => trivial
        | false =>
          simp only [cond_false]
          cases hz : i.zero with
          | none => trivial
          | some z =>
            simp only []
            cases hzs : z.cells.size.beq i.size with
            | false => trivial
            | true =>
              have hzs : z.cells.size = i.size := Nat.eq_of_beq_eq_true hzs
              simp only [cond_true]
              cases hsrc : srcCells G i.size x with
              | none => trivial
              | some mn =>
                obtain ⟨m, news⟩ := mn
                obtain ⟨news', hn, vn⟩ := srcCells_ok h hx hsrc
                simp only []
                split
                · rename_i l c
                  cases hs
                  cases hl : (l.beq 0 && c.beq 0) with
                  | false => trivial
                  | true =>
                    simp only [Bool.and_eq_true] at hl
                    have hl0 : l = 0 := Nat.eq_of_beq_eq_true hl.1
                    have hc0 : c = 0 := Nat.eq_of_beq_eq_true hl.2
                    subst hl0; subst hc0
                    simp only [cond_true]
                    cases hm : m.beq 0 with
                    | true =>
                      have hm : m = 0 := Nat.eq_of_beq_eq_true hm
                      subst hm
                      refine Sound1.pure h (v' := .slice none 0 0) ?_ (.snil _ _)
                      rw [run_app_none sT xT ty e d i ht hxd hd hi hn (Nat.le_refl _)]; rfl
                    | false =>
                      have hm0 : m ≠ 0 := fun e => by rw [e] at hm; simp at hm
                      simp only [cond_false]
                      cases hb : (decide (m * i.bytes ≤ 140737488355328) && decide (m ≤ 9223372036854775807)) with
                      | false => trivial
                      | true =>
                        simp only [Bool.and_eq_true, decide_eq_true_eq] at hb
                        have := grow_sound (nn := nn) h ht hxd hd hi hz hzs (src_nil (a := none) (c := 0)) hn .nil vn (by omega) (by rw [Nat.zero_add]; exact hb.1) (by omega) rfl (ty := ty) (sT := sT)
                        simpa using this
                · rename_i b o l c
                  obtain ⟨hbn, hsinv⟩ := hs.slice_inv
                  cases hm : m.beq 0 with
                  | true =>
                    have hm : m = 0 := Nat.eq_of_beq_eq_true hm
                    subst hm
                    simp only [cond_true]
                    cases hc : (c.beq U || l.ble c) with
                    | false => trivial
                    | true =>
                      simp only [cond_true]
                      have fin : ∀ (a : Option Addr) (c' : Nat), l ≤ c' → s' = .slice a l c' → Sound1 P E G nn w (((Builtin.append_ #[sT, xT] ty #[s', x']).run P w).andThen fun v w' => .ok (.value v) w') (.val (.slice (some ⟨b, o, none⟩) l c) [] 0) := by
                        intro a c' hlc he
                        refine Sound1.pure h (v' := s') ?_ hs
                        rw [he, run_app_none sT xT ty e d i ht hxd hd hi hn hlc]; rfl
                      rcases hsinv with ⟨hcU, rfl⟩ | ⟨_, c', rfl, h1, _, _⟩ | ⟨rfl, _, o', rfl⟩
                      · refine fin _ _ ?_ rfl
                        have hcb : c.beq U = false := by cases hb : c.beq U; rfl; exact absurd (Nat.eq_of_beq_eq_true hb) hcU
                        rw [hcb, Bool.false_or] at hc
                        exact Nat.le_of_ble_eq_true hc
                      · exact fin _ _ h1 rfl
                      · exact fin _ _ (Nat.le_refl _) rfl
                  | false =>
                    have hm0 : m ≠ 0 := fun e => by rw [e] at hm; simp at hm
                    simp only [cond_false]
                    cases hro : (c.beq U && roomy G b (o + l * i.size) news e i.size) with
                    | true =>
                      simp only [Bool.and_eq_true] at hro
                      have hcU : c = U := Nat.eq_of_beq_eq_true hro.1
                      subst hcU
                      simp only [cond_true]
                      have hrm := hro.2
                      unfold roomy at hrm
                      cases hg : G b with
                      | none => rw [hg] at hrm; cases hrm
                      | some ob =>
                        rw [hg] at hrm
                        cases ob <;> first | exact True.intro | skip
                        rename_i cc e'
                        simp only [Bool.and_eq_true] at hrm
                        obtain ⟨⟨⟨r1, r2⟩, r3⟩, r4⟩ := hrm
                        have hfit : o + l * i.size + news.length ≤ cc.length := Nat.le_of_ble_eq_true r1
                        have hee : e' = e := Nat.eq_of_beq_eq_true r3
                        have hpos : 0 < i.size := Nat.le_of_ble_eq_true r4
                        subst hee
                        have hor := h.obj b _ hg
                        obtain ⟨arr, fr, q1, q2, q3, q4, q5, q6⟩ := id hor
                        have hsz : i.size = E.sz b := by simpa [hi] using q4
                        have l2 := vn.length
                        have l4 := hn.size
                        rcases hsinv with ⟨hne, _⟩ | ⟨_, c', rfl, h1, h2, h3⟩ | ⟨rfl, hc0, _⟩
                        · exact absurd rfl hne
                        · have hroom : l + m ≤ c' := by
                            have q : (l + m) * i.size ≤ c' * i.size := by
                              rw [Nat.add_mul]
                              have : c' * i.size = E.tot b - o := by rw [hsz]; omega
                              omega
                            exact Nat.le_of_mul_le_mul_right q hpos
                          rw [run_app_room sT xT ty e' d i ht hxd hd hi (b := E.ρ b) (o := o) hn hroom
                            (fun j hj => by obtain ⟨v', z1, _⟩ := or_cells_at hor (o + l * i.size + j) _ (List.getElem?_eq_getElem (by omega)); rw [z1]; rfl)
                            (fun j hj => by obtain ⟨v', _, z2, _⟩ := or_cells_at hor (o + l * i.size + j) _ (List.getElem?_eq_getElem (by omega)); exact z2)
                            (fun u hu => by have := vn.one; rw [r2] at this; exact List.all_eq_true.1 this u hu)]
                          obtain ⟨t1, t2, t3, t4⟩ := setCells_rest (E.ρ b) news' (o + l * i.size) w
                          obtain ⟨k1, k2⟩ := h.put hg ⟨t1, t2, t3, t4⟩ (fun k hk => setCells_other _ _ _ _ _ hk) (or_write hor (o := o + l * i.size) vn hfit)
                          exact fun _ => ⟨_, _, E, rfl, .inl ⟨_, rfl, .su b o _ c' hbn hroom h2 h3⟩, dom0, k1, k2, fun u hu hl => by simp at hu; subst hu; rw [hg]; simp⟩
                        · exfalso
                          rcases hc0 with ⟨_, h0⟩ | h0
                          · have : 1 ≤ m := by omega
                            have : 1 * i.size ≤ m * i.size := Nat.mul_le_mul_right _ this
                            omega
                          · simp [U] at h0
                    | false =>
                    simp only [cond_false]
                    cases hcU : c.beq U with
                    | true =>
                      have hcU : c = U := Nat.eq_of_beq_eq_true hcU
                      subst hcU
                      simp only [cond_true]
                      cases hg : G b with
                      | none => trivial
                      | some ob =>
                        cases ob <;> first | exact True.intro | skip
                        rename_i cc e'
                        simp only []
                        cases hb : (o.beq 0 && e'.beq e && (l * i.size).ble cc.length && oneL news && decide ((l + m) * i.bytes ≤ 140737488355328) && decide (l + m ≤ 9223372036854775807)) with
                        | false => trivial
                        | true =>
                          simp only [Bool.and_eq_true, decide_eq_true_eq] at hb
                          obtain ⟨⟨⟨⟨⟨b1, b2⟩, b3⟩, b4⟩, b5⟩, b6⟩ := hb
                          have ho : o = 0 := Nat.eq_of_beq_eq_true b1
                          have he : e' = e := Nat.eq_of_beq_eq_true b2
                          have hlc : l * i.size ≤ cc.length := Nat.le_of_ble_eq_true b3
                          subst ho; subst he
                          simp only [cond_true]
                          have hor := h.obj b _ hg
                          have hgn : G b ≠ none := by rw [hg]; simp
                          -- the new array
                          have growth : ∀ (a : Option Addr) (c' : Nat) (olds' : List Value), c' < l + m → s' = .slice a l c' → Src P w i.size s' l olds' → VL E (cc.take (l * i.size)) olds' →
                              Sound1 P E G nn w (((Builtin.append_ #[sT, xT] ty #[s', x']).run P w).andThen fun v w' => .ok (.value v) w') (.val (.slice (some ⟨nn, 0, none⟩) (l + m) U) [(b, none), (nn, some (.cells (cc.take (l * i.size) ++ news) e'))] 1) := by
                            intro a c' olds' hcl hse hos vo
                            subst hse
                            rw [run_app_grow sT xT ty e' d i z ht hxd hd hi hz hos hn hcl b5 b6]
                            have hcap : l + m ≤ grownCap w (l + m) c' e' := grownCap_ge w _ _ _
                            have hcm : grownCap w (l + m) c' e' ≤ maxLen := grownCap_le_maxLen w _ _ _ (by unfold maxLen; omega)
                            have l1 := vo.length
                            have l2 := vn.length
                            have l3 := hos.size
                            have l4 := hn.size
                            have hsz : (olds'.toArray ++ news'.toArray ++ Builtin.zeroCells z.cells (grownCap w (l + m) c' e' - (l + m))).size = grownCap w (l + m) c' e' * i.size := by
                              simp only [Array.size_append, List.size_toArray, size_zeroCells, hzs, l3, l4]
                              exact cap_sum i.size hcap
                            refine fun hk => ?_
                            have hfr := hk (by omega)
                            have hor' : OR P (E.push nn w.heap.size (olds'.toArray ++ news'.toArray ++ Builtin.zeroCells z.cells (grownCap w (l + m) c' e' - (l + m))).size i.size) (w.drew.alloc (.cells (olds'.toArray ++ news'.toArray ++ Builtin.zeroCells z.cells (grownCap w (l + m) c' e' - (l + m))) e')) nn (.cells (cc.take (l * i.size) ++ news) e') := by
                              refine or_part (w := w.drew) hfr (0, 0) (.inl rfl) (by simp [hi]) ?_ ?_
                              · simp only [List.length_append, Array.size_append, List.size_toArray]; omega
                              · have : (cc.take (l * i.size) ++ news).length = (olds' ++ news').length := by simp only [List.length_append]; omega
                                rw [this]
                                simp only [Array.toList_append]
                                rw [List.take_left']
                                · exact vo.append vn
                                · simp
                            obtain ⟨k1, k2⟩ := h.newKill hfr hgn _ _ _ _ hor' rfl
                            refine ⟨_, _, _, rfl, .inl ⟨_, rfl, ?_⟩, dom1, k1, k2, fun u hu hl => ?_⟩
                            · rw [hsz]; exact slice_newU hcap hcm rfl
                            · simp at hu; rcases hu with rfl | rfl
                              · exact hgn
                              · exact absurd hl hfr
                          obtain ⟨arr, fr, q1, q2, q3, q4, q5, q6⟩ := id hor
                          have hsz : i.size = E.sz b := by simpa [hi] using q4
                          have vo : VL E (cc.take (l * i.size)) (arr.toList.take (l * i.size)) := by
                            have := q6.take (l * i.size)
                            rwa [List.take_take, Nat.min_eq_left hlc] at this
                          rcases hsinv with ⟨hne, _⟩ | ⟨_, c', rfl, h1, h2, h3⟩ | ⟨rfl, _, o', rfl⟩
                          · exact absurd rfl hne
                          · have hos : Src P w i.size (.slice (some ⟨E.ρ b, 0, none⟩) l c') l (arr.toList.take (l * i.size)) := by
                              refine src_cells (by simp; omega) (fun j v hj => ?_)
                              have hj' : j < l * i.size := by have := (List.getElem?_eq_some_iff.1 hj).1; simp at this; omega
                              rw [List.getElem?_take_of_lt hj'] at hj
                              simp [World.cell?, q1]; simpa using hj
                            rcases Nat.lt_or_ge c' (l + m) with hcl | hcl
                            · exact growth _ c' _ hcl rfl hos vo
                            · -- in its place
                              have l2 := vn.length
                              have l4 := hn.size
                              have hfit : l * i.size + news'.length ≤ arr.size := by
                                rw [l4, ← Nat.add_mul, q3]
                                have : (l + m) * i.size ≤ c' * i.size := Nat.mul_le_mul_right _ hcl
                                rw [hsz] at this ⊢; omega
                              have hfz : ∀ j, j < arr.size → w.frozen? ⟨E.ρ b, j, none⟩ = false := by
                                intro j hj
                                simp only [World.frozen?, q1]
                                obtain ⟨lo, hi2⟩ := fr
                                rcases q2 with q2 | ⟨q2, _⟩
                                · cases q2; simp
                                · simp at q2 ⊢; omega
                              rw [run_app_room sT xT ty e' d i ht hxd hd hi (b := E.ρ b) (o := 0) hn hcl
                                (fun j hj => by simp only [World.cell?, q1]; simp; omega) (fun j hj => hfz _ (by omega)) (fun u hu => by have := vn.one; rw [b4] at this; exact List.all_eq_true.1 this u hu)]
                              simp only [Nat.zero_add, Result.andThen_ok]
                              refine fun hk => ?_
                              have hfr := hk (by omega)
                              obtain ⟨r1, r2, r3, r4⟩ := setCells_rest (E.ρ b) news' (l * i.size) w
                              have hheap := setCells_heap (E.ρ b) news' (l * i.size) w arr e' fr q1 hfit
                              have hor' : OR P (E.push nn (E.ρ b) (E.tot b) (E.sz b)) (w.setCells (E.ρ b) (l * i.size) news') nn (.cells (cc.take (l * i.size) ++ news) e') := by
                                refine ⟨_, fr, by rw [Env.push_ρ]; exact hheap, ?_, ?_, ?_, ?_, ?_⟩
                                · refine q2.imp (fun x => x) (fun x => ⟨?_, x.2⟩); have := x.1; simp; omega
                                · rw [Env.push_tot, ← q3]; simp; omega
                                · rw [Env.push_sz]; exact q4
                                · simp; omega
                                · refine VL.ext (Env.push_ext hfr _ _ _) ?_
                                  have e1 : (cc.take (l * i.size) ++ news).length = (arr.toList.take (l * i.size) ++ news').length := by simp only [List.length_append, List.length_take, Array.length_toList]; omega
                                  rw [e1]
                                  have : (arr.toList.take (l * i.size) ++ news' ++ arr.toList.drop (l * i.size + news'.length)).toArray.toList = (arr.toList.take (l * i.size) ++ news') ++ arr.toList.drop (l * i.size + news'.length) := rfl
                                  rw [this, List.take_left']
                                  · exact vo.append vn
                                  · rfl
                              obtain ⟨k1, k2⟩ := h.move hfr hg ⟨r1, r2, r3, r4⟩ (fun k hk => setCells_other _ _ _ _ _ hk) hor'
                              refine ⟨_, _, _, rfl, .inl ⟨_, rfl, ?_⟩, dom1, k1, k2.sub (fun x hx _ => by simp at hx ⊢; exact .inl hx), fun u hu hl => ?_⟩
                              · have := VR.su (E := E.push nn (E.ρ b) (E.tot b) (E.sz b)) nn 0 (l + m) c' (Env.push_dom _ _ _ _ _) hcl h2 (by rw [Env.push_sz, Env.push_tot]; exact h3)
                                rwa [Env.push_ρ] at this
                              · simp at hu; rcases hu with rfl | rfl
                                · exact hgn
                                · exact absurd hl hfr
                          · exact growth _ 0 [] (by omega) rfl src_nil (by simp; exact .nil)
                    | false =>
                      have hcU' : c ≠ U := fun e => by rw [e] at hcU; simp at hcU
                      simp only [cond_false]
                      cases hroom : (l + m).ble c with
                      | true =>
                        have hroom : l + m ≤ c := Nat.le_of_ble_eq_true hroom
                        simp only [cond_true]
                        cases hg : G b with
                        | none => trivial
                        | some ob =>
                          cases ob <;> first | exact True.intro | skip
                          rename_i cc e'
                          simp only []
                          cases hb : ((o + l * i.size + news.length).ble cc.length && oneL news) with
                          | false => trivial
                          | true =>
                            simp only [Bool.and_eq_true] at hb
                            have hfit : o + l * i.size + news.length ≤ cc.length := Nat.le_of_ble_eq_true hb.1
                            have hor := h.obj b _ hg
                            have l2 := vn.length
                            rcases hsinv with ⟨_, rfl⟩ | ⟨he, _⟩ | ⟨rfl, hc0, _⟩
                            · rw [run_app_room sT xT ty e d i ht hxd hd hi (b := E.ρ b) (o := o) hn hroom
                                (fun j hj => by obtain ⟨v', z1, _⟩ := or_cells_at hor (o + l * i.size + j) _ (List.getElem?_eq_getElem (by omega)); rw [z1]; rfl)
                                (fun j hj => by obtain ⟨v', _, z2, _⟩ := or_cells_at hor (o + l * i.size + j) _ (List.getElem?_eq_getElem (by omega)); exact z2)
                                (fun u hu => by have := vn.one; rw [hb.2] at this; exact List.all_eq_true.1 this u hu)]
                              obtain ⟨r1, r2, r3, r4⟩ := setCells_rest (E.ρ b) news' (o + l * i.size) w
                              obtain ⟨k1, k2⟩ := h.put hg ⟨r1, r2, r3, r4⟩ (fun k hk => setCells_other _ _ _ _ _ hk) (or_write hor (o := o + l * i.size) vn hfit)
                              exact fun _ => ⟨_, _, E, rfl, .inl ⟨_, rfl, .sl b o _ c hbn hcU'⟩, dom0, k1, k2, fun u hu hl => by simp at hu; subst hu; rw [hg]; simp⟩
                            · exact absurd he hcU'
                            · exfalso; rcases hc0 with hc0 | hc0
                              · exact hcU' hc0.1
                              · omega
                      | false =>
                        have hroom : c < l + m := by
                          rcases Nat.lt_or_ge c (l + m) with h1 | h1
                          · exact h1
                          · rw [Nat.ble_eq_true_of_le h1] at hroom; cases hroom
                        simp only [cond_false]
                        cases hso : srcCells G i.size (.slice (some ⟨b, o, none⟩) l c) with
                        | none => trivial
                        | some lo =>
                          obtain ⟨l', olds⟩ := lo
                          obtain ⟨olds', hos, vo⟩ := srcCells_ok h hs hso
                          simp only []
                          cases hb : (l'.beq l && decide ((l + m) * i.bytes ≤ 140737488355328) && decide (l + m ≤ 9223372036854775807)) with
                          | false => trivial
                          | true =>
                            simp only [Bool.and_eq_true, decide_eq_true_eq] at hb
                            obtain ⟨⟨b1, b2⟩, b3⟩ := hb
                            have : l' = l := Nat.eq_of_beq_eq_true b1
                            subst this
                            rcases hsinv with ⟨_, rfl⟩ | ⟨he, _⟩ | ⟨rfl, hc0, o', rfl⟩
                            · exact grow_sound h ht hxd hd hi hz hzs hos hn vo vn hroom b2 b3 rfl
                            · exact absurd he hcU'
                            · exact grow_sound h ht hxd hd hi hz hzs hos hn vo vn (by omega) b2 b3 rfl
                · trivial
  · trivial
end Go.Proofs.YtgfjmkjhjfmbeaaGreat
