/- DERIVED. Texts put together: A6. -/
import Derived.SizedLaws
import Derived.Test.YtcggcoijhdagnaaZ13
import Derived.Test.YtcggcoijhdagnaaZ20
/- DERIVED. Arguments of a law are no larger than memory: their lists' lengths. -/
namespace Go.Proofs.Ytcggcoijhdagnaa
open Go Go.Joins Go.ChangeShapes Go.WideShapes Go.RowKit Go.Deep
section
variable {H : Type} {enc : TypeId × Value → H} {P : Program} {w : World} {base : Nat} {spare : Nat → Bool} {held : Bool}
theorem flat_open2 : ∀ (n : Nat) (t : TypeId) (ts : List TypeId) (m : Nat) (cs : List Value) (x : DataW H × List MemPlace), flatOK P n t ts = true → DataW.trod enc P w base spare held m t cs = some x → cs.length = ts.length → ∀ (i : Nat) (u : TypeId) (v : Value), ts[i]? = some u → cs[i]? = some v → ∃ k y, DataW.trod enc P w base spare held k u [v] = some y ∧ ∀ n ∈ y.1.weights P u, n ∈ x.1.weights P t
  | 0, _, _, _, _, _, h, _, _, _, _, _, _, _ => by cases h
  | n + 1, t, ts, m, cs, x, h, hx, hlen, i, u, v, hu, hv => by
    unfold flatOK at h
    split at h
    · rename_i fs hs
      simp only [Bool.and_eq_true] at h
      obtain ⟨⟨h1, h2⟩, h3⟩ := h
      obtain ⟨xs, n', _, hxe, hl, hxl, hf⟩ := DataW.trod_struct hs hx
      have hi : i < ts.length := (List.getElem?_eq_some_iff.1 hu).1
      have h3 := List.all_eq_true.1 h3 i (List.mem_range.2 hi)
      obtain ⟨f, hfm, h4⟩ := List.any_eq_true.1 h3
      simp only [Bool.and_eq_true] at h4
      have ha := Nat.le_of_ble_eq_true h4.1
      have hb : i < f.offset + P.cellsOf f.type := Nat.le_of_ble_eq_true h4.2
      obtain ⟨j, hj⟩ := List.getElem?_of_mem hfm
      have hj' : fs[j]? = some f := by rw [← Array.getElem?_toList]; exact hj
      have hjl : j < xs.length := by rw [hxl]; exact (Array.getElem?_eq_some_iff.1 hj').1
      have hg := hf j f hj'
      rw [List.getElem?_eq_getElem hjl] at hg
      have hk := List.all_eq_true.1 h2 f hfm
      obtain ⟨k, y, r1, r2⟩ := flat_open2 n f.type _ n' _ _ hk hg (by simp only [List.length_take, List.length_drop, hlen]) (i - f.offset) u v
        (by rw [List.getElem?_take_of_lt (by omega), List.getElem?_drop, show f.offset + (i - f.offset) = i by omega]; exact hu)
        (by rw [List.getElem?_take_of_lt (by omega), List.getElem?_drop, show f.offset + (i - f.offset) = i by omega]; exact hv)
      refine ⟨k, y, r1, fun q hq => ?_⟩
      rw [hxe]
      show q ∈ DataW.weights P t (.agg (xs.map (·.1)))
      unfold DataW.weights
      simp only [hs]
      exact DataW.weights_mem_each (j := j) (t := f.type) (d := (xs[j]'hjl).1) (by rw [List.getElem?_map, hj]; rfl) (by rw [List.getElem?_map, List.getElem?_eq_getElem hjl]; rfl) q (r2 q hq)
    · split at h
      · rename_i u'
        have := Nat.eq_of_beq_eq_true h
        subst this
        have hc : cs.length = 1 := hlen
        match cs, hc with
        | [c], _ =>
          cases i with
          | zero =>
            simp only [List.getElem?_cons_zero, Option.some.injEq] at hu hv
            subst hu; subst hv
            exact ⟨m, x, hx, fun q hq => hq⟩
          | succ i => simp at hu
      · cases h
theorem open_flat2 {r : Reach} {b0 : Nat} {t : TypeId} {fs : Array Field} {ts : List TypeId} {v : Value} {d : DataW H} {p : List MemPlace} (hs : P.underlying t = some (.struct fs)) (ht : flatOK P 8 t ts = true) (hC : P.cellsOf t = ts.length) (hct : P.cellTypes P.depth t = some ts)
    (hv : Value.okWide P w r b0 t v) (h : DataW.Trod enc P w base spare held t v d p) :
    ∃ cs : List Value, v = .agg ⟨cs⟩ ∧ cs.length = ts.length ∧ ∀ (i : Nat) (u : TypeId) (c : Value), ts[i]? = some u → cs[i]? = some c → Cell.okWide P w r b0 u c ∧ ∃ k y, DataW.trod enc P w base spare held k u [c] = some y ∧ ∀ n ∈ y.1.weights P u, n ∈ d.weights P t := by
  simp only [Value.okWide, hs] at hv
  obtain ⟨⟨cs⟩, rfl, hsz, ts', h1, _, h2⟩ := hv
  rw [hct] at h1
  cases h1
  obtain ⟨fuel, hf⟩ := h
  have hl : cs.length = ts.length := by rw [← hC]; exact hsz
  refine ⟨cs, rfl, hl, fun i u c hu hc => ⟨?_, ?_⟩⟩
  · have hi : i < ts.length := (List.getElem?_eq_some_iff.1 hu).1
    obtain ⟨u', h3, h4⟩ := h2 i c (by simpa using hc)
    rw [Nat.mod_eq_of_lt hi, hu] at h3
    cases h3
    exact h4
  · exact flat_open2 8 t ts fuel cs _ ht hf hl i u c hu hc
theorem vr_len {E : Env} {b o n c len cap : Nat} {a : Option Addr} (h : VR E (.slice (some ⟨b, o, none⟩) n c) (.slice a len cap)) : n ≤ len := by
  cases h <;> first | exact Nat.le_refl _ | exact Nat.zero_le _
theorem open_winl2 {α : Type} (L : Lay α) {r : Reach} {b0 : Nat} {t e : TypeId} {v : Value} {fuel R : Nat} {x : DataW H × List MemPlace} (ht : P.underlying t = some (.slice e)) (hC : P.cellsOf e = L.k)
    (hopen : ∀ n cs y, DataW.trod enc P w base spare held n e cs = some y → ∃ x, cs = L.g x) (hv : Cell.okWide P w r b0 t v) (h : DataW.trod enc P w base spare held fuel t [v] = some x) (hpos : 0 < w.heap.size) (hw : ∀ n ∈ x.1.weights P t, n ≤ R) :
    ∃ y : WinL α, y.good L w ∧ y.l.length * P.bytesOf e ≤ R ∧ ∀ (E : Env) (k : Nat), E.dom k → E.ρ k = y.b → E.sh k = y.off → VR E (y.sl k) v := by
  obtain ⟨y, h1, h2⟩ := open_winl L ht hC hopen hv h hpos
  refine ⟨y, h1, ?_, h2⟩
  have hvr := h2 ⟨fun _ => True, fun _ => y.b, fun _ => 0, fun _ => 0, fun _ => y.off, fun _ => False⟩ 0 trivial rfl rfl
  rcases open_slice ht h with ⟨h0, _⟩ | ⟨a, len, cap, m, n, D, Pl, hcs, _, _, _, _, hx, _⟩
  · simp only [List.cons.injEq, and_true] at h0
    subst h0
    have : y.l.length = 0 := Nat.le_zero.1 (vr_len (b := 0) (o := 0) (c := y.c) hvr)
    rw [this, Nat.zero_mul]; exact Nat.zero_le _
  · simp only [List.cons.injEq, and_true] at hcs
    subst hcs
    have hle : y.l.length ≤ len := vr_len (b := 0) (o := 0) (c := y.c) hvr
    have hq := hw ((len + (m - len)) * P.bytesOf e) (by
      rw [hx]
      show _ ∈ DataW.weights P t (.slice _ _)
      unfold DataW.weights
      simp only [ht, List.length_map, List.length_range]
      exact List.mem_cons_self ..)
    exact Nat.le_trans (Nat.mul_le_mul_right _ (by omega)) hq
end
/-- .. of a message. -/
def WinM.small (m : WinM) : Prop := m.q.l.length ≤ 4398046511104 ∧ m.an.l.length ≤ 4398046511104 ∧ m.ns.l.length ≤ 4398046511104 ∧ m.ar.l.length ≤ 4398046511104
section
variable {H : Type} {enc : TypeId × Value → H} {w : World} {base : Nat} {spare : Nat → Bool} {held : Bool}
theorem bytes_q : Try.prog.bytesOf 57 = 32 := by kernel_rfl
theorem bytes_r : Try.prog.bytesOf 69 = 56 := by kernel_rfl
set_option maxRecDepth 100000 in
theorem open_ms2 {r : Reach} {b0 : Nat} (hpos : 0 < w.heap.size) (cs : List Value) (hl : cs.length = 6) (h : ∀ (i : Nat) (u : TypeId) (c : Value), msTypes[i]? = some u → cs[i]? = some c → Cell.okWide Try.prog w r b0 u c ∧ ∃ k y, DataW.trod enc Try.prog w base spare held k u [c] = some y ∧ ∀ n ∈ y.1.weights Try.prog u, n ≤ reachBytes) :
    ∃ m : WinM, m.good w ∧ m.small ∧ ∀ (E : Env) (k : Nat), m.seen E k → VL E (m.cs k) cs := by
  match cs, hl with
  | [c0, c1, c2, c3, c4, c5], _ =>
    obtain ⟨_, _, _, h0, _⟩ := h 0 _ _ rfl rfl
    obtain ⟨_, _, _, h1, _⟩ := h 1 _ _ rfl rfl
    obtain ⟨o2, _, _, h2, w2⟩ := h 2 _ _ rfl rfl
    obtain ⟨o3, _, _, h3, w3⟩ := h 3 _ _ rfl rfl
    obtain ⟨o4, _, _, h4, w4⟩ := h 4 _ _ rfl rfl
    obtain ⟨o5, _, _, h5, w5⟩ := h 5 _ _ rfl rfl
    obtain ⟨x0, rfl⟩ := trod_i1 h0
    obtain ⟨x1, rfl⟩ := trod_i1 h1
    obtain ⟨q, g2, s2, e2⟩ := open_winl2 layQ Try.underlying22 (by kernel_rfl) (fun _ _ _ hy => trod_qu hy) o2 h2 hpos w2
    obtain ⟨an, g3, s3, e3⟩ := open_winl2 layR Try.underlying23 (by kernel_rfl) (fun _ _ _ hy => trod_rc hy) o3 h3 hpos w3
    obtain ⟨ns, g4, s4, e4⟩ := open_winl2 layR Try.underlying23 (by kernel_rfl) (fun _ _ _ hy => trod_rc hy) o4 h4 hpos w4
    obtain ⟨ar, g5, s5, e5⟩ := open_winl2 layR Try.underlying23 (by kernel_rfl) (fun _ _ _ hy => trod_rc hy) o5 h5 hpos w5
    have hR : reachBytes = 140737488351232 := by decide
    have s2 : q.l.length * 32 ≤ reachBytes := bytes_q ▸ s2
    have s3 : an.l.length * 56 ≤ reachBytes := bytes_r ▸ s3
    have s4 : ns.l.length * 56 ≤ reachBytes := bytes_r ▸ s4
    have s5 : ar.l.length * 56 ≤ reachBytes := bytes_r ▸ s5
    exact ⟨⟨x0, x1, q, an, ns, ar⟩, ⟨g2, g3, g4, g5⟩, ⟨by show q.l.length ≤ _; omega, by show an.l.length ≤ _; omega, by show ns.l.length ≤ _; omega, by show ar.l.length ≤ _; omega⟩, fun E k ⟨⟨a1, a2, a3⟩, ⟨b1, b2, b3⟩, ⟨c1, c2, c3⟩, d1, d2, d3⟩ =>
      .cons _ _ _ _ (.int _ _) (.cons _ _ _ _ (.int _ _) (.cons _ _ _ _ (e2 E _ a1 a2 a3) (.cons _ _ _ _ (e3 E _ b1 b2 b3) (.cons _ _ _ _ (e4 E _ c1 c2 c3) (.cons _ _ _ _ (e5 E _ d1 d2 d3) .nil)))))⟩
set_option maxRecDepth 100000 in
theorem open_msg2 {r : Reach} {b0 : Nat} {v : Value} {d : DataW H} {p : List MemPlace} (hpos : 0 < w.heap.size) (hv : Value.okWide Try.prog w r b0 25 v) (h : DataW.Trod enc Try.prog w base spare held 25 v d p) (hw : ∀ n ∈ d.weights Try.prog 25, n ≤ reachBytes) :
    ∃ m : WinM, m.good w ∧ m.small ∧ ∀ (E : Env) (k : Nat), m.seen E k → VR E (.agg ⟨m.cs k⟩) v := by
  obtain ⟨cs, rfl, hl, hf⟩ := open_flat2 (ts := msTypes) Try.underlying25 (by kernel_rfl) (by kernel_rfl) (by kernel_rfl) hv h
  obtain ⟨m, h1, h3, h2⟩ := open_ms2 hpos cs hl (fun i u c hu hc => by
    obtain ⟨q1, k, y, q2, q3⟩ := hf i u c hu hc
    exact ⟨q1, k, y, q2, fun n hn => hw n (q3 n hn)⟩)
  exact ⟨m, h1, h3, fun E k hk => .agg _ _ (h2 E k hk)⟩
/-- The weight of an argument. -/
theorem weigh {ts : List TypeId} {ds : List (DataW H)} (h : (DataW.weightsEach Try.prog ts ds).all (· ≤ reachBytes) = true) {j : Nat} {t : TypeId} {d : DataW H} (ht : ts[j]? = some t) (hd : ds[j]? = some d) : ∀ n ∈ d.weights Try.prog t, n ≤ reachBytes := fun n hn => by
  have := List.all_eq_true.1 h n (DataW.weights_mem_each ht hd n hn)
  exact of_decide_eq_true this
end
end Go.Proofs.Ytcggcoijhdagnaa
