/- DERIVED. Texts put together: Cp5. -/
import Derived.Test.YtcggcoijhdagnaaZ19
/- DERIVED. The law's walk: MsgReplies. -/
namespace Go.Proofs.Ytcggcoijhdagnaa
open Go Go.RowKit
theorem roomC_eq {α : Type} (L : Lay α) (x0 x7 : α) (l : List α) : roomC L x0 x7 l = [] ++ l.flatMap L.g ++ [x7, x0].flatMap L.g := by unfold roomC; rw [List.flatMap_append, List.nil_append]
theorem wrap1 {n : Nat} (h : n ≤ 1048576) : IntKind.i64.wrap ((n : Int) + 1) = ((n + 1 : Nat) : Int) := by rw [wrapM (by omega) (by omega)]; omega
theorem wrap2 {n : Nat} (h : n ≤ 1048576) : IntKind.i64.wrap ((((n + 1 : Nat) : Int).toNat - Int.toNat 0 : Nat) - 1 : Int) = (n : Int) := by
  have e : (((n + 1 : Nat) : Int).toNat - Int.toNat 0) = n + 1 := by rw [Int.toNat_natCast]; rfl
  rw [e, wrapM (by omega) (by omega)]; omega
theorem spare0 {n : Nat} (h : n ≤ 1048576) : ¬ Nat.beq (n + 2) U = true := fun g => by have g := Nat.eq_of_beq_eq_true g; unfold U at g; omega
theorem spare1 {n : Nat} (h : n ≤ 1048576) : (inLH 0 (IntKind.i64.wrap ((n : Int) + 1)) (n + 2) && n.ble (n + 2) && (n + 2 - Int.toNat 0).blt 1180591620717411303424) = true := by
  rw [wrap1 h]
  simp only [inLH, Bool.and_eq_true, decide_eq_true_eq]
  exact ⟨⟨⟨⟨by omega, by omega⟩, by omega⟩, Nat.ble_eq_true_of_le (by omega)⟩, Nat.ble_eq_true_of_le (by show n + 2 - 0 + 1 ≤ _; omega)⟩
theorem spare2 {n : Nat} (h : n ≤ 1048576) : inI (IntKind.i64.wrap (((IntKind.i64.wrap ((n : Int) + 1)).toNat - Int.toNat 0 : Nat) - 1 : Int)) ((IntKind.i64.wrap ((n : Int) + 1)).toNat - Int.toNat 0) = true := by
  rw [wrap1 h, wrap2 h, Int.toNat_natCast]
  simp [inI]
  omega
theorem spare3 {α : Type} (L : Lay α) (x0 x7 : α) (l : List α) (off sz : Nat) (hs : sz = L.k) (ho : off < L.k) (h : l.length ≤ 1048576) :
    (roomC L x0 x7 l)[(bif (l.length + 2).beq (Int.toNat 0) then 0 else 0 + Int.toNat 0 * sz) + (IntKind.i64.wrap (((IntKind.i64.wrap ((l.length : Int) + 1)).toNat - Int.toNat 0 : Nat) - 1 : Int)).toNat * sz + off]? = (L.g x7)[off]? := by
  subst hs
  have e0 : (l.length + 2).beq (Int.toNat 0) = false := rfl
  rw [e0, cond_false, wrap1 h, wrap2 h, Int.toNat_natCast, show Int.toNat 0 = 0 from rfl, Nat.zero_mul, Nat.zero_add]
  unfold roomC
  rw [List.flatMap_append, List.getElem?_append_right (by rw [flat_length L.g L.k L.len]; omega), flat_length L.g L.k L.len, show l.length * L.k + off - l.length * L.k = off by omega, List.flatMap_cons, List.getElem?_append_left (by rw [L.len]; exact ho)]
set_option maxRecDepth 1000000 in
set_option maxHeartbeats 16000000 in
theorem replies_fn (id fl : Int) (qc : Nat) (qp qz : List Value) (ql : List QuX) (ac : Nat) (ap az : List Value) (al : List RcX) (nc : Nat) (np nz : List Value) (nl : List RcX) (rc : Nat) (rp rz : List Value) (rl : List RcX) (y z : Int) (hq1 : plainL qp = true) (hq2 : plainL qz = true) (ha1 : plainL ap = true) (ha2 : plainL az = true) (hn1 : plainL np = true) (hn2 : plainL nz = true) (hr1 : plainL rp = true) (hr2 : plainL rz = true) (gq : ql.length ≤ 4398046511104) (ga : al.length ≤ 4398046511104) (gn : nl.length ≤ 4398046511104) (gr : rl.length ≤ 4398046511104) :
    ∃ r, FnS Try.prog 0 5 [.agg #[.int .i64 id, .int .i64 fl, .slice (some ⟨0, qp.length, none⟩) ql.length qc, .slice (some ⟨1, ap.length, none⟩) al.length ac, .slice (some ⟨2, np.length, none⟩) nl.length nc, .slice (some ⟨3, rp.length, none⟩) rl.length rc], .int .i64 y, .int .i64 z] (heap 3 [(0, .win (qp ++ ql.flatMap layQ.g ++ qz) layQ.k), (1, .win (ap ++ al.flatMap layR.g ++ az) layR.k), (2, .win (np ++ nl.flatMap layR.g ++ nz) layR.k), (3, .win (rp ++ rl.flatMap layR.g ++ rz) layR.k)]) 4 r ∧ ∃ H k wr, r = .ret (.bool true) H k wr ∧ ∀ i ∈ wr, 4 ≤ i := by
  have hsz : (Try.prog.types[57]).size = 3 := by kernel_rfl
  have hby : (Try.prog.types[57]).bytes = 32 := by kernel_rfl
  have hsz2 : (Try.prog.types[69]).size = 5 := by kernel_rfl
  have tq : plainL ([qu7, qu0].flatMap layQ.g) = true := rfl
  have tr : plainL ([rc7, rc0].flatMap layR.g) = true := rfl
  refine fn_sx mixed tbCp3 [0, 1, 2, 3] Try.func5 (c := bodyOf Try.f5) (by kernel_rfl) ?_
  refine Exists.intro (⟨id, fl, ⟨0, qc, qp, ql, qz⟩, ⟨1, ac, ap, al, az⟩, ⟨2, nc, np, nl, nz⟩, ⟨3, rc, rp, rl, rz⟩⟩, 200, 66000) (And.intro ⟨rfl, ⟨⟨seesB_of (by kernel_rfl), hq1, hq2⟩, ⟨seesB_of (by kernel_rfl), ha1, ha2⟩, ⟨seesB_of (by kernel_rfl), hn1, hn2⟩, ⟨seesB_of (by kernel_rfl), hr1, hr2⟩⟩, ⟨by show ql.length ≤ _; omega, by show al.length ≤ _; omega, by show nl.length ≤ _; omega, by show rl.length ≤ _; omega⟩⟩ ?_)
  refine ifK (fun _ => ⟨_, _, _, rfl, wr_ge rfl⟩) (fun hb => ?_)
  obtain ⟨hq, ha, hn, hr⟩ := few (m := ⟨id, fl, ⟨0, qc, qp, ql, qz⟩, ⟨1, ac, ap, al, az⟩, ⟨2, nc, np, nl, nz⟩, ⟨3, rc, rp, rl, rz⟩⟩) (n := 200) (y := 66000) (k := 1048576) (by decide) gq ga gn gr hb
  have hq : ql.length ≤ 1048576 := hq
  have ha : al.length ≤ 1048576 := ha
  have hn : nl.length ≤ 1048576 := hn
  have hr : rl.length ≤ 1048576 := hr
  refine Exists.intro (⟨id, fl, ⟨0, qc, qp, ql, qz⟩, ⟨1, ac, ap, al, az⟩, ⟨2, nc, np, nl, nz⟩, ⟨3, rc, rp, rl, rz⟩⟩ : MsL) (And.intro ⟨rfl, ⟨⟨seesB_of (by kernel_rfl), hq1, hq2⟩, ⟨seesB_of (by kernel_rfl), ha1, ha2⟩, ⟨seesB_of (by kernel_rfl), hn1, hn2⟩, ⟨seesB_of (by kernel_rfl), hr1, hr2⟩⟩, hq, ha, hn, hr⟩ ?_)
  refine And.intro (by kernel_rfl) ?_
  refine And.intro (by kernel_rfl) ?_
  refine Exists.intro (ql.flatMap layQ.g) (And.intro (src_lay (pre := []) (post := [qu7, qu0].flatMap layQ.g) layQ hsz (by rw [← roomC_eq]; kernel_rfl)) ?_)
  refine ifK (fun h0 => ?_) (fun h0 => ?_)
  · have h0 : ql.length = 0 := Nat.eq_of_beq_eq_true h0
    refine And.intro (by kernel_rfl) ?_
    refine Exists.intro (ql.flatMap layQ.g) (And.intro (src_lay (pre := qp) (post := qz) layQ hsz (by kernel_rfl)) ?_)
    refine ifK (fun _ => ?_) (fun g => by have g : Nat.beq ql.length 0 = false := g; rw [h0] at g; cases g)
    refine ifK (fun _ => ?_) (fun g => by exact absurd g (by simp))
    refine ifK (fun _ => ?_) (fun g => by exact absurd g (by simp))
    refine ifK (fun _ => ?_) (fun g => by exact absurd g (by simp))
    refine ifK (fun _ => ?_) (fun g => by exact absurd g (by simp))
    refine Exists.intro (⟨6, ql.length + 2, [], ql, [qu7, qu0].flatMap layQ.g⟩, ⟨0, qc, qp, ql, qz⟩, ()) (And.intro ⟨rfl, ⟨by unfold RdL.cells; rw [← roomC_eq]; exact seesB_of (by kernel_rfl), rfl, rfl⟩, ⟨seesB_of (by kernel_rfl), hq1, hq2⟩, by show ql.length ≤ _; omega⟩ ?_)
    refine ifK (fun _ => ?_) (fun g => by have g : decide (ql = ql) = false := g; simp at g)
    refine Exists.intro (⟨7, al.length + 2, [], al, [rc7, rc0].flatMap layR.g⟩, ⟨1, ac, ap, al, az⟩, ()) (And.intro ⟨rfl, ⟨by unfold RdL.cells; rw [← roomC_eq]; exact seesB_of (by kernel_rfl), rfl, rfl⟩, ⟨seesB_of (by kernel_rfl), ha1, ha2⟩, by show al.length ≤ _; omega⟩ ?_)
    refine ifK (fun _ => ?_) (fun g => by have g : decide (al = al) = false := g; simp at g)
    refine Exists.intro (⟨8, nl.length + 2, [], nl, [rc7, rc0].flatMap layR.g⟩, ⟨2, nc, np, nl, nz⟩, ()) (And.intro ⟨rfl, ⟨by unfold RdL.cells; rw [← roomC_eq]; exact seesB_of (by kernel_rfl), rfl, rfl⟩, ⟨seesB_of (by kernel_rfl), hn1, hn2⟩, by show nl.length ≤ _; omega⟩ ?_)
    refine ifK (fun _ => ?_) (fun g => by have g : decide (nl = nl) = false := g; simp at g)
    refine Exists.intro (⟨9, rl.length + 2, [], rl, [rc7, rc0].flatMap layR.g⟩, ⟨3, rc, rp, rl, rz⟩, ()) (And.intro ⟨rfl, ⟨by unfold RdL.cells; rw [← roomC_eq]; exact seesB_of (by kernel_rfl), rfl, rfl⟩, ⟨seesB_of (by kernel_rfl), hr1, hr2⟩, by show rl.length ≤ _; omega⟩ ?_)
    refine ifK (fun g => by have g : (!decide (rl = rl)) = true := g; simp at g) (fun _ => ?_)
    refine ifK (fun g => absurd g (spare0 hq)) (fun _ => ?_)
    refine And.intro (spare1 hq) ?_
    refine ifK (fun _ => ?_) (fun g => absurd (spare2 hq) (by rw [show inI _ _ = false from g]; decide))
    refine Exists.intro (7 : Int) (And.intro (spare3 layQ qu0 qu7 ql 1 _ hsz (by decide) hq) ?_)
    refine ifK (fun g => absurd g (spare0 ha)) (fun _ => ?_)
    refine And.intro (spare1 ha) ?_
    refine ifK (fun _ => ?_) (fun g => absurd (spare2 ha) (by rw [show inI _ _ = false from g]; decide))
    refine Exists.intro (7 : Int) (And.intro (spare3 layR rc0 rc7 al 1 _ hsz2 (by decide) ha) ?_)
    refine ifK (fun g => absurd g (spare0 hn)) (fun _ => ?_)
    refine And.intro (spare1 hn) ?_
    refine ifK (fun _ => ?_) (fun g => absurd (spare2 hn) (by rw [show inI _ _ = false from g]; decide))
    refine Exists.intro (7 : Int) (And.intro (spare3 layR rc0 rc7 nl 1 _ hsz2 (by decide) hn) ?_)
    refine ifK (fun g => absurd g (spare0 hr)) (fun _ => ?_)
    refine And.intro (spare1 hr) ?_
    refine ifK (fun _ => ?_) (fun g => absurd (spare2 hr) (by rw [show inI _ _ = false from g]; decide))
    refine Exists.intro (7 : Int) (And.intro (spare3 layR rc0 rc7 rl 1 _ hsz2 (by decide) hr) ?_)
    refine ifK (fun _ => ?_) (fun g => by exact absurd g (by simp))
    refine ifK (fun _ => ?_) (fun g => by exact absurd g (by simp))
    refine ifK (fun _ => ?_) (fun g => by exact absurd g (by simp))
    exact ⟨_, _, _, rfl, wr_ge rfl⟩
  · have h0 : ¬ ql.length = 0 := fun e => by have g : Nat.beq ql.length 0 = false := h0; rw [e] at g; cases g
    have hok : (decide (ql.length * (Try.prog.types[57]).bytes ≤ 140737488355328) && decide (ql.length ≤ 9223372036854775807)) = true := by rw [hby, decide_eq_true (by omega), decide_eq_true (by omega)]; rfl
    refine And.intro hok ?_
    refine And.intro (by kernel_rfl) ?_
    refine Exists.intro (ql.flatMap layQ.g) (And.intro (src_lay (pre := qp) (post := qz) layQ hsz (by kernel_rfl)) ?_)
    refine ifK (fun g => absurd (Nat.eq_of_beq_eq_true g) h0) (fun _ => ?_)
    refine And.intro (by rw [hby, Nat.zero_add, decide_eq_true (by omega), decide_eq_true (by omega)]; rfl) ?_
    refine ifK (fun _ => ?_) (fun g => by exact absurd g (by simp))
    refine ifK (fun _ => ?_) (fun g => by exact absurd g (by simp))
    refine Exists.intro (⟨13, U, [], ql, []⟩, ⟨17, U, [], ql, []⟩, ()) (And.intro ⟨?_, ⟨by unfold RdL.cells; rw [List.append_nil]; exact seesB_of (by kernel_rfl), rfl, rfl⟩, ⟨by unfold RdL.cells; rw [List.append_nil]; exact seesB_of (by kernel_rfl), rfl, rfl⟩, by show ql.length ≤ _; omega⟩ ?_)
    · show [Value.slice (some ⟨13, 0, none⟩) ql.length U, Value.slice (some ⟨17, 0, none⟩) (0 + ql.length) U] = _
      rw [Nat.zero_add]; rfl
    refine ifK (fun _ => ?_) (fun g => by have g : decide (ql = ql) = false := g; simp at g)
    refine Exists.intro (⟨id, repF fl y, 13, ql, U, []⟩ : MsQ) (And.intro ⟨rfl, by rw [List.append_nil]; kernel_rfl, rfl, by show ql.length ≤ _; omega⟩ ?_)
    refine ifK (fun _ => ?_) (fun g => by exact absurd g (by simp))
    refine ifK (fun _ => ?_) (fun g => by exact absurd g (by simp))
    refine Exists.intro (⟨6, ql.length + 2, [], ql, [qu7, qu0].flatMap layQ.g⟩, ⟨0, qc, qp, ql, qz⟩, ()) (And.intro ⟨rfl, ⟨by unfold RdL.cells; rw [← roomC_eq]; exact seesB_of (by kernel_rfl), rfl, rfl⟩, ⟨seesB_of (by kernel_rfl), hq1, hq2⟩, by show ql.length ≤ _; omega⟩ ?_)
    refine ifK (fun _ => ?_) (fun g => by have g : decide (ql = ql) = false := g; simp at g)
    refine Exists.intro (⟨7, al.length + 2, [], al, [rc7, rc0].flatMap layR.g⟩, ⟨1, ac, ap, al, az⟩, ()) (And.intro ⟨rfl, ⟨by unfold RdL.cells; rw [← roomC_eq]; exact seesB_of (by kernel_rfl), rfl, rfl⟩, ⟨seesB_of (by kernel_rfl), ha1, ha2⟩, by show al.length ≤ _; omega⟩ ?_)
    refine ifK (fun _ => ?_) (fun g => by have g : decide (al = al) = false := g; simp at g)
    refine Exists.intro (⟨8, nl.length + 2, [], nl, [rc7, rc0].flatMap layR.g⟩, ⟨2, nc, np, nl, nz⟩, ()) (And.intro ⟨rfl, ⟨by unfold RdL.cells; rw [← roomC_eq]; exact seesB_of (by kernel_rfl), rfl, rfl⟩, ⟨seesB_of (by kernel_rfl), hn1, hn2⟩, by show nl.length ≤ _; omega⟩ ?_)
    refine ifK (fun _ => ?_) (fun g => by have g : decide (nl = nl) = false := g; simp at g)
    refine Exists.intro (⟨9, rl.length + 2, [], rl, [rc7, rc0].flatMap layR.g⟩, ⟨3, rc, rp, rl, rz⟩, ()) (And.intro ⟨rfl, ⟨by unfold RdL.cells; rw [← roomC_eq]; exact seesB_of (by kernel_rfl), rfl, rfl⟩, ⟨seesB_of (by kernel_rfl), hr1, hr2⟩, by show rl.length ≤ _; omega⟩ ?_)
    refine ifK (fun g => by have g : (!decide (rl = rl)) = true := g; simp at g) (fun _ => ?_)
    refine ifK (fun g => absurd g (spare0 hq)) (fun _ => ?_)
    refine And.intro (spare1 hq) ?_
    refine ifK (fun _ => ?_) (fun g => absurd (spare2 hq) (by rw [show inI _ _ = false from g]; decide))
    refine Exists.intro (7 : Int) (And.intro (spare3 layQ qu0 qu7 ql 1 _ hsz (by decide) hq) ?_)
    refine ifK (fun g => absurd g (spare0 ha)) (fun _ => ?_)
    refine And.intro (spare1 ha) ?_
    refine ifK (fun _ => ?_) (fun g => absurd (spare2 ha) (by rw [show inI _ _ = false from g]; decide))
    refine Exists.intro (7 : Int) (And.intro (spare3 layR rc0 rc7 al 1 _ hsz2 (by decide) ha) ?_)
    refine ifK (fun g => absurd g (spare0 hn)) (fun _ => ?_)
    refine And.intro (spare1 hn) ?_
    refine ifK (fun _ => ?_) (fun g => absurd (spare2 hn) (by rw [show inI _ _ = false from g]; decide))
    refine Exists.intro (7 : Int) (And.intro (spare3 layR rc0 rc7 nl 1 _ hsz2 (by decide) hn) ?_)
    refine ifK (fun g => absurd g (spare0 hr)) (fun _ => ?_)
    refine And.intro (spare1 hr) ?_
    refine ifK (fun _ => ?_) (fun g => absurd (spare2 hr) (by rw [show inI _ _ = false from g]; decide))
    refine Exists.intro (7 : Int) (And.intro (spare3 layR rc0 rc7 rl 1 _ hsz2 (by decide) hr) ?_)
    refine ifK (fun _ => ?_) (fun g => by exact absurd g (by simp))
    refine ifK (fun _ => ?_) (fun g => by exact absurd g (by simp))
    refine ifK (fun _ => ?_) (fun g => by exact absurd g (by simp))
    exact ⟨_, _, _, rfl, wr_ge rfl⟩
end Go.Proofs.Ytcggcoijhdagnaa
