/- DERIVED. What is known of names, as contracts. -/
import Derived.Test.YtilneokmnocbeaaS8
import Derived.Test.YtilneokmnocbeaaRefName
namespace Go.Proofs.Ytilneokmnocbeaa
open Go Go.RowKit

theorem mixed : Try.prog.follows .mixedOrders = true := by kernel_rfl

/-- A string's bytes. -/
def bs (s : ByteArray) : Bs := s.data.toList
theorem str_bs (s : ByteArray) : str (bs s) = .string s := by simp [str, bs]
def shortB (s : ByteArray) : Bool := s.data.size.ble 1000000000
theorem short_len {s : ByteArray} (h : shortB s = true) : (bs s).length ≤ 1000000000 := by unfold bs; rw [Array.length_toList]; exact Nat.le_of_ble_eq_true h
/-- A string, not too long. -/
def gStr : List Value → Option Bool
  | [.string s] => some (shortB s)
  | _ => none
def gStr2 : List Value → Option Bool
  | [.string s, .string t] => some (shortB s && shortB t)
  | _ => none
def argS (l : List Value) : ByteArray := match l with | .string s :: _ => s | _ => ⟨#[]⟩
def argT (l : List Value) : ByteArray := match l with | _ :: .string s :: _ => s | _ => ⟨#[]⟩
theorem gStr_spec {l : List Value} (h : gStr l = some true) : ∃ s, l = [.string s] ∧ (bs s).length ≤ 1000000000 := by
  unfold gStr at h
  split at h
  · exact ⟨_, rfl, short_len (by simpa using h)⟩
  · cases h
theorem gStr2_spec {l : List Value} (h : gStr2 l = some true) : ∃ s t, l = [.string s, .string t] ∧ (bs s).length ≤ 1000000000 ∧ (bs t).length ≤ 1000000000 := by
  unfold gStr2 at h
  split at h
  · simp only [Option.some.injEq, Bool.and_eq_true] at h
    exact ⟨_, _, rfl, short_len h.1, short_len h.2⟩
  · cases h

/-- A function of a string. -/
def Ct.str1 (f : FuncId) (out : ByteArray → Value) (hp : ∀ s, plainV 8 (out s) = true) (ok : ∀ s w, (bs s).length ≤ 1000000000 → Calls Try.prog f #[.string s] w fun e w' => e = .returned (out s) ∧ Below w.heap.size w w') : Ct Try.prog 0 :=
  Ct.guard f gStr (fun l H n => .ret (out (argS l)) H n []) (fun l H n h => by
    obtain ⟨s, rfl, hs⟩ := gStr_spec h
    exact callOK_calls (fun w => ok s w hs) rfl (hp s) H n)
def Ct.str2 (f : FuncId) (out : ByteArray → ByteArray → Value) (hp : ∀ s t, plainV 8 (out s t) = true) (ok : ∀ s t w, (bs s).length ≤ 1000000000 → (bs t).length ≤ 1000000000 → Calls Try.prog f #[.string s, .string t] w fun e w' => e = .returned (out s t) ∧ Below w.heap.size w w') : Ct Try.prog 0 :=
  Ct.guard f gStr2 (fun l H n => .ret (out (argS l) (argT l)) H n []) (fun l H n h => by
    obtain ⟨s, t, rfl, hs, ht⟩ := gStr2_spec h
    exact callOK_calls (fun w => ok s t w hs ht) rfl (hp s t) H n)

def sameNames (a b : Bs) : Bool := decide ((labels a).2 = 0 ∧ (labels b).2 = 0 ∧ lower a = lower b)

def ct_check : Ct Try.prog 0 := Ct.str1 39 (fun s => .int .i64 (labels (bs s)).2) (fun _ => rfl) (fun s w hs => by have := nameCheck_any (bs s) w hs; rwa [str_bs] at this)
def ct_lower : Ct Try.prog 0 := Ct.str1 61 (fun s => str (lower (bs s))) (fun _ => rfl) (fun s w hs => by have := lower_any (bs s) w hs; rwa [str_bs] at this)
def ct_same : Ct Try.prog 0 := Ct.str2 21 (fun s t => .bool (sameNames (bs s) (bs t))) (fun _ _ => rfl) (fun s t w hs ht => by have := nameSame_any (bs s) (bs t) w hs ht; rwa [str_bs, str_bs] at this)
def ct_rcheck : Ct Try.prog 0 := Ct.str1 42 (fun s => .int .i64 (labels (bs s)).2) (fun _ => rfl) (fun s w hs => by have := refCheck_any (bs s) w hs; rwa [str_bs] at this)
def ct_rlower : Ct Try.prog 0 := Ct.str1 70 (fun s => str (lower (bs s))) (fun _ => rfl) (fun s w hs => by have := refLower_any (bs s) w hs; rwa [str_bs] at this)
def ct_rsame : Ct Try.prog 0 := Ct.str2 45 (fun s t => .bool (sameNames (bs s) (bs t))) (fun _ _ => rfl) (fun s t w hs ht => by have := refSame_any (bs s) (bs t) w hs ht; rwa [str_bs, str_bs] at this)

theorem labels_plain (s : ByteArray) : plainL ((labels (bs s)).1.map str) = true := by simp [plainL, plainV, str]
def ct_labels : Ct Try.prog 0 := Ct.guard 62 gStr (fun l H n => listOut 9 1 ((labels (bs (argS l))).1.map str) (labels (bs (argS l))).1.length (fun v => .tuple #[v, .int .i64 (labels (bs (argS l))).2]) H n) (fun l H n h => by
  obtain ⟨s, rfl, hs⟩ := gStr_spec h
  refine callOK_list rfl (labels_plain s) (by kernel_rfl) (fun E v v' h => .tuple _ _ (.cons _ _ _ _ h (.cons _ _ _ _ (.int _ _) .nil))) (fun w => ?_) H n
  have := labels_any (bs s) w hs
  rw [str_bs] at this
  refine this.mono ?_
  rintro e w' ⟨v, h1, h2, h3, h4⟩
  exact ⟨v, h1, h2, h3, fun h => h4 (List.length_eq_zero_iff.1 h)⟩)
end Go.Proofs.Ytilneokmnocbeaa
