import Derived.Test.YtamekpldmplenaaDoorKorean
namespace Go.Proofs.YtamekpldmplenaaDoor
open Go.RowKit

def bad1 (s : Sp) : Bool := decide (s.lo < 0 ∨ s.hi < s.lo ∨ 1114111 < s.hi ∨ s.val < 1 ∨ 254 < s.val)
def bad2 (a b : Sp) : Bool := decide (b.lo ≤ a.hi ∨ (a.hi + 1 = b.lo ∧ a.val = b.val))
def adj : List Sp → Bool
  | a :: b :: t => bad2 a b || adj (b :: t)
  | _ => false
def chk (l : List Sp) : Int := if l.any bad1 = true then 1 else if adj l = true then 4 else if l.any kor = true then 11 else 0
theorem adj_true : ∀ (l : List Sp) (i : Nat) (a b : Sp), l[i]? = some a → l[i + 1]? = some b → bad2 a b = true → adj l = true
  | [], i, a, b, h, _, _ => by simp at h
  | [x], i, a, b, _, h, _ => by simp at h
  | x :: y :: t, i, a, b, h, k, hb => by
    cases i with
    | zero => simp at h k; subst h; subst k; simp [adj, hb]
    | succ i =>
      have := adj_true (y :: t) i a b (by simpa using h) (by simpa using k) hb
      simp [adj, this]
theorem adj_false : ∀ (l : List Sp), (∀ (i : Nat) (a b : Sp), l[i]? = some a → l[i + 1]? = some b → bad2 a b = false) → adj l = false
  | [], _ => rfl
  | [x], _ => rfl
  | x :: y :: t, h => by
    have h0 := h 0 x y rfl rfl
    have := adj_false (y :: t) (fun i a b ha hb => h (i + 1) a b (by simpa using ha) (by simpa using hb))
    simp [adj, h0, this]
theorem any_at {p : Sp → Bool} {l : List Sp} {i : Nat} {a : Sp} (h : l[i]? = some a) (hp : p a = true) : l.any p = true := List.any_eq_true.2 ⟨a, List.mem_of_getElem? h, hp⟩
theorem any_no {p : Sp → Bool} {l : List Sp} (h : ∀ (i : Nat) (a : Sp), l[i]? = some a → p a = false) : l.any p = false := by
  rw [List.any_eq_false]
  intro a ha
  obtain ⟨i, hi⟩ := List.mem_iff_getElem?.1 ha
  simp [h i a hi]
theorem upto_step {P : Sp → Prop} {l : List Sp} {k : Nat} {a : Sp} (H : Hid (∀ (i : Nat) (s : Sp), i < k → l[i]? = some s → P s)) (ha : Hid (l[k]? = some a)) (hp : P a) : Hid (∀ (i : Nat) (s : Sp), i < k + 1 → l[i]? = some s → P s) := by
  intro i s hi hs
  by_cases e : i = k
  · subst e; rw [ha.out] at hs; cases hs; exact hp
  · exact H.out i s (by omega) hs

set_option maxHeartbeats 400000 in
theorem idx_kor (A : Option Addr) (n c : Nat) (l : List Sp) (w : World) (hR : RdSp w A n l) (hG : Glob w) (hok : ∀ (i : Nat) (s : Sp), l[i]? = some s → s.lo ≤ s.hi) :
    Calls Tryd.prog 44 #[.slice A n c, .func (.func 32) #[] #[]] w fun e w' => ∃ r : Int, decide (0 ≤ r) = l.any kor ∧ e = .returned (.int .i64 r) ∧ Below w.heap.size w w' := by
  have hn := hR.bd
  have hlen := Lib.hid hR.len
  go_enter Tryd.func44, Tryd.ntmps44
  go_wp2_with fail
  go_loopw [8] (fun i wr => ∃ k : Nat, k ≤ n ∧ i = .int .i64 k ∧ Hid (∀ (i : Nat) (s : Sp), i < k → l[i]? = some s → kor s = false) ∧ Below w.heap.size w wr)
    (fun i _ => n - (intOf i).toNat)
  case atStart => exact ⟨0, by omega, rfl, fun j h hk => absurd hk (by omega), Below.refl _ _⟩
  case round =>
    obtain ⟨k, hk, rfl, HJ, hB⟩ := hrel
    by_cases hlt : k < n
    · obtain ⟨b, o, rfl⟩ := hR.addr (by omega)
      obtain ⟨lo, hi, val, hs, c0, c1, c2⟩ := RdSp.elt (hR.below hB) hlt
      have hl : lo ≤ hi := hok k _ hs.out
      cases hkor : kor ⟨lo, hi, val⟩ with
      | true =>
        have hany := Lib.hid (any_at hs.out hkor)
        go_wp2_with (go_at_call 32; refine (korean_any ⟨lo, hi, val⟩ hl _ (hG.below hB)).mono ?_; rintro e w1 ⟨rfl, hb⟩; rw [hkor])
        go_ret
        exact ⟨k, by rw [hany.out]; simp, rfl, bthen hB hb⟩
      | false =>
        go_wp2_with (go_at_call 32; refine (korean_any ⟨lo, hi, val⟩ hl _ (hG.below hB)).mono ?_; rintro e w1 ⟨rfl, hb⟩; rw [hkor])
        go_roundw
        case rel => exact ⟨k + 1, by omega, by go_num, upto_step HJ hs hkor, bthen hB hb⟩
        case measure => simp [intOf]; omega
    · have hany := Lib.hid (any_no (p := kor) (l := l) fun i s h => HJ.out i s (by have := (List.getElem?_eq_some_iff.1 h).1; rw [hlen.out] at this; omega) h)
      go_wp2_with fail
      go_ret
      exact ⟨-1, by rw [hany.out]; rfl, rfl, hB⟩

set_option maxHeartbeats 400000 in
theorem has_kor (A : Option Addr) (n c : Nat) (l : List Sp) (w : World) (hR : RdSp w A n l) (hG : Glob w) (hok : ∀ (i : Nat) (s : Sp), l[i]? = some s → s.lo ≤ s.hi) :
    Calls Tryd.prog 31 #[.slice A n c, .func (.func 32) #[] #[]] w fun e w' => e = .returned (.bool (l.any kor)) ∧ Below w.heap.size w w' := by
  have HR := Lib.hid hR; have HG := Lib.hid hG; have HO := Lib.hid hok
  clear hR hG hok
  go_enter Tryd.func31, Tryd.ntmps31
  go_wp2_with (go_at_call 44; refine (idx_kor _ _ _ _ _ HR.out HG.out HO.out).mono ?_; rintro e w1 ⟨r, hr, rfl, hb⟩; have Hr := Lib.hid hr; clear hr)
  go_ret
  exact ⟨ret_bool (by rw [← Hr.out]), hb⟩
end Go.Proofs.YtamekpldmplenaaDoor
