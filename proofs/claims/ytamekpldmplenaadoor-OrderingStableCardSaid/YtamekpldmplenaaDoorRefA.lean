import Derived.Test.YtamekpldmplenaaDoorCheckB
namespace Go.Proofs.YtamekpldmplenaaDoor
open Go.RowKit Go.Shelf

def vld (c : Int) : Bool := decide (0 ≤ c ∧ c ≤ 1114111)
theorem vld_true {c : Int} (h : 0 ≤ c ∧ c ≤ 1114111) : vld c = true := decide_eq_true h
theorem vld_false {c : Int} (h : ¬ (0 ≤ c ∧ c ≤ 1114111)) : vld c = false := decide_eq_false h

set_option maxHeartbeats 400000 in
theorem valid_any (c : Int) (w : World) : Calls Tryd.prog 33 #[.int .i64 c] w fun e w' => e = .returned (.bool (vld c)) ∧ w' = w := by
  by_cases h1 : 0 ≤ c
  · by_cases h2 : c ≤ 1114111
    · have hf := Lib.hid (vld_true ⟨h1, h2⟩)
      go_enter Tryd.func33, Tryd.ntmps33
      go_wp2
      go_ret
      exact ⟨ret_bool hf.out.symm, rfl⟩
    · have hf := Lib.hid (vld_false (c := c) (by omega))
      have hd : decide (c ≤ 1114111) = false := decide_eq_false h2
      go_enter Tryd.func33, Tryd.ntmps33
      go_wp2
      go_ret
      exact ⟨ret_bool hf.out.symm, rfl⟩
  · have hf := Lib.hid (vld_false (c := c) (by omega))
    have hd : decide (0 ≤ c) = false := decide_eq_false h1
    go_enter Tryd.func33, Tryd.ntmps33
    go_wp2
    go_ret
    exact ⟨ret_bool hf.out.symm, rfl⟩

set_option maxHeartbeats 400000 in
theorem hangul_any (w : World) : Calls Tryd.prog 34 #[] w fun e w' => ∃ A c, RdRg w' A 4 rgs ∧ e = .returned (.slice A 4 c) ∧ Below w.heap.size w w' := by
  go_enter Tryd.func34, Tryd.ntmps34
  go_wp2
  go_ret
  refine ⟨_, _, ⟨rfl, by omega, fun _ => ⟨_, _, rfl, fun i hi j u hu => ?_⟩⟩, rfl, (Below.refl _ _).alloc (Nat.le_refl _) _⟩
  have hj : j < 2 := by have := (List.getElem?_eq_some_iff.1 hu).1; simpa [encRg] using this
  have hi' : i = 0 ∨ i = 1 ∨ i = 2 ∨ i = 3 := by simp [rgs] at hi; omega
  have hj' : j = 0 ∨ j = 1 := by omega
  rcases hi' with rfl | rfl | rfl | rfl <;> rcases hj' with rfl | rfl <;> (simp [rgs, encRg] at hu; subst hu; go_simp)
end Go.Proofs.YtamekpldmplenaaDoor
