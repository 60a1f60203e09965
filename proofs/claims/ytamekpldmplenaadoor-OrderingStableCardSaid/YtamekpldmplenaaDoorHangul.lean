import Derived.Test.YtamekpldmplenaaDoorBase
namespace Go.Proofs.YtamekpldmplenaaDoor
open Go.RowKit

def hidx (c f n : Int) : Int := if c < f ∨ f + n ≤ c then -1 else c - f

set_option maxHeartbeats 400000 in
theorem index_any (c f n : Int) (w : World) (h0 : 0 ≤ f) (h1 : 0 ≤ n) (h2 : f + n ≤ 1000000) :
    Calls Tryd.prog 54 #[.int .i64 c, .int .i64 f, .int .i64 n] w fun e w' => e = .returned (.int .i64 (hidx c f n)) ∧ w = w' := by
  by_cases hc : c < f
  · have h : hidx c f n = -1 := by unfold hidx; rw [if_pos (.inl hc)]
    have H := Lib.hid h; clear h
    go_enter Tryd.func54, Tryd.ntmps54
    go_wp2
    go_ret
    exact ⟨ret_int H.out.symm, rfl⟩
  · by_cases hd : f + n ≤ c
    · have h : hidx c f n = -1 := by unfold hidx; rw [if_pos (.inr hd)]
      have H := Lib.hid h; clear h
      go_enter Tryd.func54, Tryd.ntmps54
      go_wp2
      go_ret
      exact ⟨ret_int H.out.symm, rfl⟩
    · have h : hidx c f n = c - f := by unfold hidx; rw [if_neg (by omega)]
      have H := Lib.hid h; clear h
      go_enter Tryd.func54, Tryd.ntmps54
      go_wp2
      go_ret
      exact ⟨ret_int H.out.symm, rfl⟩

def kindF (c : Int) : Int :=
  if 44032 ≤ c ∧ c < 55204 then (if (c - 44032) % 28 = 0 then 4 else 5)
  else if 4352 ≤ c ∧ c < 4371 then 1 else if 4449 ≤ c ∧ c < 4470 then 2 else if 4520 ≤ c ∧ c < 4547 then 3 else 0

set_option maxHeartbeats 400000 in
theorem kind_any (c : Int) (w : World) :
    Calls Tryd.prog 45 #[.int .i64 c] w fun e w' => e = .returned (.int .i64 (kindF c)) ∧ Below w.heap.size w w' := by
  by_cases hs : 44032 ≤ c ∧ c < 55204
  · have hk : hidx c 44032 11172 = c - 44032 := by unfold hidx; rw [if_neg (by omega)]
    obtain ⟨hs1, hs2⟩ := hs
    by_cases hm : (c - 44032) % 28 = 0
    · have h : kindF c = 4 := by unfold kindF; rw [if_pos (by omega), if_pos (by omega)]
      have H := Lib.hid h; clear h
      have hm' := beq_iff_eq.2 hm; clear hm
      go_enter Tryd.func45, Tryd.ntmps45
      go_wp2_with (go_at_call 54; refine (index_any _ _ _ _ (by omega) (by omega) (by omega)).mono ?_; rintro e w' ⟨rfl, rfl⟩; rw [hk])
      go_ret
      exact ⟨ret_int H.out.symm, by repeat (first | exact Below.refl _ _ | refine Below.alloc ?_ (by first | exact Nat.le_refl _ | (simp; done) | (simp; omega)) _ | refine Below.setCell ?_ (by first | exact Nat.le_refl _ | (simp; done) | (simp; omega)) _ | refine Below.drew ?_)⟩
    · have h : kindF c = 5 := by unfold kindF; rw [if_pos (by omega), if_neg (by omega)]
      have H := Lib.hid h; clear h
      have hm' := beq_eq_false_iff_ne.2 hm; clear hm
      go_enter Tryd.func45, Tryd.ntmps45
      go_wp2_with (go_at_call 54; refine (index_any _ _ _ _ (by omega) (by omega) (by omega)).mono ?_; rintro e w' ⟨rfl, rfl⟩; rw [hk])
      go_ret
      exact ⟨ret_int H.out.symm, by repeat (first | exact Below.refl _ _ | refine Below.alloc ?_ (by first | exact Nat.le_refl _ | (simp; done) | (simp; omega)) _ | refine Below.setCell ?_ (by first | exact Nat.le_refl _ | (simp; done) | (simp; omega)) _ | refine Below.drew ?_)⟩
  · have hk : hidx c 44032 11172 = -1 := by unfold hidx; rw [if_pos (by omega)]
    have i0 : ∀ w, (Instr.index 67 (.agg #[.int .i64 4352, .int .i64 19, .int .i64 4449, .int .i64 21, .int .i64 4520, .int .i64 27]) (.int .i64 0)).run Tryd.prog w = .ok (.agg #[.int .i64 4352, .int .i64 19]) w := fun _ => by kernel_rfl
    have i1 : ∀ w, (Instr.index 67 (.agg #[.int .i64 4352, .int .i64 19, .int .i64 4449, .int .i64 21, .int .i64 4520, .int .i64 27]) (.int .i64 1)).run Tryd.prog w = .ok (.agg #[.int .i64 4449, .int .i64 21]) w := fun _ => by kernel_rfl
    have i2 : ∀ w, (Instr.index 67 (.agg #[.int .i64 4352, .int .i64 19, .int .i64 4449, .int .i64 21, .int .i64 4520, .int .i64 27]) (.int .i64 2)).run Tryd.prog w = .ok (.agg #[.int .i64 4520, .int .i64 27]) w := fun _ => by kernel_rfl
    by_cases c1 : 4352 ≤ c ∧ c < 4371
    · have h : kindF c = 1 := by unfold kindF; rw [if_neg (by omega), if_pos (by omega)]
      have H := Lib.hid h; clear h
      have k1 : hidx c 4352 19 = c - 4352 := by unfold hidx; rw [if_neg (by omega)]
      obtain ⟨c1, c1'⟩ := c1
      go_enter Tryd.func45, Tryd.ntmps45
      go_wp2_with (go_at_call 54; refine (index_any _ _ _ _ (by omega) (by omega) (by omega)).mono ?_; rintro e w' ⟨rfl, rfl⟩; first | rw [hk] | rw [k1] | rw [k2] | rw [k3])
      refine wp_loop_rounds 4 ?_; rw [rounds_succ]
      go_wp2_with (go_at_call 54; refine (index_any _ _ _ _ (by omega) (by omega) (by omega)).mono ?_; rintro e w' ⟨rfl, rfl⟩; first | rw [hk] | rw [k1] | rw [k2] | rw [k3])
      go_ret
      exact ⟨ret_int H.out.symm, by repeat (first | exact Below.refl _ _ | refine Below.alloc ?_ (by first | exact Nat.le_refl _ | (simp; done) | (simp; omega)) _ | refine Below.setCell ?_ (by first | exact Nat.le_refl _ | (simp; done) | (simp; omega)) _ | refine Below.drew ?_)⟩
    by_cases c2 : 4449 ≤ c ∧ c < 4470
    · have h : kindF c = 2 := by unfold kindF; rw [if_neg (by omega), if_neg (by omega), if_pos (by omega)]
      have H := Lib.hid h; clear h
      have k1 : hidx c 4352 19 = -1 := by unfold hidx; rw [if_pos (by omega)]
      have k2 : hidx c 4449 21 = c - 4449 := by unfold hidx; rw [if_neg (by omega)]
      obtain ⟨c1, c1'⟩ := c2
      go_enter Tryd.func45, Tryd.ntmps45
      go_wp2_with (go_at_call 54; refine (index_any _ _ _ _ (by omega) (by omega) (by omega)).mono ?_; rintro e w' ⟨rfl, rfl⟩; first | rw [hk] | rw [k1] | rw [k2] | rw [k3])
      refine wp_loop_rounds 4 ?_; rw [rounds_succ]
      go_wp2_with (go_at_call 54; refine (index_any _ _ _ _ (by omega) (by omega) (by omega)).mono ?_; rintro e w' ⟨rfl, rfl⟩; first | rw [hk] | rw [k1] | rw [k2] | rw [k3])
      rw [rounds_succ]
      go_wp2_with (go_at_call 54; refine (index_any _ _ _ _ (by omega) (by omega) (by omega)).mono ?_; rintro e w' ⟨rfl, rfl⟩; first | rw [hk] | rw [k1] | rw [k2] | rw [k3])
      go_ret
      exact ⟨ret_int H.out.symm, by repeat (first | exact Below.refl _ _ | refine Below.alloc ?_ (by first | exact Nat.le_refl _ | (simp; done) | (simp; omega)) _ | refine Below.setCell ?_ (by first | exact Nat.le_refl _ | (simp; done) | (simp; omega)) _ | refine Below.drew ?_)⟩
    by_cases c3 : 4520 ≤ c ∧ c < 4547
    · have h : kindF c = 3 := by unfold kindF; rw [if_neg (by omega), if_neg (by omega), if_neg (by omega), if_pos (by omega)]
      have H := Lib.hid h; clear h
      have k1 : hidx c 4352 19 = -1 := by unfold hidx; rw [if_pos (by omega)]
      have k2 : hidx c 4449 21 = -1 := by unfold hidx; rw [if_pos (by omega)]
      have k3 : hidx c 4520 27 = c - 4520 := by unfold hidx; rw [if_neg (by omega)]
      obtain ⟨c1, c1'⟩ := c3
      go_enter Tryd.func45, Tryd.ntmps45
      go_wp2_with (go_at_call 54; refine (index_any _ _ _ _ (by omega) (by omega) (by omega)).mono ?_; rintro e w' ⟨rfl, rfl⟩; first | rw [hk] | rw [k1] | rw [k2] | rw [k3])
      refine wp_loop_rounds 4 ?_; rw [rounds_succ]
      go_wp2_with (go_at_call 54; refine (index_any _ _ _ _ (by omega) (by omega) (by omega)).mono ?_; rintro e w' ⟨rfl, rfl⟩; first | rw [hk] | rw [k1] | rw [k2] | rw [k3])
      rw [rounds_succ]
      go_wp2_with (go_at_call 54; refine (index_any _ _ _ _ (by omega) (by omega) (by omega)).mono ?_; rintro e w' ⟨rfl, rfl⟩; first | rw [hk] | rw [k1] | rw [k2] | rw [k3])
      rw [rounds_succ]
      go_wp2_with (go_at_call 54; refine (index_any _ _ _ _ (by omega) (by omega) (by omega)).mono ?_; rintro e w' ⟨rfl, rfl⟩; first | rw [hk] | rw [k1] | rw [k2] | rw [k3])
      go_ret
      exact ⟨ret_int H.out.symm, by repeat (first | exact Below.refl _ _ | refine Below.alloc ?_ (by first | exact Nat.le_refl _ | (simp; done) | (simp; omega)) _ | refine Below.setCell ?_ (by first | exact Nat.le_refl _ | (simp; done) | (simp; omega)) _ | refine Below.drew ?_)⟩
    · have h : kindF c = 0 := by unfold kindF; rw [if_neg (by omega), if_neg (by omega), if_neg (by omega), if_neg (by omega)]
      have H := Lib.hid h; clear h
      have k1 : hidx c 4352 19 = -1 := by unfold hidx; rw [if_pos (by omega)]
      have k2 : hidx c 4449 21 = -1 := by unfold hidx; rw [if_pos (by omega)]
      have k3 : hidx c 4520 27 = -1 := by unfold hidx; rw [if_pos (by omega)]
      go_enter Tryd.func45, Tryd.ntmps45
      go_wp2_with (go_at_call 54; refine (index_any _ _ _ _ (by omega) (by omega) (by omega)).mono ?_; rintro e w' ⟨rfl, rfl⟩; first | rw [hk] | rw [k1] | rw [k2] | rw [k3])
      refine wp_loop_rounds 4 ?_; rw [rounds_succ]
      go_wp2_with (go_at_call 54; refine (index_any _ _ _ _ (by omega) (by omega) (by omega)).mono ?_; rintro e w' ⟨rfl, rfl⟩; first | rw [hk] | rw [k1] | rw [k2] | rw [k3])
      rw [rounds_succ]
      go_wp2_with (go_at_call 54; refine (index_any _ _ _ _ (by omega) (by omega) (by omega)).mono ?_; rintro e w' ⟨rfl, rfl⟩; first | rw [hk] | rw [k1] | rw [k2] | rw [k3])
      rw [rounds_succ]
      go_wp2_with (go_at_call 54; refine (index_any _ _ _ _ (by omega) (by omega) (by omega)).mono ?_; rintro e w' ⟨rfl, rfl⟩; first | rw [hk] | rw [k1] | rw [k2] | rw [k3])
      rw [rounds_succ]
      go_wp2_with (go_at_call 54; refine (index_any _ _ _ _ (by omega) (by omega) (by omega)).mono ?_; rintro e w' ⟨rfl, rfl⟩; first | rw [hk] | rw [k1] | rw [k2] | rw [k3])
      go_ret
      exact ⟨ret_int H.out.symm, by repeat (first | exact Below.refl _ _ | refine Below.alloc ?_ (by first | exact Nat.le_refl _ | (simp; done) | (simp; omega)) _ | refine Below.setCell ?_ (by first | exact Nat.le_refl _ | (simp; done) | (simp; omega)) _ | refine Below.drew ?_)⟩
end Go.Proofs.YtamekpldmplenaaDoor
