import Derived.Test.YtamekpldmplenaaDoorHangul
namespace Go.Proofs.YtamekpldmplenaaDoor
open Go.RowKit

def rgs : List Rg := [⟨4352, 4370⟩, ⟨4449, 4469⟩, ⟨4520, 4546⟩, ⟨44032, 55203⟩]
def meets (s : Sp) (r : Rg) : Bool := decide (s.lo ≤ r.hi ∧ r.lo ≤ s.hi)
def kor (s : Sp) : Bool := rgs.any (meets s)
theorem kor0 (s : Sp) (h : s.lo ≤ 4370) (k : 4352 ≤ s.hi) : true = kor s := by simp [kor, rgs, meets, h, k]
theorem kor1 (s : Sp) (h : s.lo ≤ 4469) (k : 4449 ≤ s.hi) : true = kor s := by simp [kor, rgs, meets, h, k]
theorem kor2 (s : Sp) (h : s.lo ≤ 4546) (k : 4520 ≤ s.hi) : true = kor s := by simp [kor, rgs, meets, h, k]
theorem kor3 (s : Sp) (h : s.lo ≤ 55203) (k : 44032 ≤ s.hi) : true = kor s := by simp [kor, rgs, meets, h, k]
theorem kor_no (s : Sp) (h : ∀ j (h : j < 4), j < 4 → meets s (rgs[j]'h) = false) : kor s = false := by
  have h0 := h 0 (by omega) (by omega); have h1 := h 1 (by omega) (by omega); have h2 := h 2 (by omega) (by omega); have h3 := h 3 (by omega) (by omega)
  simp only [kor, rgs, List.any_cons, List.any_nil]
  simp only [rgs] at h0 h1 h2 h3
  rw [show meets s ⟨4352, 4370⟩ = false from h0, show meets s ⟨4449, 4469⟩ = false from h1, show meets s ⟨4520, 4546⟩ = false from h2, show meets s ⟨44032, 55203⟩ = false from h3]; rfl
theorem meets_step (s : Sp) (k : Nat) (hk : k < 4) (H : Hid (∀ j (h : j < 4), j < k → meets s (rgs[j]'h) = false)) (h : meets s (rgs[k]'hk) = false) : Hid (∀ j (h : j < 4), j < k + 1 → meets s (rgs[j]'h) = false) := by
  intro j hj hjk
  by_cases e : j = k
  · subst e; exact h
  · exact H.out j hj (by omega)

theorem kind_ne_any (c : Int) (w : World) (h : 4352 ≤ c ∧ c ≤ 4370 ∨ 4449 ≤ c ∧ c ≤ 4469 ∨ 4520 ≤ c ∧ c ≤ 4546 ∨ 44032 ≤ c ∧ c ≤ 55203) :
    Calls Tryd.prog 45 #[.int .i64 c] w fun e w' => ∃ q : Int, (q != 0) = true ∧ e = .returned (.int .i64 q) ∧ Below w.heap.size w w' :=
  (kind_any c w).mono fun e w' ⟨he, hb⟩ => ⟨kindF c, by rw [bne_iff_ne]; unfold kindF; (repeat' split) <;> omega, he, hb⟩

set_option maxHeartbeats 1000000 in
theorem korean_any (s : Sp) (hok : s.lo ≤ s.hi) (w : World) (hG : Glob w) :
    Calls Tryd.prog 32 #[.agg #[.int .i64 s.lo, .int .i64 s.hi, .int .i64 s.val]] w fun e w' => e = .returned (.bool (kor s)) ∧ Below w.heap.size w w' := by
  obtain ⟨lo, hi, val⟩ := s
  replace hok : lo ≤ hi := hok
  obtain ⟨g0, g1, g2, g3, g4, g5, g6, g7⟩ := hG
  have hGs := World.block_lt_of_cell? w _ g0
  have i0 : ∀ w, (Instr.index 60 (.agg #[.int .i64 4352, .int .i64 4370, .int .i64 4449, .int .i64 4469, .int .i64 4520, .int .i64 4546, .int .i64 44032, .int .i64 55203]) (.int .i64 0)).run Tryd.prog w = .ok (.agg #[.int .i64 4352, .int .i64 4370]) w := fun _ => by kernel_rfl
  have i1 : ∀ w, (Instr.index 60 (.agg #[.int .i64 4352, .int .i64 4370, .int .i64 4449, .int .i64 4469, .int .i64 4520, .int .i64 4546, .int .i64 44032, .int .i64 55203]) (.int .i64 1)).run Tryd.prog w = .ok (.agg #[.int .i64 4449, .int .i64 4469]) w := fun _ => by kernel_rfl
  have i2 : ∀ w, (Instr.index 60 (.agg #[.int .i64 4352, .int .i64 4370, .int .i64 4449, .int .i64 4469, .int .i64 4520, .int .i64 4546, .int .i64 44032, .int .i64 55203]) (.int .i64 2)).run Tryd.prog w = .ok (.agg #[.int .i64 4520, .int .i64 4546]) w := fun _ => by kernel_rfl
  have i3 : ∀ w, (Instr.index 60 (.agg #[.int .i64 4352, .int .i64 4370, .int .i64 4449, .int .i64 4469, .int .i64 4520, .int .i64 4546, .int .i64 44032, .int .i64 55203]) (.int .i64 3)).run Tryd.prog w = .ok (.agg #[.int .i64 44032, .int .i64 55203]) w := fun _ => by kernel_rfl
  go_enter Tryd.func32, Tryd.ntmps32
  go_wp2_with fail
  go_loopw [8] (fun i wr => ∃ k : Nat, k ≤ 4 ∧ i = .int .i64 k ∧ Hid (∀ j (h : j < 4), j < k → meets ⟨lo, hi, val⟩ (rgs[j]'h) = false) ∧ wr.cell? ⟨w.heap.size, 0, none⟩ = some (.int .i64 lo) ∧ wr.cell? ⟨w.heap.size, 1, none⟩ = some (.int .i64 hi) ∧ Below w.heap.size w wr ∧ w.heap.size < wr.heap.size)
    (fun i _ => 4 - (intOf i).toNat)
  case atStart => exact ⟨0, by omega, rfl, fun j h hk => absurd hk (by omega), by simp, by simp, (Below.refl _ _).alloc (Nat.le_refl _) _, by simp⟩
  case round =>
    obtain ⟨k, hk, rfl, HJ, hlo, hhi, hB, hz⟩ := hrel
    by_cases hk4 : k < 4
    · have hk' : k = 0 ∨ k = 1 ∨ k = 2 ∨ k = 3 := by omega
      rcases hk' with rfl | rfl | rfl | rfl
      · go_wp2_with fail
        go_quiet (fail)
        go_wp2_with (go_at_call 45; refine (kind_ne_any _ _ (by omega)).mono ?_; rintro e w1 ⟨q, hq, rfl, hb⟩)
        all_goals first
          | (go_ret; exact ⟨ret_bool (kor0 ⟨lo, hi, val⟩ (by dsimp only; omega) (by dsimp only; omega)), bthen (bdrewN (hB.alloc hB.size _) _) hb⟩)
          | (go_roundw
             case rel => exact ⟨1, by omega, rfl, meets_step ⟨lo, hi, val⟩ 0 (by omega) HJ (by simp only [meets, rgs]; exact decide_eq_false (by dsimp; omega)), by go_simp, by go_simp, bdrewN (hB.alloc hB.size _) _, by simp; omega⟩
             case measure => simp [intOf])
      · go_wp2_with fail
        go_quiet (fail)
        go_wp2_with (go_at_call 45; refine (kind_ne_any _ _ (by omega)).mono ?_; rintro e w1 ⟨q, hq, rfl, hb⟩)
        all_goals first
          | (go_ret; exact ⟨ret_bool (kor1 ⟨lo, hi, val⟩ (by dsimp only; omega) (by dsimp only; omega)), bthen (bdrewN (hB.alloc hB.size _) _) hb⟩)
          | (go_roundw
             case rel => exact ⟨2, by omega, rfl, meets_step ⟨lo, hi, val⟩ 1 (by omega) HJ (by simp only [meets, rgs]; exact decide_eq_false (by dsimp; omega)), by go_simp, by go_simp, bdrewN (hB.alloc hB.size _) _, by simp; omega⟩
             case measure => simp [intOf])
      · go_wp2_with fail
        go_quiet (fail)
        go_wp2_with (go_at_call 45; refine (kind_ne_any _ _ (by omega)).mono ?_; rintro e w1 ⟨q, hq, rfl, hb⟩)
        all_goals first
          | (go_ret; exact ⟨ret_bool (kor2 ⟨lo, hi, val⟩ (by dsimp only; omega) (by dsimp only; omega)), bthen (bdrewN (hB.alloc hB.size _) _) hb⟩)
          | (go_roundw
             case rel => exact ⟨3, by omega, rfl, meets_step ⟨lo, hi, val⟩ 2 (by omega) HJ (by simp only [meets, rgs]; exact decide_eq_false (by dsimp; omega)), by go_simp, by go_simp, bdrewN (hB.alloc hB.size _) _, by simp; omega⟩
             case measure => simp [intOf])
      · go_wp2_with fail
        go_quiet (fail)
        go_wp2_with (go_at_call 45; refine (kind_ne_any _ _ (by omega)).mono ?_; rintro e w1 ⟨q, hq, rfl, hb⟩)
        all_goals first
          | (go_ret; exact ⟨ret_bool (kor3 ⟨lo, hi, val⟩ (by dsimp only; omega) (by dsimp only; omega)), bthen (bdrewN (hB.alloc hB.size _) _) hb⟩)
          | (go_roundw
             case rel => exact ⟨4, by omega, rfl, meets_step ⟨lo, hi, val⟩ 3 (by omega) HJ (by simp only [meets, rgs]; exact decide_eq_false (by dsimp; omega)), by go_simp, by go_simp, bdrewN (hB.alloc hB.size _) _, by simp; omega⟩
             case measure => simp [intOf])
    · have e : k = 4 := by omega
      subst e
      have h : kor ⟨lo, hi, val⟩ = false := kor_no _ HJ.out
      have H := Lib.hid h; clear h
      go_wp2
      go_ret
      exact ⟨ret_bool H.out.symm, hB⟩
end Go.Proofs.YtamekpldmplenaaDoor
