/- The chapter's examples hold. -/
import Derived.Test.YtamekpldmplenaaDoorRefG
namespace Go.Proofs.YtamekpldmplenaaDoor
open Go.RowKit Go.Shelf

theorem lit_rd {α : Type} {enc : α → List Value} {k : Nat} (hk : ∀ x, (enc x).length = k) (hk0 : 0 < k) (w : World) (cs : Array Value) (e : TypeId) (n : Nat) (xs : List α) (h : cs.toList = xs.flatMap enc) (hn : n ≤ 17592186044416) (hs : cs.size = n * k) :
    Rd enc k (w.alloc (.cells cs e)) (some ⟨w.heap.size, 0, none⟩) n xs := by
  have h1 := World.ownsRow_lit (base := w.heap.size) (e := e) (size := k) w cs n (Nat.le_refl _) (by simp only [maxLen]; omega) hs
  rw [h] at h1
  obtain ⟨A, c, e1, h2⟩ := own_rd hk hk0 h1 hn
  cases e1
  exact h2

abbrev spA : List Sp := [⟨769, 770, 230⟩, ⟨803, 803, 220⟩]
theorem a97 : cls spA 97 = 0 := by decide
theorem a769 : cls spA 769 = 230 := by decide
theorem a770 : cls spA 770 = 230 := by decide
theorem a803 : cls spA 803 = 220 := by decide
theorem srtA {ys : List Int} (h : F0 (cls spA) [97, 769, 803] ys ∧ Ord (cls spA) ys) : ys = [97, 803, 769] := by
  refine srtd_eq h ⟨fun c => ?_, by simp [Ord, a97, a769, a803]⟩
  simp only [List.filter_cons, List.filter_nil, a97, a769, a803]
  by_cases h1 : c = 230
  · subst h1; decide
  · by_cases h2 : c = 220
    · subst h2; decide
    · have e1 : ¬ (230 : Int) = c := fun e => h1 e.symm
      have e2 : ¬ (220 : Int) = c := fun e => h2 e.symm
      simp [e1, e2]
theorem srtB {ys : List Int} (h : F0 (cls spA) [770, 769, 803] ys ∧ Ord (cls spA) ys) : ys = [803, 770, 769] := by
  refine srtd_eq h ⟨fun c => ?_, by simp [Ord, a770, a769, a803]⟩
  simp only [List.filter_cons, List.filter_nil, a770, a769, a803]
  by_cases h1 : c = 230
  · subst h1; decide
  · by_cases h2 : c = 220
    · subst h2; decide
    · have e1 : ¬ (230 : Int) = c := fun e => h1 e.symm
      have e2 : ¬ (220 : Int) = c := fun e => h2 e.symm
      simp [e1, e2]
theorem runsA : runsF (cls spA) [97, 769, 803] = [⟨1, 3⟩] := by simp [runsF, runsGo, a97, a769, a803]

theorem ba (w : World) (o : Obj) : Below w.heap.size w (w.alloc o) := (Below.refl _ _).alloc (Nat.le_refl _) _
theorem litI (w : World) (cs : Array Value) (e : TypeId) (n : Nat) (xs : List Int) (h : cs.toList = xs.flatMap encI) (hn : n ≤ 17592186044416) (hs : cs.size = n) : RdI (w.alloc (.cells cs e)) (some ⟨w.heap.size, 0, none⟩) n xs :=
  lit_rd encI_len (by omega) w cs e n xs h hn (by rw [hs, Nat.mul_one])

set_option maxHeartbeats 2000000 in
theorem alive_any (w : World) (hG : Glob w) : Calls Tryd.prog 15 #[] w fun e w' => e = .returned (.bool true) ∧ Below w.heap.size w w' := by
  have HG := Lib.hid hG
  clear hG
  go_enter Tryd.func15, Tryd.ntmps15
  have hR0 := lit_rd encSp_len (by omega) w #[.int .i64 769, .int .i64 770, .int .i64 230, .int .i64 803, .int .i64 803, .int .i64 220] 44 2 spA rfl (by omega) rfl
  have hb0 := ba w (.cells #[.int .i64 769, .int .i64 770, .int .i64 230, .int .i64 803, .int .i64 803, .int .i64 220] 44)
  obtain ⟨w0, hw0⟩ : ∃ w0, w.alloc (.cells #[.int .i64 769, .int .i64 770, .int .i64 230, .int .i64 803, .int .i64 803, .int .i64 220] 44) = w0 := ⟨_, rfl⟩
  rw [hw0] at hR0 hb0
  have HR0 := Lib.hid hR0
  have HB0 := Lib.hid hb0
  have HG0 := Lib.hid (HG.out.below hb0)
  clear hR0 hb0
  go_wp2_with fail
  have hT := litI w0 #[.int .i64 97, .int .i64 769, .int .i64 803] 3 3 [97, 769, 803] rfl (by omega) rfl
  have hb := ba w0 (.cells #[.int .i64 97, .int .i64 769, .int .i64 803] 3)
  refine (sort_any _ _ _ spA _ _ _ [97, 769, 803] _ (HR0.out.below hb) hT (HG0.out.below hb)).mono ?_
  rintro e w1 ⟨A1, n1, c1, ys, h1, h2, rfl, hb1⟩
  obtain rfl := srtA h2
  have HB1 := Lib.hid (bthen (bthen HB0.out hb) hb1)
  have HR1 := Lib.hid (HR0.out.below (bthen hb hb1))
  have HG1 := Lib.hid (HG.out.below HB1.out)
  have H1 := Lib.hid h1
  clear h1 h2 hb hb1 hT
  go_wp2_with fail
  have hb := ba w1 (.cells #[.int .i64 97, .int .i64 803, .int .i64 769] 3)
  refine (refEqual_any _ _ _ [97, 803, 769] _ _ _ [97, 803, 769] _ (H1.out.below hb) (litI w1 #[.int .i64 97, .int .i64 803, .int .i64 769] 3 3 [97, 803, 769] rfl (by omega) rfl)).mono ?_
  rintro e w2 ⟨rfl, hb2⟩
  rw [show decide (([97, 803, 769] : List Int) = [97, 803, 769]) = true from rfl]
  have HB2 := Lib.hid (bthen (bthen HB1.out hb) hb2)
  have HR2 := Lib.hid (HR1.out.below (bthen hb hb2))
  have HG2 := Lib.hid (HG.out.below HB2.out)
  clear hb hb2
  go_wp2_with fail
  have hb := ba w2 (.cells #[.int .i64 770, .int .i64 769, .int .i64 803] 3)
  refine (sort_any _ _ _ spA _ _ _ [770, 769, 803] _ (HR2.out.below hb) (litI w2 #[.int .i64 770, .int .i64 769, .int .i64 803] 3 3 [770, 769, 803] rfl (by omega) rfl) (HG2.out.below hb)).mono ?_
  rintro e w3 ⟨A3, n3, c3, ys, h1, h2, rfl, hb1⟩
  obtain rfl := srtB h2
  have HB3 := Lib.hid (bthen (bthen HB2.out hb) hb1)
  have HR3 := Lib.hid (HR2.out.below (bthen hb hb1))
  have HG3 := Lib.hid (HG.out.below HB3.out)
  have H3 := Lib.hid h1
  clear h1 h2 hb hb1
  go_wp2_with fail
  have hb := ba w3 (.cells #[.int .i64 803, .int .i64 770, .int .i64 769] 3)
  refine (refEqual_any _ _ _ [803, 770, 769] _ _ _ [803, 770, 769] _ (H3.out.below hb) (litI w3 #[.int .i64 803, .int .i64 770, .int .i64 769] 3 3 [803, 770, 769] rfl (by omega) rfl)).mono ?_
  rintro e w4 ⟨rfl, hb2⟩
  rw [show decide (([803, 770, 769] : List Int) = [803, 770, 769]) = true from rfl]
  have HB4 := Lib.hid (bthen (bthen HB3.out hb) hb2)
  have HR4 := Lib.hid (HR3.out.below (bthen hb hb2))
  have HG4 := Lib.hid (HG.out.below HB4.out)
  clear hb hb2
  go_wp2_with fail
  refine (class_any _ _ _ 770 spA _ HR4.out HG4.out).mono ?_
  rintro e w5 ⟨rfl, hb⟩
  rw [a770]
  have HB5 := Lib.hid (bthen HB4.out hb)
  have HR5 := Lib.hid (HR4.out.below hb)
  have HG5 := Lib.hid (HG.out.below HB5.out)
  clear hb
  go_wp2_with fail
  have hb := ba w5 (.cells #[.int .i64 97, .int .i64 769, .int .i64 803] 3)
  refine (runs_all _ _ _ spA _ _ _ [97, 769, 803] _ (HR5.out.below hb) (litI w5 #[.int .i64 97, .int .i64 769, .int .i64 803] 3 3 [97, 769, 803] rfl (by omega) rfl) (by omega) (HG5.out.below hb)).mono ?_
  rintro e w6 ⟨A6, n6, c6, ys, h1, h2, rfl, hb1⟩
  rw [runsA] at h2
  subst h2
  have HB6 := Lib.hid (bthen (bthen HB5.out hb) hb1)
  have H6 := Lib.hid h1
  clear h1 hb hb1
  go_wp2_with fail
  have hb := ba w6 (.cells #[.int .i64 1, .int .i64 3] 38)
  refine (same_any _ _ _ [⟨1, 3⟩] _ _ _ [⟨1, 3⟩] _ (H6.out.below hb) (lit_rd encRg_len (by omega) w6 #[.int .i64 1, .int .i64 3] 38 1 [⟨1, 3⟩] rfl (by omega) rfl)).mono ?_
  rintro e w7 ⟨rfl, hb2⟩
  rw [show decide (([⟨1, 3⟩] : List Rg) = [⟨1, 3⟩]) = true by decide]
  have HB7 := Lib.hid (bthen (bthen HB6.out hb) hb2)
  clear hb hb2
  go_wp2_with fail
  go_ret
  exact ⟨rfl, HB7.out⟩
end Go.Proofs.YtamekpldmplenaaDoor
