/- The laws that only call and compare: walked. -/
import Derived.Test.YtamekpldmplenaaDoorAlive
namespace Go.Proofs.YtamekpldmplenaaDoor
open Go.RowKit Go.Shelf

set_option maxHeartbeats 2000000 in
theorem checks_any (A : Option Addr) (n c : Nat) (l : List Sp) (w : World) (hR : RdSp w A n l) (hG : Glob w) : Calls Tryd.prog 3 #[.slice A n c] w fun e w' => e = .returned (.bool true) ∧ Below w.heap.size w w' := by
  have HR := Lib.hid hR; have HG := Lib.hid hG
  clear hR hG
  by_cases hs : n ≤ 16
  · have hd := decide_eq_true hs
    go_enter Tryd.func3, Tryd.ntmps3
    go_wp2_with fail
    refine (small_any _ _ _ _).mono ?_
    rintro e w1 ⟨rfl, rfl⟩
    rw [hd]
    have HB0 := Lib.hid (Below.refl w1.heap.size w1)
    go_wp2_with fail
    refine (check_any _ _ _ l _ (HR.out.below HB0.out) (HG.out.below HB0.out)).mono ?_
    rintro e w1 ⟨rfl, hb⟩
    have HB1 := Lib.hid (bthen HB0.out hb)
    clear hb
    go_wp2_with fail
    refine (refCheck_any _ _ _ l _ (HR.out.below HB1.out)).mono ?_
    rintro e w2 ⟨rfl, hb⟩
    have HB2 := Lib.hid (bthen HB1.out hb)
    clear hb
    go_wp2_with fail
    refine (alive_any _ (HG.out.below HB2.out)).mono ?_
    rintro e w3 ⟨rfl, hb⟩
    have HB3 := Lib.hid (bthen HB2.out hb)
    clear hb
    go_wp2_with fail
    go_ret
    exact ⟨rfl, HB3.out⟩
  · have hd := decide_eq_false hs
    go_enter Tryd.func3, Tryd.ntmps3
    go_wp2_with fail
    refine (small_any _ _ _ _).mono ?_
    rintro e w1 ⟨rfl, rfl⟩
    rw [hd]
    have HB0 := Lib.hid (Below.refl w1.heap.size w1)
    go_wp2_with fail
    refine (alive_any _ (HG.out.below HB0.out)).mono ?_
    rintro e w1 ⟨rfl, hb⟩
    have HB1 := Lib.hid (bthen HB0.out hb)
    clear hb
    go_wp2_with fail
    go_ret
    exact ⟨rfl, HB1.out⟩


set_option maxHeartbeats 2000000 in
theorem classes_any (A : Option Addr) (n c : Nat) (l : List Sp) (x : Int) (w : World) (hR : RdSp w A n l) (hG : Glob w) : Calls Tryd.prog 8 #[.slice A n c, .int .i64 x] w fun e w' => e = .returned (.bool true) ∧ Below w.heap.size w w' := by
  have HR := Lib.hid hR; have HG := Lib.hid hG
  clear hR hG
  by_cases hs : n ≤ 16
  · have hd := decide_eq_true hs
    go_enter Tryd.func8, Tryd.ntmps8
    go_wp2_with fail
    refine (small_any _ _ _ _).mono ?_
    rintro e w1 ⟨rfl, rfl⟩
    rw [hd]
    have HB0 := Lib.hid (Below.refl w1.heap.size w1)
    go_wp2_with fail
    refine (class_any _ _ _ x l _ (HR.out.below HB0.out) (HG.out.below HB0.out)).mono ?_
    rintro e w1 ⟨rfl, hb⟩
    have HB1 := Lib.hid (bthen HB0.out hb)
    clear hb
    go_wp2_with fail
    refine (refClass_any _ _ _ x l _ (HR.out.below HB1.out)).mono ?_
    rintro e w2 ⟨rfl, hb⟩
    have HB2 := Lib.hid (bthen HB1.out hb)
    clear hb
    go_wp2_with fail
    refine (starter_any _ _ _ x l _ (HR.out.below HB2.out) (HG.out.below HB2.out)).mono ?_
    rintro e w3 ⟨rfl, hb⟩
    have HB3 := Lib.hid (bthen HB2.out hb)
    clear hb
    go_wp2_with fail
    refine (refStarter_any _ _ _ x l _ (HR.out.below HB3.out)).mono ?_
    rintro e w4 ⟨rfl, hb⟩
    have HB4 := Lib.hid (bthen HB3.out hb)
    clear hb
    go_wp2_with fail
    refine (alive_any _ (HG.out.below HB4.out)).mono ?_
    rintro e w5 ⟨rfl, hb⟩
    have HB5 := Lib.hid (bthen HB4.out hb)
    clear hb
    go_wp2_with fail
    go_ret
    exact ⟨rfl, HB5.out⟩
  · have hd := decide_eq_false hs
    go_enter Tryd.func8, Tryd.ntmps8
    go_wp2_with fail
    refine (small_any _ _ _ _).mono ?_
    rintro e w1 ⟨rfl, rfl⟩
    rw [hd]
    have HB0 := Lib.hid (Below.refl w1.heap.size w1)
    go_wp2_with fail
    refine (alive_any _ (HG.out.below HB0.out)).mono ?_
    rintro e w1 ⟨rfl, hb⟩
    have HB1 := Lib.hid (bthen HB0.out hb)
    clear hb
    go_wp2_with fail
    go_ret
    exact ⟨rfl, HB1.out⟩


set_option maxHeartbeats 2000000 in
theorem lawRuns_any (A : Option Addr) (n c : Nat) (l : List Sp) (A' : Option Addr) (len cap : Nat) (text : List Int) (w : World) (hR : RdSp w A n l) (hT : RdI w A' len text) (hG : Glob w) : Calls Tryd.prog 4 #[.slice A n c, .slice A' len cap] w fun e w' => e = .returned (.bool true) ∧ Below w.heap.size w w' := by
  have HR := Lib.hid hR; have HG := Lib.hid hG; have HT := Lib.hid hT
  clear hR hG hT
  by_cases hs : n ≤ 16 ∧ len ≤ 40
  · have hd := decide_eq_true hs
    have hl : len ≤ 1000000000 := by omega
    go_enter Tryd.func4, Tryd.ntmps4
    go_wp2_with fail
    refine (few_any _ _ _ _ _ _ _).mono ?_
    rintro e w1 ⟨rfl, rfl⟩
    rw [hd]
    have HB0 := Lib.hid (Below.refl w1.heap.size w1)
    go_wp2_with fail
    refine (runs_all _ _ _ l _ _ _ text _ (HR.out.below HB0.out) (HT.out.below HB0.out) hl (HG.out.below HB0.out)).mono ?_
    rintro e w1 ⟨A1, n1, c1, ys, h1, h2, rfl, hb⟩
    have HB1 := Lib.hid (bthen HB0.out hb)
    have H1 := Lib.hid h1
    have E1 := Lib.hid h2
    clear h1 h2
    clear hb
    go_wp2_with fail
    refine (refRuns_any _ _ _ l _ _ _ text _ (HR.out.below HB1.out) (HT.out.below HB1.out) hl).mono ?_
    rintro e w2 ⟨A2, n2, c2, zs, h1, h2, rfl, hb⟩
    have HB2 := Lib.hid (bthen HB1.out hb)
    have H2 := Lib.hid h1
    have E2 := Lib.hid h2
    have H1 := Lib.hid (H1.out.below hb)
    clear h1 h2
    clear hb
    go_wp2_with fail
    refine (same_any _ _ _ ys _ _ _ zs _ H1.out H2.out).mono ?_
    rintro e w3 ⟨rfl, hb⟩
    have HB3 := Lib.hid (bthen HB2.out hb)
    rw [decide_eq_true (E1.out.trans E2.out.symm)]
    clear hb
    go_wp2_with fail
    refine (alive_any _ (HG.out.below HB3.out)).mono ?_
    rintro e w4 ⟨rfl, hb⟩
    have HB4 := Lib.hid (bthen HB3.out hb)
    clear hb
    go_wp2_with fail
    go_ret
    exact ⟨rfl, HB4.out⟩
  · have hd := decide_eq_false hs
    go_enter Tryd.func4, Tryd.ntmps4
    go_wp2_with fail
    refine (few_any _ _ _ _ _ _ _).mono ?_
    rintro e w1 ⟨rfl, rfl⟩
    rw [hd]
    have HB0 := Lib.hid (Below.refl w1.heap.size w1)
    go_wp2_with fail
    refine (alive_any _ (HG.out.below HB0.out)).mono ?_
    rintro e w1 ⟨rfl, hb⟩
    have HB1 := Lib.hid (bthen HB0.out hb)
    clear hb
    go_wp2_with fail
    go_ret
    exact ⟨rfl, HB1.out⟩


set_option maxHeartbeats 2000000 in
theorem lawSorts_any (A : Option Addr) (n c : Nat) (l : List Sp) (A' : Option Addr) (len cap : Nat) (text : List Int) (w : World) (hR : RdSp w A n l) (hT : RdI w A' len text) (hG : Glob w) : Calls Tryd.prog 10 #[.slice A n c, .slice A' len cap] w fun e w' => e = .returned (.bool true) ∧ Below w.heap.size w w' := by
  have HR := Lib.hid hR; have HG := Lib.hid hG; have HT := Lib.hid hT
  clear hR hG hT
  by_cases hs : n ≤ 16 ∧ len ≤ 40
  · have hd := decide_eq_true hs
    have hl : len ≤ 1000000000 := by omega
    go_enter Tryd.func10, Tryd.ntmps10
    go_wp2_with fail
    refine (few_any _ _ _ _ _ _ _).mono ?_
    rintro e w1 ⟨rfl, rfl⟩
    rw [hd]
    have HB0 := Lib.hid (Below.refl w1.heap.size w1)
    go_wp2_with fail
    refine (sort_any _ _ _ l _ _ _ text _ (HR.out.below HB0.out) (HT.out.below HB0.out) (HG.out.below HB0.out)).mono ?_
    rintro e w1 ⟨A1, n1, c1, ys, h1, h2, rfl, hb⟩
    have HB1 := Lib.hid (bthen HB0.out hb)
    have H1 := Lib.hid h1
    have E1 := Lib.hid h2
    clear h1 h2
    clear hb
    go_wp2_with fail
    refine (refSort_any _ _ _ l _ _ _ text _ (HR.out.below HB1.out) (HT.out.below HB1.out) hl).mono ?_
    rintro e w2 ⟨A2, n2, c2, zs, h1, h2, rfl, hb⟩
    have HB2 := Lib.hid (bthen HB1.out hb)
    have H2 := Lib.hid h1
    have E2 := Lib.hid h2
    have H1 := Lib.hid (H1.out.below hb)
    clear h1 h2
    clear hb
    go_wp2_with fail
    refine (refEqual_any _ _ _ ys _ _ _ zs _ H1.out H2.out).mono ?_
    rintro e w3 ⟨rfl, hb⟩
    have HB3 := Lib.hid (bthen HB2.out hb)
    rw [decide_eq_true (srtd_eq E1.out E2.out)]
    clear hb
    go_wp2_with fail
    refine (sorted_any _ _ _ l _ _ _ text _ (HR.out.below HB3.out) (HT.out.below HB3.out) (HG.out.below HB3.out)).mono ?_
    rintro e w4 ⟨r1, h1, rfl, hb⟩
    have HB4 := Lib.hid (bthen HB3.out hb)
    have E3 := Lib.hid h1
    clear h1
    clear hb
    go_wp2_with fail
    refine (refSorted_any _ _ _ l _ _ _ text _ (HR.out.below HB4.out) (HT.out.below HB4.out) hl).mono ?_
    rintro e w5 ⟨r2, h1, rfl, hb⟩
    have HB5 := Lib.hid (bthen HB4.out hb)
    have e4 : (r1 == r2) = true := beq_iff_eq.2 (Bool.eq_iff_iff.2 (E3.out.trans h1.symm))
    clear h1
    clear hb
    go_wp2_with fail
    refine (alive_any _ (HG.out.below HB5.out)).mono ?_
    rintro e w6 ⟨rfl, hb⟩
    have HB6 := Lib.hid (bthen HB5.out hb)
    clear hb
    go_wp2_with fail
    go_ret
    exact ⟨rfl, HB6.out⟩
  · have hd := decide_eq_false hs
    go_enter Tryd.func10, Tryd.ntmps10
    go_wp2_with fail
    refine (few_any _ _ _ _ _ _ _).mono ?_
    rintro e w1 ⟨rfl, rfl⟩
    rw [hd]
    have HB0 := Lib.hid (Below.refl w1.heap.size w1)
    go_wp2_with fail
    refine (alive_any _ (HG.out.below HB0.out)).mono ?_
    rintro e w1 ⟨rfl, hb⟩
    have HB1 := Lib.hid (bthen HB0.out hb)
    clear hb
    go_wp2_with fail
    go_ret
    exact ⟨rfl, HB1.out⟩


set_option maxHeartbeats 2000000 in
theorem again_any (A : Option Addr) (n c : Nat) (l : List Sp) (A' : Option Addr) (len cap : Nat) (text : List Int) (w : World) (hR : RdSp w A n l) (hT : RdI w A' len text) (hG : Glob w) : Calls Tryd.prog 11 #[.slice A n c, .slice A' len cap] w fun e w' => e = .returned (.bool true) ∧ Below w.heap.size w w' := by
  have HR := Lib.hid hR; have HG := Lib.hid hG; have HT := Lib.hid hT
  clear hR hG hT
  by_cases hs : n ≤ 16 ∧ len ≤ 40
  · have hd := decide_eq_true hs
    have hl : len ≤ 1000000000 := by omega
    go_enter Tryd.func11, Tryd.ntmps11
    go_wp2_with fail
    refine (few_any _ _ _ _ _ _ _).mono ?_
    rintro e w1 ⟨rfl, rfl⟩
    rw [hd]
    have HB0 := Lib.hid (Below.refl w1.heap.size w1)
    go_wp2_with fail
    refine (sort_any _ _ _ l _ _ _ text _ (HR.out.below HB0.out) (HT.out.below HB0.out) (HG.out.below HB0.out)).mono ?_
    rintro e w1 ⟨A1, n1, c1, ys, h1, h2, rfl, hb⟩
    have HB1 := Lib.hid (bthen HB0.out hb)
    have H1 := Lib.hid h1
    have E1 := Lib.hid h2
    clear h1 h2
    clear hb
    go_wp2_with fail
    refine (sorted_any _ _ _ l _ _ _ ys _ (HR.out.below HB1.out) H1.out (HG.out.below HB1.out)).mono ?_
    rintro e w2 ⟨r1, h1, rfl, hb⟩
    have HB2 := Lib.hid (bthen HB1.out hb)
    have e1 : r1 = true := h1.2 E1.out.2
    subst e1
    have H2 := Lib.hid (H1.out.below hb)
    clear h1 H1
    clear hb
    go_wp2_with fail
    refine (sort_any _ _ _ l _ _ _ ys _ (HR.out.below HB2.out) H2.out (HG.out.below HB2.out)).mono ?_
    rintro e w3 ⟨A3, n3, c3, zs, h1, h2, rfl, hb⟩
    have HB3 := Lib.hid (bthen HB2.out hb)
    have H3 := Lib.hid h1
    have E3 := Lib.hid h2
    have H1 := Lib.hid (H2.out.below hb)
    clear h1 h2 H2
    clear hb
    go_wp2_with fail
    refine (refEqual_any _ _ _ zs _ _ _ ys _ H3.out H1.out).mono ?_
    rintro e w4 ⟨rfl, hb⟩
    have HB4 := Lib.hid (bthen HB3.out hb)
    rw [decide_eq_true ((srtd_iff E3.out).2 E1.out.2)]
    have H2 := Lib.hid (H1.out.below hb)
    clear H1
    clear hb
    go_wp2_with fail
    refine (sorted_any _ _ _ l _ _ _ text _ (HR.out.below HB4.out) (HT.out.below HB4.out) (HG.out.below HB4.out)).mono ?_
    rintro e w5 ⟨r2, h1, rfl, hb⟩
    have HB5 := Lib.hid (bthen HB4.out hb)
    have E4 := Lib.hid h1
    have H1 := Lib.hid (H2.out.below hb)
    clear h1 H2
    clear hb
    go_wp2_with fail
    refine (refEqual_any _ _ _ ys _ _ _ text _ H1.out (HT.out.below HB5.out)).mono ?_
    rintro e w6 ⟨rfl, hb⟩
    have HB6 := Lib.hid (bthen HB5.out hb)
    have e5 : (r2 == decide (ys = text)) = true := beq_iff_eq.2 (Bool.eq_iff_iff.2 (E4.out.trans ((srtd_iff E1.out).symm.trans (decide_eq_true_iff).symm)))
    clear hb
    go_wp2_with fail
    refine (alive_any _ (HG.out.below HB6.out)).mono ?_
    rintro e w7 ⟨rfl, hb⟩
    have HB7 := Lib.hid (bthen HB6.out hb)
    clear hb
    go_wp2_with fail
    go_ret
    exact ⟨rfl, HB7.out⟩
  · have hd := decide_eq_false hs
    go_enter Tryd.func11, Tryd.ntmps11
    go_wp2_with fail
    refine (few_any _ _ _ _ _ _ _).mono ?_
    rintro e w1 ⟨rfl, rfl⟩
    rw [hd]
    have HB0 := Lib.hid (Below.refl w1.heap.size w1)
    go_wp2_with fail
    refine (alive_any _ (HG.out.below HB0.out)).mono ?_
    rintro e w1 ⟨rfl, hb⟩
    have HB1 := Lib.hid (bthen HB0.out hb)
    clear hb
    go_wp2_with fail
    go_ret
    exact ⟨rfl, HB1.out⟩


end Go.Proofs.YtamekpldmplenaaDoor
