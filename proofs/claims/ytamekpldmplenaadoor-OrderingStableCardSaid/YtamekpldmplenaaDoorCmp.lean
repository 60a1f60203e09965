import Derived.Test.YtamekpldmplenaaDoorStable
import Derived.Deep.RegionWith
namespace Go.Proofs.YtamekpldmplenaaDoor
open Go.RowKit Go.Shelf

set_option maxHeartbeats 400000 in
theorem isNaN_any (a : Int) (w : World) : Calls Tryd.prog 53 #[.int .i64 a] w fun e w' => e = .returned (.bool false) ∧ w = w' := by
  go_enter Tryd.func53, Tryd.ntmps53
  go_wp2
  go_ret
  exact ⟨by simp, rfl⟩

def cmp3 (x y : Int) : Int := if x < y then -1 else if y < x then 1 else 0

set_option maxHeartbeats 400000 in
theorem compare_any (a b : Int) (w : World) : Calls Tryd.prog 42 #[.int .i64 a, .int .i64 b] w fun e w' => e = .returned (.int .i64 (cmp3 a b)) ∧ w = w' := by
  rcases Int.lt_trichotomy a b with h | h | h
  · have hf := Lib.hid (show cmp3 a b = -1 by unfold cmp3; rw [if_pos h])
    go_enter Tryd.func42, Tryd.ntmps42
    go_wp2_with (go_at_call 53; refine (isNaN_any _ _).mono ?_; rintro e w' ⟨rfl, rfl⟩)
    go_ret
    exact ⟨ret_int hf.out.symm, rfl⟩
  · subst h
    have hf := Lib.hid (show cmp3 a a = 0 by unfold cmp3; rw [if_neg (by omega), if_neg (by omega)])
    go_enter Tryd.func42, Tryd.ntmps42
    go_wp2_with (go_at_call 53; refine (isNaN_any _ _).mono ?_; rintro e w' ⟨rfl, rfl⟩)
    go_ret
    exact ⟨ret_int hf.out.symm, rfl⟩
  · have hf := Lib.hid (show cmp3 a b = 1 by unfold cmp3; rw [if_neg (by omega), if_pos h])
    go_enter Tryd.func42, Tryd.ntmps42
    go_wp2_with (go_at_call 53; refine (isNaN_any _ _).mono ?_; rintro e w' ⟨rfl, rfl⟩)
    go_ret
    exact ⟨ret_int hf.out.symm, rfl⟩

set_option maxHeartbeats 1000000 in
theorem sort1_any (g : FuncId) (cb : Array Value) (f : Int → Int) (wf : World) (he : Enters Tryd.prog g)
    (hc : ∀ (W : World) (c : Int), Below wf.heap.size wf W → Calls Tryd.prog g (#[.int .i64 c] ++ cb) W fun e w' => e = .returned (.int .i64 (f c)) ∧ Below W.heap.size W w')
    (a b : Int) (Bc : Nat) (W : World) (hB : Below wf.heap.size wf W) (hcell : W.cell? ⟨Bc, 0, none⟩ = some (.func (.func g) #[] cb)) :
    Calls Tryd.prog 41 #[.int .i64 a, .int .i64 b, .pointer (some ⟨Bc, 0, none⟩)] W fun e w' => e = .returned (.int .i64 (cmp3 (f a) (f b))) ∧ Below W.heap.size W w' := by
  have HC := Lib.hid hc
  have HB := Lib.hid (show Below wf.heap.size wf W.drew from hB.drew)
  have he' : ∀ args w, (callFunc g args).run Tryd.prog w = .ok (.enter g args) w := he
  clear hc he hB
  go_enter Tryd.func41, Tryd.ntmps41
  go_wp2_with fail
  go_region_with (first
    | (go_at_call 42; refine (compare_any _ _ _).mono ?_; rintro e w' ⟨rfl, rfl⟩)
    | (refine (HC.out W.drew a HB.out).mono ?_; rintro e w1 ⟨rfl, hb1⟩; have hc1 := bcel (W := W.drew) hb1 hcell; have HB1 := Lib.hid (bthen HB.out hb1); have Hb1 := Lib.hid hb1; clear hb1)
    | (refine (HC.out _ b (Hid.out ‹_›)).mono ?_; rintro e w2 ⟨rfl, hb2⟩))
  all_goals go_wp2_with fail
  all_goals (go_ret; exact ⟨rfl, bthen (bthen (Below.drew (Below.refl _ _)) Hb1.out) hb2⟩)

/-- The comparison that Sort hands on, for a class function of world wf and a box beyond it. -/
theorem cmpOk_of (q Bc : Nat) (v : Value) (f : Int → Int) (wf : World) (hv : FnII wf v f) (hq : wf.heap.size ≤ q) (hne : Bc ≠ q) :
    CmpOk q Bc f (fun W => W.cell? ⟨Bc, 0, none⟩ = some v ∧ Below wf.heap.size wf W ∧ q < W.heap.size) := by
  obtain ⟨g, cb, rfl, he, hc⟩ := hv
  refine ⟨fun W W' ⟨h1, h2, h3⟩ hb => ⟨bcel hb h1, bthen h2 (by exact hb), Nat.lt_of_lt_of_le h3 hb.size⟩, ?_, ?_, ?_, ?_⟩
  · intro W j u ⟨h1, h2, h3⟩
    refine ⟨?_, h2.setCell (p := ⟨q, j, none⟩) hq _, by simpa [World.setCell] using h3⟩
    rw [World.cell?_of_block (w := W) (Below.heap_setCell W ⟨q, j, none⟩ u Bc hne)]
    exact h1
  · intro lo hi W W' ⟨h1, h2, h3⟩ hm
    refine ⟨?_, h2.trans (hm.below hq h2.size), Nat.lt_of_lt_of_le h3 hm.size⟩
    rw [World.cell?_of_block (w := W) (hm.block Bc (World.block_lt_of_cell? W _ h1) hne)]
    exact h1
  · intro W a b ⟨h1, h2, h3⟩ hlt
    refine (sort1_any g cb f wf he hc a b Bc W h2 h1).mono ?_
    rintro e w' ⟨rfl, hb⟩
    exact ⟨by rw [show cmp3 (f a) (f b) = -1 by unfold cmp3; rw [if_pos hlt]], hb⟩
  · intro W a b ⟨h1, h2, h3⟩ hge
    refine (sort1_any g cb f wf he hc a b Bc W h2 h1).mono ?_
    rintro e w' ⟨rfl, hb⟩
    exact ⟨_, decide_eq_false (by unfold cmp3; split <;> (try split) <;> omega), rfl, hb⟩
end Go.Proofs.YtamekpldmplenaaDoor
