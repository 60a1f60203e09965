import Derived.Test.YtamekpldmplenaaDoorCmp
import Derived.Test.YtamekpldmplenaaDoorRunsP
import Derived.RangeFuncNested
import Derived.RangeFuncBound
import Derived.RangeFuncCalls
import Derived.RangeFuncLeaves
import Derived.OwnWalkIn
import Derived.TacticsInMore
import Derived.LoopNIn
import Derived.LoopIn
namespace Go.Proofs.YtamekpldmplenaaDoor
open Go.RowKit Go.Shelf
attribute [local go_sem] Oper.semAt_some

/-- How an iterator's call ends: all have come, or a round has said 'no more'. -/
def RunsPost (f : Int → Int) (text : List Int) (J Jx : List Rg → World → Prop) (e : Ending) (W' : World) : Prop :=
  (∃ v, e = .returned v) ∧ (J (runsF f text) W' ∨ ∃ pre, Jx pre W')

set_option maxRecDepth 100000 in
set_option maxHeartbeats 2000000 in
theorem runs1_in (l Bt Bc : Nat) (A : Option Addr) (len cap : Nat) (text : List Int) (g : FuncId) (cb : Array Value) (f : Int → Int) (Rin : World → Prop) (he : Enters Tryd.prog g)
    (hRt : ∀ W, Rin W → W.cell? ⟨Bt, 0, none⟩ = some (.slice A len cap)) (hRc : ∀ W, Rin W → W.cell? ⟨Bc, 0, none⟩ = some (.func (.func g) #[] cb)) (hRd : ∀ W, Rin W → RdI W A len text)
    (hRf : ∀ W (c : Int), Rin W → Calls Tryd.prog g (#[.int .i64 c] ++ cb) W fun e w' => e = .returned (.int .i64 (f c)) ∧ Below W.heap.size W w') (hRb : ∀ W W', Rin W → Below W.heap.size W W' → Rin W')
    (J Jx : List Rg → World → Prop) (hJb : ∀ pre W W', J pre W → Below W.heap.size W W' → J pre W')
    (hY : ∀ pre x W, J pre W → Rin W → x ∈ runsF f text → pre.length < (runsF f text).length → YieldAt Fence.wide 3 Tryd.prog l #[.agg #[.int .i64 x.lo, .int .i64 x.hi]] W fun e W' =>
      (e = .returned (.bool true) ∧ J (pre ++ [x]) W' ∧ Rin W') ∨ (e = .returned (.bool false) ∧ Jx (pre ++ [x]) W'))
    (W : World) (hR : Rin W) (h0 : J [] W) :
    Calls Tryd.prog 47 #[.func (.yield l) #[] #[], .pointer (some ⟨Bt, 0, none⟩), .pointer (some ⟨Bc, 0, none⟩)] W (RunsPost f text J Jx) := by
  have hn := (hRd W hR).bd
  have hlen := Lib.hid (hRd W hR).len
  have HRt := Lib.hid hRt; have HRc := Lib.hid hRc; have HRd := Lib.hid hRd; have HRf := Lib.hid hRf; have HRb := Lib.hid hRb; have HJb := Lib.hid hJb; have HY := Lib.hid hY; have HR := Lib.hid hR; have H0 := Lib.hid h0
  have he' : ∀ args w, (callFunc g args).run Tryd.prog w = .ok (.enter g args) w := he
  clear hRt hRc hRd hRf hRb hJb hY hR h0 he
  go_enter Tryd.func47, Tryd.ntmps47
  go_wp2_with fail
  go_loopw [4] (fun s1 wr => ∃ p : Nat, s1 = .int .i64 p ∧ p ≤ len + 1 ∧ Hid (∃ pre, pre ++ runsGo f (text.drop p) p none = runsF f text ∧ J pre wr ∧ Rin wr))
    (fun s1 _ => len + 1 - (intOf s1).toNat)
  case atStart => exact ⟨0, rfl, by omega, [], by simp [runsF], H0.out, HR.out⟩
  case round =>
    obtain ⟨p, rfl, hp, HK⟩ := hrel
    have ct := HRt.out wr HK.out.choose_spec.2.2
    by_cases hlt : p < len
    · have hlt' : (p : Int) < (len : Int) := by omega
      go_wp2_with fail
      obtain ⟨wo, rfl⟩ : ∃ wo : World, wo = wr := ⟨_, rfl⟩
      go_loopw [4] (fun s1 wr => ∃ q : Nat, s1 = .int .i64 q ∧ p ≤ q ∧ q ≤ len ∧ Hid (∃ pre, pre ++ runsGo f (text.drop q) q (runsSt p q) = runsF f text ∧ J pre wr ∧ Rin wr))
        (fun s1 _ => len - (intOf s1).toNat)
      case atStart => exact ⟨p, rfl, by omega, by omega, by have := HK.out; simpa only [Hid, runsSt, if_true] using this⟩
      case round =>
        clear HK ct
        obtain ⟨q, rfl, hpq, hqn, HK⟩ := hrel
        have ct := HRt.out wr HK.out.choose_spec.2.2
        by_cases hqlt : q < len
        · have hqlt' : (q : Int) < (len : Int) := by omega
          have cc := HRc.out wr HK.out.choose_spec.2.2
          obtain ⟨b, o, rfl⟩ := (HRd.out wr HK.out.choose_spec.2.2).addr (by omega)
          obtain ⟨x, hx, cx⟩ := RdI.elt (HRd.out wr HK.out.choose_spec.2.2) hqlt
          have hdrop := Lib.hid (drop_at hx.out)
          have Hd := Lib.hid (HRf.out wr.drew x (HRb.out _ _ HK.out.choose_spec.2.2 (Below.drew (Below.refl _ _))))
          by_cases hfx : f x = 0
          · go_wp2_with fail
            go_still_tail 10, (by kernel_rfl)
            change wpList _ _ _ _ _ wr.drew
            go_wp2_with fail
            refine Hd.out.mono ?_
            rintro e w1 ⟨rfl, hb⟩
            rw [hfx]
            have HB1 := Lib.hid (bthen (Below.drew (Below.refl _ _)) hb)
            clear hb ct cc cx
            have HS : Hid (∃ pre, pre ++ ((if p = q then [] else [⟨p, q⟩]) ++ runsGo f (text.drop (q + 1)) (q + 1) none) = runsF f text ∧ J pre w1 ∧ Rin w1) := by
              obtain ⟨pre, k1, k2, k3⟩ := HK.out
              rw [hdrop.out, runsGo_off f x _ p q hfx] at k1
              exact ⟨pre, k1, HJb.out _ _ _ k2 HB1.out, HRb.out _ _ k3 HB1.out⟩
            go_upto_region 6 with fail
            by_cases hpq' : p = q
            · subst hpq'
              have hd : decide ((p : Int) < (p : Int)) = false := by simp
              go_wp2_with fail
              go_roundw
              case rel =>
                obtain ⟨pre, k1, k2, k3⟩ := HS.out
                exact ⟨p + 1, by go_num, by omega, pre, by simpa using k1, k2, k3⟩
              case measure => simp [intOf] <;> omega
            · have hpq2 : (p : Int) < (q : Int) := by omega
              obtain ⟨pre, k1, k2, k3⟩ := HS.out
              rw [if_neg hpq'] at k1
              obtain ⟨fn, tmps, assign, body, hy, hR⟩ := HY.out pre ⟨p, q⟩ w1 k2 k3 (by rw [← k1]; simp) (by rw [← k1]; simp)
              dsimp only at hy
              have K1 := Lib.hid k1
              clear k1 k2 k3
              refine (wpIn_wide (n := 4)).1 ?_
              gi_wp2
              refine hR.mono ?_
              rintro e W' (⟨rfl, hJ3, hR3⟩ | ⟨rfl, hJx⟩)
              · have HJ3 := Lib.hid hJ3; have HR3 := Lib.hid hR3
                clear hJ3 hR3
                gi_wp2
                go_wp2_with fail
                go_roundw
                case rel =>
                  exact ⟨q + 1, by go_num, by omega, pre ++ [⟨p, q⟩], by rw [← K1.out]; simp, HJ3.out, HR3.out⟩
                case measure => simp [intOf] <;> omega
              · have HJx := Lib.hid hJx
                clear hJx
                gi_wp2
                go_wp2_with fail
                refine bodyPost_ret (results_none rfl _ _ _) rfl ?_
                exact ⟨⟨_, rfl⟩, .inr ⟨_, HJx.out⟩⟩
          · have hfx' := bne_iff_ne.2 hfx
            go_wp2_with fail
            go_still_tail 10, (by kernel_rfl)
            change wpList _ _ _ _ _ wr.drew
            go_wp2_with fail
            refine Hd.out.mono ?_
            rintro e w1 ⟨rfl, hb⟩
            have HB1 := Lib.hid (bthen (Below.drew (Below.refl _ _)) hb)
            clear hb ct cc cx
            go_wp2_with fail
            go_roundw
            case rel =>
              obtain ⟨pre, k1, k2, k3⟩ := HK.out
              refine ⟨q + 1, by go_num, by omega, by omega, pre, ?_, HJb.out _ _ _ k2 HB1.out, HRb.out _ _ k3 HB1.out⟩
              rw [hdrop.out, runsGo_on f x _ p q hpq hfx] at k1
              exact k1
            case measure => simp [intOf] <;> omega
        · have hd : decide ((q : Int) < (len : Int)) = false := decide_eq_false (by omega)
          go_wp2_with fail
          go_quiet (fail)
          go_upto_region 6 with fail
          have e : q = len := by omega
          have HS : Hid (∃ pre, pre ++ ((if p = q then [] else [⟨p, q⟩]) ++ runsGo f (text.drop (q + 1)) (q + 1) none) = runsF f text ∧ J pre (wr.drewN nq) ∧ Rin (wr.drewN nq)) := by
            obtain ⟨pre, k1, k2, k3⟩ := HK.out
            have hz : ∀ m, len ≤ m → text.drop m = [] := fun m hm => List.drop_eq_nil_iff.2 (by have := hlen.out; omega)
            rw [hz q (by omega), runsGo_end f p q (q + 1)] at k1
            rw [hz (q + 1) (by omega)]
            exact ⟨pre, k1, HJb.out _ _ _ k2 (bdrewN (Below.refl _ _) _), HRb.out _ _ k3 (bdrewN (Below.refl _ _) _)⟩
          clear e hd ct
          generalize wr.drewN nq = w1 at HS ⊢
          by_cases hpq' : p = q
          · subst hpq'
            have hd : decide ((p : Int) < (p : Int)) = false := by simp
            go_wp2_with fail
            go_roundw
            case rel =>
              obtain ⟨pre, k1, k2, k3⟩ := HS.out
              exact ⟨p + 1, by go_num, by omega, pre, by simpa using k1, k2, k3⟩
            case measure => simp [intOf] <;> omega
          · have hpq2 : (p : Int) < (q : Int) := by omega
            obtain ⟨pre, k1, k2, k3⟩ := HS.out
            rw [if_neg hpq'] at k1
            obtain ⟨fn, tmps, assign, body, hy, hR⟩ := HY.out pre ⟨p, q⟩ w1 k2 k3 (by rw [← k1]; simp) (by rw [← k1]; simp)
            dsimp only at hy
            have K1 := Lib.hid k1
            clear k1 k2 k3
            refine (wpIn_wide (n := 4)).1 ?_
            gi_wp2
            refine hR.mono ?_
            rintro e W' (⟨rfl, hJ3, hR3⟩ | ⟨rfl, hJx⟩)
            · have HJ3 := Lib.hid hJ3; have HR3 := Lib.hid hR3
              clear hJ3 hR3
              gi_wp2
              go_wp2_with fail
              go_roundw
              case rel =>
                exact ⟨q + 1, by go_num, by omega, pre ++ [⟨p, q⟩], by rw [← K1.out]; simp, HJ3.out, HR3.out⟩
              case measure => simp [intOf] <;> omega
            · have HJx := Lib.hid hJx
              clear hJx
              gi_wp2
              go_wp2_with fail
              refine bodyPost_ret (results_none rfl _ _ _) rfl ?_
              exact ⟨⟨_, rfl⟩, .inr ⟨_, HJx.out⟩⟩
    · have hlt' : ¬ (p : Int) < (len : Int) := by omega
      go_wp2_with fail
      go_end0
      obtain ⟨pre, k1, k2, k3⟩ := HK.out
      rw [List.drop_eq_nil_iff.2 (by have := hlen.out; omega)] at k1
      exact ⟨⟨_, rfl⟩, .inl (by rw [← k1]; simpa [runsGo] using k2)⟩
end Go.Proofs.YtamekpldmplenaaDoor
