import Derived.Test.YtamekpldmplenaaDoorSymE
import Derived.Test.YtamekpldmplenaaDoorBlk
namespace Go.Proofs.YtamekpldmplenaaDoor
open Go.RowKit Go.Shelf

theorem cut4' (l : List Int) (a b : Nat) (h : a + b ≤ l.length) : l = l.take a ++ (l.drop a).take b ++ (l.drop (a + b)).take b ++ l.drop (a + 2 * b) := by
  have h1 := List.take_append_drop a l
  have h2 := List.take_append_drop b (l.drop a)
  have h3 := List.take_append_drop b (l.drop (a + b))
  rw [List.drop_drop] at h2
  rw [List.drop_drop, show a + b + b = a + 2 * b by omega] at h3
  rw [List.append_assoc, List.append_assoc, h3, h2, h1]
theorem cut4 (l : List Int) (a b : Nat) (h : a + 2 * b ≤ l.length) : l = l.take a ++ (l.drop a).take b ++ (l.drop (a + b)).take b ++ l.drop (a + 2 * b) := cut4' l a b (by omega)

set_option maxRecDepth 100000 in
set_option maxHeartbeats 4000000 in
theorem stable_any (q off len cap Bc : Nat) (key : Int → Int) (cin : World → Prop) (hc : CmpOk q Bc key cin) (xs : List Int) (w : World) (hcin : cin w) (hH : Holds w q off xs) (hq : q < w.heap.size) (hl : xs.length = len) (hbd : len < 17592186044417) :
    Calls Tryd.prog 52 #[.slice (some ⟨q, off, none⟩) len cap, .int .i64 len, .func (.func 41) #[] #[.pointer (some ⟨Bc, 0, none⟩)]] w (SymPost key cin q off len [] xs [] w) := by
  have HC := Lib.hid hc; have HI := Lib.hid hcin; have HQ := Lib.hid hq; have HL := Lib.hid hl; have H0 := Lib.hid hH
  clear hc hcin hH hq hl
  go_enter Tryd.func52, Tryd.ntmps52
  go_wp2_with fail
  go_loopw [7, 8] (fun s1 s2 wr => ∃ a k : Nat, s1 = .int .i64 a ∧ s2 = .int .i64 ((a : Int) + 20) ∧ a ≤ len ∧
      Hid (∃ cur, a = k * 20 ∧ cur.length = len ∧ Fil key xs cur ∧ (∀ i, i < k → Srt key (blk cur 20 i)) ∧ Holds wr q off cur ∧ Mut q off (off + len) w wr ∧ cin wr))
    (fun s1 _ _ => len + 1 - (intOf s1).toNat)
  case atStart =>
    exact ⟨0, 0, rfl, by go_num, by omega, xs, rfl, HL.out, Fil.refl _, fun i h => absurd h (by omega), H0.out, Mut.refl _ _ _ _, HI.out⟩
  case round =>
    obtain ⟨a, k, rfl, rfl, hal, cur, HK⟩ := hrel
    replace HK := Lib.hid HK
    by_cases hlt : a + 20 ≤ len
    · have t1 : (a : Int) + 20 ≤ (len : Int) := by omega
      go_wp2_with fail
      obtain ⟨k1, k2, k3, k4, k5, k6, k7⟩ := HK.out
      have hcut := cut3 cur a (a + 20) (by omega) (by omega)
      rw [show a + 20 - a = 20 by omega] at hcut
      refine (insertion_any q off len cap Bc key cin HC.out cur (cur.take a) ((cur.drop a).take 20) (cur.drop (a + 20)) _ _ _ k7 k5 (Nat.lt_of_lt_of_le HQ.out k6.size) k2 hbd hcut (by simp; omega) (by simp; omega)).mono ?_
      rintro e w1 ⟨ys, hy, rfl⟩
      have HY := Lib.hid hy
      have Hcut := Lib.hid hcut
      clear k1 k2 k3 k4 k5 k6 k7 hcut hy
      go_wp2_with fail
      go_roundw
      case rel =>
        obtain ⟨k1, k2, k3, k4, k5, k6, k7⟩ := HK.out
        obtain ⟨y1, y2, y3, y4, y5⟩ := HY.out
        have hyl : ys.length = ((cur.drop a).take 20).length := y1.length
        have hyl2 : ((cur.drop a).take 20).length = 20 := by simp; omega
        have hpl : (cur.take a).length = a := by simp; omega
        have e := Hcut.out
        refine ⟨a + 20, k + 1, by go_num, by go_num, by omega, cur.take a ++ ys ++ cur.drop (a + 20), by omega, ?_, ?_, ?_, y3, k6.trans y4, y5⟩
        · simp only [List.length_append, List.length_drop]; omega
        · rw [e] at k3; exact k3.mid y1
        · intro i hi
          by_cases e' : i = k
          · subst e'
            rw [blk_at (by omega) (.inl (by omega))]
            exact y2
          · rw [blk_keep (zs := (cur.drop a).take 20) hyl (.inl (by omega)), ← e]
            exact k4 i (by omega)
      case measure => simp [intOf] <;> omega
    · have t1 : ¬ (a : Int) + 20 ≤ (len : Int) := by omega
      go_wp2_with fail
      obtain ⟨k1, k2, k3, k4, k5, k6, k7⟩ := HK.out
      have hcut := cut3 cur a len (by omega) (by omega)
      refine (insertion_any q off len cap Bc key cin HC.out cur (cur.take a) ((cur.drop a).take (len - a)) (cur.drop len) _ _ _ k7 k5 (Nat.lt_of_lt_of_le HQ.out k6.size) k2 hbd hcut (by simp; omega) (by simp; omega)).mono ?_
      rintro e w1 ⟨ys, hy, rfl⟩
      have hst : ∃ cur, Hid (cur.length = len ∧ Fil key xs cur ∧ (∀ i, Srt key (blk cur 20 i)) ∧ Holds w1 q off cur ∧ Mut q off (off + len) w w1 ∧ cin w1) := by
        obtain ⟨y1, y2, y3, y4, y5⟩ := hy
        have hyl : ys.length = ((cur.drop a).take (len - a)).length := y1.length
        have hyl2 : ((cur.drop a).take (len - a)).length = len - a := by simp; omega
        have hpl : (cur.take a).length = a := by simp; omega
        have hd : cur.drop len = [] := by rw [List.drop_eq_nil_iff]; omega
        refine ⟨cur.take a ++ ys ++ cur.drop len, ?_, ?_, ?_, y3, k6.trans y4, y5⟩
        · simp only [List.length_append, List.length_drop]; omega
        · rw [hcut] at k3; exact k3.mid y1
        · intro i
          rcases Nat.lt_trichotomy i k with h | rfl | h
          · rw [blk_keep (zs := (cur.drop a).take (len - a)) hyl (.inl (by omega)), ← hcut]
            exact k4 i h
          · rw [blk_at (by omega) (.inr ⟨by omega, hd⟩)]
            exact y2
          · rw [blk_out (by simp only [List.length_append, List.length_drop]; omega)]
            exact List.Pairwise.nil
      clear k1 k2 k3 k4 k5 k6 k7 hcut hy HK
      obtain ⟨cur, HK⟩ := hst
      obtain ⟨wo, rfl⟩ : ∃ wo : World, wo = wr := ⟨_, rfl⟩
      go_wp2_with fail
      go_loopw [6, 7, 8] (fun s6 s7 s8 wr => ∃ bs : Nat, s6 = .int .i64 bs ∧ 0 < bs ∧ bs ≤ 2 * len + 20 ∧
          Hid (∃ cur, cur.length = len ∧ Fil key xs cur ∧ (∀ i, Srt key (blk cur bs i)) ∧ Holds wr q off cur ∧ Mut q off (off + len) w wr ∧ cin wr))
        (fun s6 _ _ _ => len - (intOf s6).toNat)
      case atStart => exact ⟨20, rfl, by omega, by omega, cur, HK.out⟩
      case round =>
        clear HK cur
        obtain ⟨bs, rfl, hb0, hbm, cur, HK⟩ := hrel
        replace HK := Lib.hid HK
        obtain ⟨wo2, rfl⟩ : ∃ wo2 : World, wo2 = wr := ⟨_, rfl⟩
        by_cases hlt2 : bs < len
        · go_wp2_with fail
          go_loopw [7, 8] (fun s1 s2 wr => ∃ a k : Nat, s1 = .int .i64 a ∧ s2 = .int .i64 ((a : Int) + 2 * (bs : Int)) ∧ a ≤ len ∧
              Hid (∃ cur, a = k * (2 * bs) ∧ cur.length = len ∧ Fil key xs cur ∧ (∀ i, i < k → Srt key (blk cur (2 * bs) i)) ∧ (∀ i, 2 * k ≤ i → Srt key (blk cur bs i)) ∧ Holds wr q off cur ∧ Mut q off (off + len) w wr ∧ cin wr))
            (fun s1 _ _ => len + 1 - (intOf s1).toNat)
          case atStart =>
            obtain ⟨k2, k3, k4, k5, k6, k7⟩ := HK.out
            exact ⟨0, 0, rfl, by go_num, by omega, cur, by omega, k2, k3, fun i h => absurd h (by omega), fun i _ => k4 i, k5, k6, k7⟩
          case round =>
            clear HK cur
            obtain ⟨a, k, rfl, rfl, hal, cur, HK⟩ := hrel
            replace HK := Lib.hid HK
            by_cases hlt3 : a + 2 * bs ≤ len
            · have t1 : (a : Int) + 2 * (bs : Int) ≤ (len : Int) := by omega
              go_wp2_with fail
              obtain ⟨k1, k2, k3, k4, k5, k6, k7, k8⟩ := HK.out
              have hcut := cut4 cur a bs (by omega)
              have hx : cur = cur.take a ++ blk cur bs (2 * k) ++ blk cur bs (2 * k + 1) ++ cur.drop (a + 2 * bs) := by
                unfold blk
                rw [show 2 * k * bs = a by rw [k1, Nat.mul_comm 2 k, Nat.mul_assoc], show (2 * k + 1) * bs = a + bs by rw [k1, Nat.add_mul, Nat.mul_comm 2 k, Nat.mul_assoc]; omega]
                exact hcut
              have hl1 : (blk cur bs (2 * k)).length = bs := by
                unfold blk; rw [show 2 * k * bs = a by rw [k1, Nat.mul_comm 2 k, Nat.mul_assoc]]; simp; omega
              have hl2 : (blk cur bs (2 * k + 1)).length = bs := by
                unfold blk; rw [show (2 * k + 1) * bs = a + bs by rw [k1, Nat.add_mul, Nat.mul_comm 2 k, Nat.mul_assoc]; omega]; simp; omega
              have hpl : (cur.take a).length = a := by simp; omega
              refine (sym_any q off len cap Bc key cin HC.out cur (cur.take a) (blk cur bs (2 * k)) (blk cur bs (2 * k + 1)) (cur.drop (a + 2 * bs)) _ _ _ _ k8 k6 k2 hbd hx (k5 _ (by omega)) (k5 _ (by omega)) (by omega) (by omega) (by omega) (by omega) (by omega)).mono ?_
              rintro e w1 ⟨ys, hy, rfl⟩
              have HY := Lib.hid hy
              have Hx := Lib.hid hx
              have Hls := Lib.hid (And.intro hl1 (And.intro hl2 hpl))
              clear k1 k2 k3 k4 k5 k6 k7 k8 hcut hx hl1 hl2 hpl hy
              go_wp2_with fail
              go_roundw
              case rel =>
                obtain ⟨k1, k2, k3, k4, k5, k6, k7, k8⟩ := HK.out
                obtain ⟨hl1, hl2, hpl⟩ := Hls.out
                obtain ⟨y1, y2, y3, y4, y5⟩ := HY.out
                have hyl := y1.length
                have hyl' : ys.length = (blk cur bs (2 * k) ++ blk cur bs (2 * k + 1)).length := hyl
                rw [List.length_append] at hyl
                have e := Hx.out
                rw [List.append_assoc (cur.take a)] at e
                have ek : (k + 1) * (2 * bs) = a + 2 * bs := by rw [Nat.succ_mul, ← k1]
                have ek2 : ∀ i, 2 * (k + 1) ≤ i → a + 2 * bs ≤ i * bs := fun i hi => by
                  have := Nat.mul_le_mul_right bs hi
                  rw [Nat.mul_comm 2 (k + 1), Nat.mul_assoc] at this
                  omega
                have ek3 : ∀ i, i < k → (i + 1) * (2 * bs) ≤ a := fun i hi => by
                  rw [k1]; exact Nat.mul_le_mul_right _ hi
                refine ⟨a + 2 * bs, k + 1, by go_num, by go_num, by omega, cur.take a ++ ys ++ cur.drop (a + 2 * bs), ek.symm, ?_, ?_, ?_, ?_, y3, k7.trans y4, y5⟩
                · simp only [List.length_append, List.length_drop]; omega
                · rw [e] at k3; exact k3.mid y1
                · intro i hi
                  by_cases e' : i = k
                  · subst e'
                    rw [blk_at (by rw [hpl, k1]) (.inl (by omega))]
                    exact y2
                  · rw [blk_keep hyl' (.inl (by rw [hpl]; exact ek3 i (by omega))), ← e]
                    exact k4 i (by omega)
                · intro i hi
                  rw [blk_keep hyl' (.inr (by rw [hpl, List.length_append]; have := ek2 i hi; omega)), ← e]
                  exact k5 i (by omega)
              case measure => simp [intOf] <;> omega
            · have t1 : ¬ (a : Int) + 2 * (bs : Int) ≤ (len : Int) := by omega
              by_cases hm : a + bs < len
              · have t2 : (a : Int) + (bs : Int) < (len : Int) := by omega
                go_wp2_with fail
                obtain ⟨k1, k2, k3, k4, k5, k6, k7, k8⟩ := HK.out
                have e1 : 2 * k * bs = a := by rw [k1, Nat.mul_comm 2 k, Nat.mul_assoc]
                have e2 : (2 * k + 1) * bs = a + bs := by rw [Nat.add_mul, e1]; omega
                have hx : cur = cur.take a ++ blk cur bs (2 * k) ++ blk cur bs (2 * k + 1) ++ [] := by
                  have hd : cur.drop (a + 2 * bs) = [] := by rw [List.drop_eq_nil_iff]; omega
                  have := cut4' cur a bs (by omega)
                  rw [hd] at this
                  unfold blk
                  rw [e1, e2]
                  exact this
                have hl1 : (blk cur bs (2 * k)).length = bs := by unfold blk; rw [e1]; simp; omega
                have hl2 : (blk cur bs (2 * k + 1)).length = len - (a + bs) := by unfold blk; rw [e2]; simp; omega
                have hpl : (cur.take a).length = a := by simp; omega
                refine (sym_any q off len cap Bc key cin HC.out cur (cur.take a) (blk cur bs (2 * k)) (blk cur bs (2 * k + 1)) [] _ _ _ _ k8 k6 k2 hbd hx (k5 _ (by omega)) (k5 _ (by omega)) (by omega) (by omega) (by omega) (by omega) (by omega)).mono ?_
                rintro e w1 ⟨ys, hy, rfl⟩
                have HY := Lib.hid hy
                have Hx := Lib.hid hx
                have Hls := Lib.hid (And.intro hl1 (And.intro hl2 hpl))
                clear k1 k2 k3 k4 k5 k6 k7 k8 hx hl1 hl2 hpl hy e1 e2
                go_wp2_with fail
                go_roundw
                case rel =>
                  obtain ⟨k1, k2, k3, k4, k5, k6, k7, k8⟩ := HK.out
                  obtain ⟨hl1, hl2, hpl⟩ := Hls.out
                  obtain ⟨y1, y2, y3, y4, y5⟩ := HY.out
                  have hyl := y1.length
                  have hyl' : ys.length = (blk cur bs (2 * k) ++ blk cur bs (2 * k + 1)).length := hyl
                  rw [List.length_append] at hyl
                  have e := Hx.out
                  rw [List.append_assoc (cur.take a)] at e
                  have ek3 : ∀ i, i < k → (i + 1) * (2 * bs) ≤ a := fun i hi => by
                    rw [k1]; exact Nat.mul_le_mul_right _ hi
                  have ek4 : ∀ i, k < i → a + 2 * bs ≤ i * (2 * bs) := fun i hi => by
                    have := Nat.mul_le_mul_right (2 * bs) hi
                    rw [Nat.succ_mul, ← k1] at this
                    exact this
                  refine ⟨2 * bs, by go_num, by omega, by omega, cur.take a ++ ys ++ [], ?_, ?_, ?_, y3, k7.trans y4, y5⟩
                  · simp only [List.length_append, List.length_nil]; omega
                  · rw [e] at k3; exact k3.mid y1
                  · intro i
                    rcases Nat.lt_trichotomy i k with h | rfl | h
                    · rw [blk_keep hyl' (.inl (by rw [hpl]; exact ek3 i h)), ← e]
                      exact k4 i h
                    · rw [blk_at (by rw [hpl, k1]) (.inr ⟨by omega, rfl⟩)]
                      exact y2
                    · rw [blk_out (by have := ek4 i h; simp only [List.length_append, List.length_nil]; omega)]
                      exact List.Pairwise.nil
                case measure => simp [intOf] <;> omega
              · have t2 : ¬ (a : Int) + (bs : Int) < (len : Int) := by omega
                go_wp2_with fail
                go_roundw
                case rel =>
                  obtain ⟨k1, k2, k3, k4, k5, k6, k7, k8⟩ := HK.out
                  have ek4 : ∀ i, k < i → a + 2 * bs ≤ i * (2 * bs) := fun i hi => by
                    have := Nat.mul_le_mul_right (2 * bs) hi
                    rw [Nat.succ_mul, ← k1] at this
                    exact this
                  refine ⟨2 * bs, by go_num, by omega, by omega, cur, k2, k3, ?_, k6, k7, k8⟩
                  intro i
                  rcases Nat.lt_trichotomy i k with h | rfl | h
                  · exact k4 i h
                  · have e1 : 2 * i * bs = i * (2 * bs) := by rw [Nat.mul_comm 2 i, Nat.mul_assoc]
                    have := k5 (2 * i) (by omega)
                    unfold blk at this ⊢
                    rw [e1] at this
                    rw [List.take_of_length_le (by simp; omega)] at this ⊢
                    exact this
                  · rw [blk_out (by have := ek4 i h; omega)]
                    exact List.Pairwise.nil
                case measure => simp [intOf] <;> omega
        · go_wp2_with fail
          go_end0
          obtain ⟨k2, k3, k4, k5, k6, k7⟩ := HK.out
          refine ⟨cur, ⟨k3, ?_, by simpa using k5, k6, k7⟩, rfl⟩
          have := k4 0
          unfold blk at this
          rwa [Nat.zero_mul, List.drop_zero, List.take_of_length_le (by omega)] at this

set_option maxHeartbeats 400000 in
theorem sortStable_any (q off len cap Bc : Nat) (key : Int → Int) (cin : World → Prop) (hc : CmpOk q Bc key cin) (xs : List Int) (w : World) (hcin : cin w) (hH : Holds w q off xs) (hq : q < w.heap.size) (hl : xs.length = len) (hbd : len < 17592186044417) :
    Calls Tryd.prog 40 #[.slice (some ⟨q, off, none⟩) len cap, .func (.func 41) #[] #[.pointer (some ⟨Bc, 0, none⟩)]] w (SymPost key cin q off len [] xs [] w) := by
  have HC := Lib.hid hc; have HI := Lib.hid hcin; have HQ := Lib.hid hq; have HL := Lib.hid hl; have H0 := Lib.hid hH
  clear hc hcin hH hq hl
  go_enter Tryd.func40, Tryd.ntmps40
  go_wp2_with (go_at_call 52; refine (stable_any q off len cap Bc key cin HC.out xs _ HI.out H0.out HQ.out HL.out hbd).mono ?_; rintro e w1 ⟨ys, hy, rfl⟩; have HY := Lib.hid hy; clear hy)
  go_end0
  exact ⟨ys, HY.out, rfl⟩
end Go.Proofs.YtamekpldmplenaaDoor
