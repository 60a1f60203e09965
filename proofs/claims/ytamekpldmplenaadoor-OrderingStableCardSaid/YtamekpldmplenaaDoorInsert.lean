import Derived.Test.YtamekpldmplenaaDoorRotate
import Derived.Test.YtamekpldmplenaaDoorStab
import Derived.StillTailTactics
namespace Go.Proofs.YtamekpldmplenaaDoor
open Go.RowKit Go.Shelf

/-- What the comparison that is handed on does, in whatever world the sort comes to. -/
structure CmpOk (q Bc : Nat) (key : Int → Int) (cin : World → Prop) : Prop where
  below : ∀ W W', cin W → Below W.heap.size W W' → cin W'
  set : ∀ W j v, cin W → cin (W.setCell ⟨q, j, none⟩ v)
  over : ∀ lo hi W W', cin W → Mut q lo hi W W' → cin W'
  lt : ∀ W a b, cin W → key a < key b → Calls Tryd.prog 41 #[.int .i64 a, .int .i64 b, .pointer (some ⟨Bc, 0, none⟩)] W fun e w' => e = .returned (.int .i64 (-1)) ∧ Below W.heap.size W w'
  ge : ∀ W a b, cin W → key b ≤ key a → Calls Tryd.prog 41 #[.int .i64 a, .int .i64 b, .pointer (some ⟨Bc, 0, none⟩)] W fun e w' => ∃ r : Int, decide (r < 0) = false ∧ e = .returned (.int .i64 r) ∧ Below W.heap.size W w'

theorem Holds.drew {w : World} {q off : Nat} {xs : List Int} (h : Holds w q off xs) : Holds w.drew q off xs := ⟨h.cell, h.froz⟩
theorem elt_mid {P L : List Int} {x : Int} {R : List Int} : (P ++ L ++ x :: R)[P.length + L.length]? = some x := by
  rw [List.getElem?_append_right (by simp)]; simp
theorem set_two {P L R : List Int} {x y : Int} : ((P ++ (L ++ [y]) ++ x :: R).set (P.length + L.length + 1) y).set (P.length + L.length) x = P ++ L ++ x :: (y :: R) := by
  rw [show P ++ (L ++ [y]) ++ x :: R = (P ++ L) ++ (y :: x :: R) by simp]
  rw [List.set_append_right _ _ (by simp only [List.length_append]; omega), List.set_append_right _ _ (by simp)]
  simp only [List.length_append]
  rw [show P.length + L.length + 1 - (P.length + L.length) = 1 by omega, show P.length + L.length - (P.length + L.length) = 0 by omega]
  simp
theorem Holds.at_ {w : World} {q off : Nat} {xs : List Int} (h : Holds w q off xs) {i : Nat} {x : Int} (hx : xs[i]? = some x) : w.cell? ⟨q, off + i, none⟩ = some (.int .i64 x) ∧ w.frozen? ⟨q, off + i, none⟩ = false :=
  ⟨h.cell i x hx, h.froz i (List.getElem?_eq_some_iff.1 hx).1⟩

set_option maxHeartbeats 1000000 in
theorem insertion_any (q off len cap Bc : Nat) (key : Int → Int) (cin : World → Prop) (hc : CmpOk q Bc key cin) (xs P X S : List Int) (va vb : Int) (w : World) (hcin : cin w) (hH : Holds w q off xs) (hq : q < w.heap.size) (hl : xs.length = len) (hbd : len < 17592186044417) (hx : xs = P ++ X ++ S)
    (ha : va = P.length) (hb : vb = P.length + X.length) :
    Calls Tryd.prog 55 #[.slice (some ⟨q, off, none⟩) len cap, .int .i64 va, .int .i64 vb, .func (.func 41) #[] #[.pointer (some ⟨Bc, 0, none⟩)]] w fun e w' =>
      ∃ ys, Hid (Fil key X ys ∧ Srt key ys ∧ Holds w' q off (P ++ ys ++ S) ∧ Mut q off (off + len) w w' ∧ cin w') ∧ e = .returned (.tuple #[]) := by
  obtain ⟨na, hna⟩ : ∃ n : Nat, n = P.length := ⟨_, rfl⟩
  obtain ⟨nb, hnb⟩ : ∃ n : Nat, n = P.length + X.length := ⟨_, rfl⟩
  obtain rfl : va = na := by omega
  obtain rfl : vb = nb := by omega
  have hlen : P.length + X.length + S.length = len := by rw [← hl, hx]; simp; omega
  have hnb' : nb ≤ len := by omega
  have hab : na ≤ nb := by omega
  have HN := Lib.hid (show na = P.length ∧ nb = P.length + X.length ∧ P.length + X.length + S.length = len from ⟨hna, hnb, hlen⟩)
  have H0 := Lib.hid hH; have HX := Lib.hid hx; have HC := Lib.hid hc; have HL := Lib.hid hl; have HI := Lib.hid hcin; have HQ := Lib.hid hq
  clear hH hx hc hl hcin hna hnb ha hb hlen hq
  by_cases hX0 : X = []
  · have hnn : nb = na := by rw [HN.out.2.1, hX0, HN.out.1]; simp
    have HX0 := Lib.hid hX0
    clear hX0
    subst hnn
    go_enter Tryd.func55, Tryd.ntmps55
    go_wp2_with fail
    refine wp_loop_rounds 1 ?_; rw [rounds_succ]
    go_wp2_with fail
    go_end0
    refine ⟨[], ?_, rfl⟩
    have e := HX0.out
    have e2 := HX.out
    rw [e] at e2 ⊢
    exact ⟨Fil.refl _, List.Pairwise.nil, by rw [← e2]; exact H0.out, Mut.refl _ _ _ _, HI.out⟩
  have hx0 : ∃ x0 X', X = x0 :: X' := by
    cases X with
    | nil => exact absurd rfl hX0
    | cons x0 X' => exact ⟨x0, X', rfl⟩
  clear hX0
  obtain ⟨x0, X', hX'⟩ := hx0
  have HX' := Lib.hid hX'
  clear hX'
  go_enter Tryd.func55, Tryd.ntmps55
  go_wp2_with fail
  go_loopw [8] (fun u wr => ∃ (i : Nat) (T0 T U : List Int), u = .int .i64 i ∧ na ≤ i ∧ i ≤ nb ∧ Hid (i = na + T.length ∧ T0 ++ U = X ∧ Fil key T0 T ∧ Srt key T ∧ Holds wr q off (P ++ T ++ U ++ S) ∧ Mut q off (off + len) w wr ∧ cin wr))
    (fun u _ => nb - (intOf u).toNat)
  case atStart =>
    obtain ⟨e1, e2, e3⟩ := HN.out
    have e4 := HX'.out
    have e5 := HX.out
    refine ⟨na + 1, [x0], [x0], X', by go_num, by omega, by rw [e2, e4]; simp; omega, ⟨by simp, by rw [e4]; rfl, Fil.refl _, List.pairwise_singleton _ _, ?_, Mut.refl _ _ _ _, HI.out⟩⟩
    rw [show P ++ [x0] ++ X' ++ S = xs by rw [e5, e4]; simp]
    exact H0.out
  case round =>
    obtain ⟨i, T0, T, U, rfl, hai, hib, HD⟩ := hrel
    by_cases hlt : i < nb
    · have hU : ∃ x U', U = x :: U' := by
        cases U with
        | cons x U' => exact ⟨x, U', rfl⟩
        | nil =>
          obtain ⟨d1, d2, d3, d4, d5, d6, d7⟩ := HD.out
          obtain ⟨e1, e2, e3⟩ := HN.out
          have := d3.length
          have e5 := congrArg List.length d2
          simp at e5
          omega
      obtain ⟨x, U', hU⟩ := hU
      subst hU
      obtain ⟨wo, rfl⟩ : ∃ wo : World, wo = wr := ⟨_, rfl⟩
      have hil : i < len := by omega
      go_wp2_with fail
      go_loopw [9] (fun v wi => ∃ (j : Nat) (L R : List Int), v = .int .i64 j ∧ na ≤ j ∧ j ≤ i ∧ Hid (j = na + L.length ∧ T = L ++ R ∧ (∀ r ∈ R, key x < key r) ∧ Holds wi q off (P ++ L ++ x :: (R ++ U' ++ S)) ∧ Mut q off (off + len) w wi ∧ cin wi))
        (fun v _ => (intOf v).toNat)
      case atStart =>
        obtain ⟨d1, d2, d3, d4, d5, d6, d7⟩ := HD.out
        exact ⟨i, T, [], rfl, hai, by omega, ⟨d1, by simp, by simp, by simpa using d5, d6, d7⟩⟩
      case round =>
        obtain ⟨j, L, R, rfl, haj, hji, HK⟩ := hrel
        rcases List.eq_nil_or_concat L with hL0 | ⟨L', y, hLy⟩
        · have hj : j = na := by have := HK.out.1; rw [hL0] at this; simpa using this
          subst hj
          have HL0 := Lib.hid hL0
          clear hL0
          have hd : decide ((j : Int) < (j : Int)) = false := by simp
          go_wp2_with fail
          go_quiet (fail)
          go_wp2_with fail
          go_roundw
          case rel =>
            obtain ⟨d1, d2, d3, d4, d5, d6, d7⟩ := HD.out
            obtain ⟨k1, k2, k3, k4, k5, k6⟩ := HK.out
            have e := HL0.out
            subst e
            simp at k2
            subst k2
            refine ⟨i + 1, T0 ++ [x], x :: T, U', by go_num, by omega, by omega, ⟨by simp; omega, by rw [← d2]; simp, (d3.append (Fil.refl [x])).trans (Fil.insert (L := []) k3), Srt.insert (L := []) (by simpa using d4) (by simp) k3, ?_, k5.drewN _, HC.out.below _ _ k6 (bdrewN (Below.refl _ _) _)⟩⟩
            have := k4.drewN nq
            simpa using this
          case measure => simp [intOf]; omega
        · obtain ⟨p, hp⟩ : ∃ p, p = na + L'.length := ⟨_, rfl⟩
          have hj : j = p + 1 := by have := HK.out.1; rw [hLy] at this; simp at this; omega
          subst hj
          have HP := Lib.hid hp
          have HLy := Lib.hid hLy
          have hnap : na ≤ p := by omega
          clear hp hLy
          have hcx : wr.cell? ⟨q, off + (p + 1), none⟩ = some (.int .i64 x) ∧ wr.frozen? ⟨q, off + (p + 1), none⟩ = false := by
            obtain ⟨k1, k2, k3, k4, k5, k6⟩ := HK.out
            have := k4.at_ (elt_mid (P := P) (L := L) (x := x))
            rwa [← HN.out.1, ← k1] at this
          have hcy : wr.cell? ⟨q, off + p, none⟩ = some (.int .i64 y) ∧ wr.frozen? ⟨q, off + p, none⟩ = false := by
            obtain ⟨k1, k2, k3, k4, k5, k6⟩ := HK.out
            rw [HLy.out] at k4
            have := k4.at_ (i := P.length + L'.length) (x := y) (by rw [show P ++ L'.concat y ++ x :: (R ++ U' ++ S) = P ++ L' ++ y :: (x :: (R ++ U' ++ S)) by simp]; exact elt_mid)
            rwa [← HN.out.1, ← HP.out] at this
          obtain ⟨cx, fx⟩ := hcx
          obtain ⟨cy, fy⟩ := hcy
          have g1 : (na : Int) < (p : Int) + 1 := by omega
          have gw : IntKind.i64.wrap (p : Int) = (p : Int) := IntWalk.i64_in _ (by omega)
          have g0 : (0 : Int) ≤ (p : Int) + 1 := by omega
          have g2 : (p : Int) + 1 < (len : Int) := by omega
          have g3 : (p : Int) < (len : Int) := by omega
          by_cases hk : key x < key y
          · have HKc := Lib.hid (HC.out.below _ _ HK.out.2.2.2.2.2 (Below.drew (Below.refl _ _)))
            go_wp2_with fail
            go_still_tail 14, (by kernel_rfl)
            change wpList _ _ _ _ _ wr.drew
            generalize hw2 : wr.drew = w2
            have HW2 := Lib.hid hw2; clear hw2
            go_wp2_with (go_at_call 41; refine (HC.out.lt _ _ _ (by rw [← HW2.out]; exact HKc.out) hk).mono ?_; rintro e w1 ⟨rfl, hb⟩)
            have hB1 : Below wr.heap.size wr w1 := by
              have := hb
              rw [← HW2.out] at this
              exact bthen (Below.drew (Below.refl _ _)) this
            have hqs := World.block_lt_of_cell? wr _ cx
            have HB1 := Lib.hid hB1
            have cx1 := bcel hB1 cx
            have cy1 := bcel hB1 cy
            have fx1 := (hB1.frozen (p := ⟨q, off + (p + 1), none⟩) hqs).trans fx
            have fy1 := (hB1.frozen (p := ⟨q, off + p, none⟩) hqs).trans fy
            clear cx cy fx fy hb hB1
            go_region
            all_goals go_wp2_with fail
            go_roundw
            case rel =>
              obtain ⟨k1, k2, k3, k4, k5, k6⟩ := HK.out
              have k7 := HC.out.below _ _ k6 HB1.out
              have k8 := k5.trans (Mut.of_below (lo := off) (hi := off + len) HB1.out hqs)
              have k9 := k4.below HB1.out hqs
              rw [HLy.out, List.concat_eq_append] at k9 k2
              have e1 := HN.out.1
              have e2 := HP.out
              have hlen : (P ++ (L' ++ [y]) ++ x :: (R ++ U' ++ S)).length = len := by
                rw [← HN.out.2.2, ← HD.out.2.1]
                have e3 := congrArg List.length k2
                have e4 := HD.out.2.2.1.length
                simp at e3 ⊢
                omega
              refine ⟨p, L', y :: R, by go_num, hnap, by omega, ⟨e2, by rw [k2]; simp, ?_, ?_, ?_, ?_⟩⟩
              · intro r hr
                rcases List.mem_cons.1 hr with rfl | hr
                · exact hk
                · exact k3 r hr
              · have h1 := (k9.set (i := p + 1) (by rw [hlen]; omega) y).set (i := p) (by rw [List.length_set, hlen]; omega) x
                rw [show p + 1 = P.length + L'.length + 1 by omega, show p = P.length + L'.length by omega, set_two] at h1
                have h2 := h1.drew
                simpa [e1, e2, Nat.add_assoc] using h2
              · exact ((k8.setCell (by omega) (by omega) _).setCell (by omega) (by omega) _).drewN 1
              · exact HC.out.below _ _ (HC.out.set _ _ _ (HC.out.set _ _ _ k7)) (Below.drew (Below.refl _ _))
            case measure => simp [intOf]
          · have HKc := Lib.hid (HC.out.below _ _ HK.out.2.2.2.2.2 (Below.drew (Below.refl _ _)))
            go_wp2_with fail
            go_still_tail 14, (by kernel_rfl)
            change wpList _ _ _ _ _ wr.drew
            generalize hw2 : wr.drew = w2
            have HW2 := Lib.hid hw2; clear hw2
            go_wp2_with (go_at_call 41; refine (HC.out.ge _ _ _ (by rw [← HW2.out]; exact HKc.out) (by omega)).mono ?_; rintro e w1 ⟨r, hr, rfl, hb⟩)
            have hqs := World.block_lt_of_cell? wr _ cx
            have HB1 : Hid (Below wr.heap.size wr w1) := by
              have := hb
              rw [← HW2.out] at this
              exact bthen (Below.drew (Below.refl _ _)) this
            go_roundw
            case rel =>
              obtain ⟨d1, d2, d3, d4, d5, d6, d7⟩ := HD.out
              obtain ⟨k1, k2, k3, k4, k5, k6⟩ := HK.out
              have k7 := HC.out.below _ _ k6 HB1.out
              have k8 := k5.trans (Mut.of_below (lo := off) (hi := off + len) HB1.out hqs)
              have k9 := k4.below HB1.out hqs
              rw [HLy.out, List.concat_eq_append] at k9 k2
              subst k2
              refine ⟨i + 1, T0 ++ [x], (L' ++ [y]) ++ x :: R, U', by go_num, by omega, by omega, ⟨by rw [d1]; simp; omega, by rw [← d2]; simp, (d3.append (Fil.refl [x])).trans (Fil.insert k3), d4.insert (fun z hz => by have := d4.le_last z hz; omega) k3, ?_, k8, k7⟩⟩
              simpa using k9
            case measure => simp [intOf]; omega
    · have e : i = nb := by omega
      have E := Lib.hid e; clear e
      go_wp2_with fail
      go_end0
      obtain ⟨d1, d2, d3, d4, d5, d6, d7⟩ := HD.out
      obtain ⟨e1, e2, e3⟩ := HN.out
      have e4 := E.out
      have hU : U = [] := by
        have := d3.length
        have e5 := congrArg List.length d2
        simp at e5
        exact List.eq_nil_of_length_eq_zero (by omega)
      subst hU
      rw [List.append_nil] at d2 d5
      exact ⟨T, ⟨by rw [← d2]; exact d3, d4, d5, d6, d7⟩, rfl⟩
end Go.Proofs.YtamekpldmplenaaDoor
