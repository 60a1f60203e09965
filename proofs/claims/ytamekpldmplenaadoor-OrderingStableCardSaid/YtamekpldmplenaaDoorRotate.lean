import Derived.Test.YtamekpldmplenaaDoorSwap
namespace Go.Proofs.YtamekpldmplenaaDoor
open Go.RowKit Go.Shelf

theorem swap_pc (q off len cap : Nat) (fv : Value) (xs P X M Y S : List Int) (va vb vn : Int) (w : World) (hH : Holds w q off xs) (hl : xs.length = len) (hbd : len < 17592186044417) (hx : xs = P ++ X ++ M ++ Y ++ S) (hxy : X.length = Y.length)
    (ha : va = P.length) (hb : vb = P.length + X.length + M.length) (hn : vn = X.length) :
    Calls Tryd.prog 58 #[.slice (some ⟨q, off, none⟩) len cap, .int .i64 va, .int .i64 vb, .int .i64 vn, fv] w fun e w' =>
      e = .returned (.tuple #[]) ∧ Hid (Holds w' q off (P ++ Y ++ M ++ X ++ S)) ∧ Hid (Mut q off (off + len) w w') := by
  subst ha hb hn hx
  have hlen : P.length + X.length + M.length + Y.length + S.length = len := by rw [← hl]; simp; omega
  have := swap_any q off len cap P.length (P.length + X.length + M.length) X.length fv _ w hH hl hbd (by omega) (by omega)
  rw [show (((P.length + X.length + M.length : Nat) : Int)) = (P.length : Int) + X.length + M.length by omega] at this
  refine this.mono ?_
  rintro e w' ⟨ys, hs, rfl, hh, hm⟩
  refine ⟨rfl, ?_, hm⟩
  rw [← swp_pieces hxy hs]
  exact hh

theorem rot_gt {P X Y S R : List Int} (h : P ++ Y ++ X ++ S = R) (hlt : Y.length < X.length) :
    (P ++ X ++ Y ++ S = P ++ X.take Y.length ++ X.drop Y.length ++ Y ++ S) ∧ (P ++ Y ++ X.drop Y.length ++ X.take Y.length ++ S = (P ++ Y) ++ X.drop Y.length ++ X.take Y.length ++ S) ∧ (P ++ Y) ++ X.take Y.length ++ X.drop Y.length ++ S = R := by
  refine ⟨?_, rfl, ?_⟩
  · conv => lhs; rw [← List.take_append_drop Y.length X]
    simp
  · rw [← h]
    conv => rhs; rw [← List.take_append_drop Y.length X]
    simp
theorem rot_lt {P X Y S R : List Int} (h : P ++ Y ++ X ++ S = R) (hlt : X.length < Y.length) :
    (P ++ X ++ Y ++ S = P ++ X ++ Y.take (Y.length - X.length) ++ Y.drop (Y.length - X.length) ++ S) ∧ P ++ Y.take (Y.length - X.length) ++ Y.drop (Y.length - X.length) ++ (X ++ S) = R := by
  refine ⟨?_, ?_⟩
  · conv => lhs; rw [← List.take_append_drop (Y.length - X.length) Y]
    simp
  · rw [← h]
    conv => rhs; rw [← List.take_append_drop (Y.length - X.length) Y]
    simp

set_option maxHeartbeats 1000000 in
theorem rotate_any (q off len cap : Nat) (fv : Value) (xs P X Y S : List Int) (va vm vb : Int) (w : World) (hH : Holds w q off xs) (hl : xs.length = len) (hbd : len < 17592186044417) (hx : xs = P ++ X ++ Y ++ S) (h1 : 0 < X.length) (h2 : 0 < Y.length)
    (ha : va = P.length) (hm : vm = P.length + X.length) (hb : vb = P.length + X.length + Y.length) :
    Calls Tryd.prog 57 #[.slice (some ⟨q, off, none⟩) len cap, .int .i64 va, .int .i64 vm, .int .i64 vb, fv] w fun e w' =>
      e = .returned (.tuple #[]) ∧ Hid (Holds w' q off (P ++ Y ++ X ++ S)) ∧ Hid (Mut q off (off + len) w w') := by
  obtain ⟨R, hR⟩ : ∃ R, R = P ++ Y ++ X ++ S := ⟨_, rfl⟩
  rw [← hR]
  have hlen : P.length + X.length + Y.length + S.length = len := by rw [← hl, hx]; simp; omega
  obtain ⟨m, hmm⟩ : ∃ m : Nat, m = P.length + X.length := ⟨_, rfl⟩
  obtain ⟨nx, hnx⟩ : ∃ n : Nat, n = X.length := ⟨_, rfl⟩
  obtain ⟨ny, hny⟩ : ∃ n : Nat, n = Y.length := ⟨_, rfl⟩
  obtain ⟨np, hnp⟩ : ∃ n : Nat, n = P.length := ⟨_, rfl⟩
  have ha' : va = np := by omega
  have hm' : vm = m := by omega
  have hb' : vb = m + ny := by omega
  clear ha hm hb
  subst ha' hm' hb'
  have hmn : m = np + nx := by omega
  have HMN := Lib.hid hmn
  have hsum : np + nx + ny ≤ len := by omega
  have hx1 : 0 < nx := by omega
  have hy1 : 0 < ny := by omega
  have H0 := Lib.hid hH
  have HX := Lib.hid hx
  have HR := Lib.hid hR
  have Hn := Lib.hid (show nx = X.length ∧ ny = Y.length ∧ np = P.length from ⟨hnx, hny, hnp⟩)
  have HL := Lib.hid hl
  clear hH hx hR hl hlen hmm hnx hny hnp h1 h2 hmn
  have ei : (m : Int) - (np : Int) = (nx : Int) := by have := HMN.out; omega
  go_enter Tryd.func57, Tryd.ntmps57
  go_wp2_with fail
  go_loopw [10, 11] (fun u v wr => ∃ (i j : Nat) (P' X' Y' S' : List Int), u = .int .i64 i ∧ v = .int .i64 j ∧ 0 < i ∧ 0 < j ∧ i ≤ m ∧ m + j ≤ len ∧
      Hid (i = X'.length ∧ j = Y'.length ∧ m = P'.length + X'.length ∧ P' ++ Y' ++ X' ++ S' = R ∧ (P' ++ X' ++ Y' ++ S').length = len) ∧ Hid (Holds wr q off (P' ++ X' ++ Y' ++ S')) ∧ Hid (Mut q off (off + len) w wr))
    (fun u v _ => (intOf u + intOf v).toNat)
  case atStart =>
    obtain ⟨e1, e2, e3⟩ := Hn.out
    have e4 := HMN.out
    refine ⟨nx, ny, P, X, Y, S, rfl, ?_, hx1, hy1, by omega, by omega, ⟨e1, e2, by omega, HR.out.symm, by rw [← HX.out]; exact HL.out⟩, by rw [← HX.out]; exact H0.out, Mut.refl _ _ _ _⟩
    go_num
  case round =>
    obtain ⟨i, j, P', X', Y', S', rfl, rfl, hi0, hj0, him, hjm, HD, HH, HM⟩ := hrel
    rcases Nat.lt_trichotomy i j with hlt | rfl | hlt
    · have b1 : ((i : Int) != (j : Int)) = true := by rw [bne_iff_ne]; omega
      have b2 : ¬ (i : Int) > (j : Int) := by omega
      go_wp2_with fail
      have hd := HD.out
      obtain ⟨e1, e2, e3, e4, e5⟩ := hd
      refine (swap_pc q off len cap fv _ P' X' (Y'.take (Y'.length - X'.length)) (Y'.drop (Y'.length - X'.length)) S' _ _ _ _ HH.out e5 hbd (rot_lt e4 (by omega)).1 (by simp; omega) (by omega) (by simp; omega) (by omega)).mono ?_
      rintro e w1 ⟨rfl, hh, hm⟩
      clear e1 e2 e3 e4 e5
      have ej : ((j : Int) - (i : Int)) = ((j - i : Nat) : Int) := by omega
      go_wp2_with fail
      go_roundw
      case rel =>
        obtain ⟨e1, e2, e3, e4, e5⟩ := HD.out
        refine ⟨i, j - i, P', Y'.drop (Y'.length - X'.length), Y'.take (Y'.length - X'.length), X' ++ S', rfl, ?_, by omega, by omega, by omega, by omega, ⟨by simp; omega, by simp; omega, by simp; omega, (rot_lt e4 (by omega)).2, ?_⟩, ?_, HM.out.trans hm.out⟩
        · go_num
        · rw [← e5]; simp; omega
        · have := hh.out
          rwa [List.append_assoc _ X' S'] at this
      case measure => simp [intOf]; omega
    · have b1 : ((i : Int) != (i : Int)) = false := by simp
      go_wp2_with fail
      have hd := HD.out
      obtain ⟨e1, e2, e3, e4, e5⟩ := hd
      refine (swap_pc q off len cap fv _ P' X' [] Y' S' _ _ _ _ HH.out e5 hbd (by simp) (by omega) (by omega) (by simp; omega) (by omega)).mono ?_
      rintro e w1 ⟨rfl, hh, hm⟩
      clear e1 e2 e3 e4 e5
      go_wp2_with fail
      go_end0
      refine ⟨rfl, ?_, HM.out.trans hm.out⟩
      have := hh.out
      rw [List.append_nil] at this
      rw [← HD.out.2.2.2.1]
      exact this
    · have b1 : ((i : Int) != (j : Int)) = true := by rw [bne_iff_ne]; omega
      go_wp2_with fail
      have hd := HD.out
      obtain ⟨e1, e2, e3, e4, e5⟩ := hd
      refine (swap_pc q off len cap fv _ P' (X'.take Y'.length) (X'.drop Y'.length) Y' S' _ _ _ _ HH.out e5 hbd (rot_gt e4 (by omega)).1 (by simp; omega) (by omega) (by simp; omega) (by simp; omega)).mono ?_
      rintro e w1 ⟨rfl, hh, hm⟩
      clear e1 e2 e3 e4 e5
      go_wp2_with fail
      go_roundw
      case rel =>
        obtain ⟨e1, e2, e3, e4, e5⟩ := HD.out
        refine ⟨i - j, j, P' ++ Y', X'.drop Y'.length, X'.take Y'.length, S', ?_, rfl, by omega, by omega, by omega, by omega, ⟨by simp; omega, by simp; omega, by simp; omega, (rot_gt e4 (by omega)).2.2, ?_⟩, hh.out, HM.out.trans hm.out⟩
        · go_num
        · rw [← e5]; simp; omega
      case measure => simp [intOf]; omega
end Go.Proofs.YtamekpldmplenaaDoor
