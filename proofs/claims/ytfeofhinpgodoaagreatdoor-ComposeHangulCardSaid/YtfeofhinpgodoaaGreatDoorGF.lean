/- the example, and composing the parts of syllables. -/
import Derived.Test.YtfeofhinpgodoaaGreatDoorGE
import Derived.Test.YtfeofhinpgodoaaGreatDoorGA
import Derived.Test.YtfeofhinpgodoaaGreatDoorGC
namespace Go.Proofs.YtfeofhinpgodoaaGreatDoor
open Go.RowKit Go.Shelf

def spA : List Sp := [⟨770, 770, 230⟩, ⟨803, 803, 220⟩]
def lA : List Mp := [⟨226, ⟨#[]⟩, [97, 770]⟩]
theorem chkA : chk spA = 0 := by decide
theorem mchkA : mchk lA = 0 := by
  have h1 : CodesOK lA := by intro m hm; simp [lA] at hm; subst hm; exact ⟨by decide, by decide⟩
  have h2 : SizesOK lA := by intro m hm; simp [lA] at hm; subst hm; simp
  have h3 : NamesOK lA := by intro m hm; simp [lA] at hm; subst hm; exact .inl rfl
  have h4 : OnceOK lA := by
    intro i j a b hij h0 h
    have hj := (List.getElem?_eq_some_iff.1 h).1
    simp [lA] at hj
    omega
  rw [mchk, if_neg (fun h => h h1), if_neg (fun h => h h2), if_neg (fun h => h h3), if_neg (fun h => h h4)]
theorem sortedA : SortedM lA := fun j a b _ h => by simp [lA] at h
theorem mapA : mapE lA = 0 := by rw [mapE, if_neg (fun h => h mchkA), if_pos sortedA]
theorem kindsA : kindsE spA lA = 0 := by
  have h1 : AdjNe lA := by unfold AdjNe; intro i a b _ h; simp [lA] at h
  have h2 : lA.any kd1 = false := by decide
  have h3 : lA.any (kd2 spA) = false := by decide
  rw [kindsE, if_neg (fun h => h h1), if_neg (by rw [h2]; simp), if_neg (by rw [h3]; simp)]
theorem onceA1 (cp : Bool) : onceS lA cp 226 = some [97, 770] := by cases cp <;> decide
theorem onceA2 (cp : Bool) : onceS lA cp 97 = none := by cases cp <;> decide
theorem onceA3 (cp : Bool) : onceS lA cp 770 = none := by cases cp <;> decide
theorem endsA (cp : Bool) : Ends (onceS lA cp) 226 := Ends.node (onceA1 cp) fun x hx => by
  simp at hx
  rcases hx with rfl | rfl
  · exact Ends.leaf (onceA2 cp)
  · exact Ends.leaf (onceA3 cp)
theorem szA (cp : Bool) : sz (onceS lA cp) 226 = 2 := by
  rw [sz_some (endsA cp) (onceA1 cp)]
  simp [sz_none (onceA2 cp), sz_none (onceA3 cp), bag]
theorem normA : normE spA lA [] = 0 := by
  have hm : ∀ m ∈ lA, m.frm = 226 := by simp [lA]
  have h1 : ¬ ∃ m ∈ lA, ¬ Ends (onceS lA true) m.frm := fun ⟨m, hm', h⟩ => h (by rw [hm m hm']; exact endsA true)
  have h2 : ¬ ((∃ m ∈ lA, 64 < sz (onceS lA true) m.frm) ∨ (∃ m ∈ lA, 64 < sz (onceS lA false) m.frm)) := by
    rintro (⟨m, hm', h⟩ | ⟨m, hm', h⟩) <;> rw [hm m hm', szA] at h <;> omega
  rw [normE, if_neg (fun h => h chkA), if_neg (fun h => h mapA), if_neg (fun h => h trivial), if_neg (fun h => h kindsA), if_neg h1, if_neg h2]
theorem effSA : effS spA lA [] = spA := if_pos normA
theorem effMA : effM spA lA [] = lA := if_pos normA
theorem effXA : effX spA lA [] = [] := if_pos normA
def kvA : List ((Int × Int) × Value) := [((97, 770), .int .i64 226)]
theorem cmA : cmE spA lA [] = kvA := by
  rw [cmE, effSA, effMA, effXA]
  have h1 : comp1 spA [] ⟨226, ⟨#[]⟩, [97, 770]⟩ = true := by decide
  have h2 : hcomp 97 770 = none := by decide
  show cstep spA [] [] ⟨226, ⟨#[]⟩, [97, 770]⟩ = _
  rw [cstep_new (a := 97) (b := 770) rfl h1 h2 rfl]; rfl
theorem lookA : look kvA ((97 : Int), (770 : Int)) = some (.int .i64 226) := rfl
theorem pairA : pairI kvA 97 770 = some 226 := pairI_some (by decide) lookA
theorem textA : textM spA kvA [97, 803, 770] = [226, 803] := by decide
theorem textB : textM spA kvA [4352, 4449, 4520] = [44033] := by decide
theorem primA : IsPrim kvA 226 := .inr ⟨97, 770, lookA⟩
theorem pairsA {ys : List T3} (h : PairsOf kvA ys) : ys.length = 1 := by
  have h2 : PairsOf kvA [⟨97, 770, 226⟩] := by
    refine ⟨by simp, fun t => ?_⟩
    obtain ⟨a, b, c⟩ := t
    simp only [kvA, look_cons, look_nil, List.mem_singleton, T3.mk.injEq]
    by_cases e : ((97 : Int), (770 : Int)) = (a, b)
    · rw [if_pos e]
      simp at e ⊢
      omega
    · rw [if_neg e]
      simp at e ⊢
      omega
  rw [h.ext h2]; rfl
end Go.Proofs.YtfeofhinpgodoaaGreatDoor

namespace Go.Proofs.YtfeofhinpgodoaaGreatDoor
open Go.RowKit Go.Shelf

theorem take_step {α : Type} {xs ys : List α} {k : Nat} {x : α} (h : Hid (xs.take k = ys.take k)) (hx : Hid (xs[k]? = some x)) (hy : Hid (ys[k]? = some x)) : Hid (xs.take (k + 1) = ys.take (k + 1)) := by
  obtain ⟨h1, rfl⟩ := List.getElem?_eq_some_iff.1 hx.out
  obtain ⟨h2, e⟩ := List.getElem?_eq_some_iff.1 hy.out
  show _ = _
  rw [List.take_succ_eq_append_getElem h1, List.take_succ_eq_append_getElem h2, h.out, e]
theorem ne_at {α : Type} {xs ys : List α} {k : Nat} {x y : α} (hx : Hid (xs[k]? = some x)) (hy : Hid (ys[k]? = some y)) (h : x ≠ y) : xs ≠ ys := by
  rintro rfl
  have := hx.out.symm.trans hy.out
  cases this; exact h rfl
theorem eq_all {α : Type} {xs ys : List α} {k : Nat} (h : Hid (xs.take k = ys.take k)) (h1 : xs.length ≤ k) (h2 : ys.length ≤ k) : xs = ys := by
  have := h.out
  rwa [List.take_of_length_le h1, List.take_of_length_le h2] at this

set_option maxHeartbeats 1000000 in
theorem refCompare_any (A : Option Addr) (n c : Nat) (xs : List Int) (A' : Option Addr) (n' c' : Nat) (ys : List Int) (w : World) (hR : RdI w A n xs) (hR' : RdI w A' n' ys) :
    Calls Tryz.prog 44 #[.slice A n c, .slice A' n' c'] w fun e w' => ∃ r : Int, (r == 0) = decide (xs = ys) ∧ e = .returned (.int .i64 r) ∧ Below w.heap.size w w' := by
  have hn := hR.bd
  have hn' := hR'.bd
  have hl := Lib.hid hR.len
  have hl' := Lib.hid hR'.len
  have HR := Lib.hid hR; have HR' := Lib.hid hR'
  clear hR hR'
  go_enter Tryz.func44, Tryz.ntmps44
  go_wp2_with fail
  go_loopw [5] (fun s1 wr => ∃ k : Nat, s1 = .int .i64 k ∧ k ≤ n ∧ k ≤ n' ∧ Hid (xs.take k = ys.take k) ∧ Below w.heap.size w wr)
    (fun s1 _ => n - (intOf s1).toNat)
  case atStart => exact ⟨0, rfl, by omega, by omega, by simp [Hid], Below.refl _ _⟩
  case round =>
    obtain ⟨k, rfl, hk, hk', HK, hB⟩ := hrel
    by_cases hlt : k < n ∧ k < n'
    · obtain ⟨h1, h2⟩ := hlt
      have hlt' : (k : Int) < (n : Int) := by omega
      have hlt2 : (k : Int) < (n' : Int) := by omega
      obtain ⟨b, o, rfl⟩ := HR.out.addr (by omega)
      obtain ⟨b', o', rfl⟩ := HR'.out.addr (by omega)
      obtain ⟨x, hx, cx⟩ := RdI.elt (HR.out.below hB) h1
      obtain ⟨y, hy, cy⟩ := RdI.elt (HR'.out.below hB) h2
      have HB := Lib.hid hB
      clear hB
      rcases Int.lt_trichotomy x y with hxy | hxy | hxy
      · have hf := Lib.hid (decide_eq_false (ne_at hx hy (by omega)))
        have hd := decide_eq_true hxy
        go_wp2_with fail
        go_quiet (fail)
        go_wp2_with fail
        go_ret
        exact ⟨-1, by rw [hf.out]; rfl, rfl, bdrewN HB.out _⟩
      · subst hxy
        have hd : decide (x < x) = false := by simp
        go_wp2_with fail
        go_quiet (fail)
        go_wp2_with fail
        go_quiet (fail)
        go_wp2_with fail
        go_roundw
        case rel => exact ⟨k + 1, by go_num, by omega, by omega, take_step HK hx hy, by repeat (first | exact HB.out | refine bdrewN ?_ _)⟩
        case measure => simp [intOf] <;> omega
      · have hf := Lib.hid (decide_eq_false (ne_at hx hy (by omega)))
        have hd : decide (x < y) = false := decide_eq_false (by omega)
        have hd' := decide_eq_true hxy
        go_wp2_with fail
        go_quiet (fail)
        go_wp2_with fail
        go_quiet (fail)
        go_wp2_with fail
        go_ret
        exact ⟨1, by rw [hf.out]; rfl, rfl, by repeat (first | exact HB.out | refine bdrewN ?_ _)⟩
    · rcases Nat.lt_trichotomy n n' with h | h | h
      · have e : k = n := by omega
        subst e
        have hf := Lib.hid (show decide (xs = ys) = false from decide_eq_false (by rintro rfl; have := hl.out; have := hl'.out; omega))
        have h1 : ¬ (k : Int) < (k : Int) := by omega
        have h2 : (k : Int) < (n' : Int) := by omega
        clear hlt
        go_wp2_with fail
        go_ret
        exact ⟨-1, by rw [hf.out]; rfl, rfl, hB⟩
      · subst h
        have e : k = n := by omega
        subst e
        have hf := Lib.hid (decide_eq_true (eq_all HK (by have := hl.out; omega) (by have := hl'.out; omega)))
        have h1 : ¬ (k : Int) < (k : Int) := by omega
        clear hlt
        go_wp2_with fail
        go_ret
        exact ⟨0, by rw [hf.out]; rfl, rfl, hB⟩
      · have e : k = n' := by omega
        subst e
        have hf := Lib.hid (show decide (xs = ys) = false from decide_eq_false (by rintro rfl; have := hl.out; have := hl'.out; omega))
        have h1 : (k : Int) < (n : Int) := by omega
        have h2 : ¬ (k : Int) < (k : Int) := by omega
        have h3 : ¬ (n : Int) < (k : Int) := by omega
        clear hlt
        go_wp2_with fail
        go_ret
        exact ⟨1, by rw [hf.out]; rfl, rfl, hB⟩

set_option maxHeartbeats 400000 in
theorem refEqual_any (A : Option Addr) (n c : Nat) (xs : List Int) (A' : Option Addr) (n' c' : Nat) (ys : List Int) (w : World) (hR : RdI w A n xs) (hR' : RdI w A' n' ys) :
    Calls Tryz.prog 18 #[.slice A n c, .slice A' n' c'] w fun e w' => e = .returned (.bool (decide (xs = ys))) ∧ Below w.heap.size w w' := by
  have HR := Lib.hid hR; have HR' := Lib.hid hR'
  clear hR hR'
  go_enter Tryz.func18, Tryz.ntmps18
  go_wp2_with (go_at_call 44; refine (refCompare_any _ _ _ _ _ _ _ _ _ HR.out HR'.out).mono ?_; rintro e w1 ⟨r, hr, rfl, hb⟩; have Hr := Lib.hid hr; clear hr)
  go_ret
  exact ⟨ret_bool Hr.out, hb⟩
end Go.Proofs.YtfeofhinpgodoaaGreatDoor

namespace Go.Proofs.YtfeofhinpgodoaaGreatDoor
open Go.RowKit Go.Shelf

set_option maxRecDepth 100000 in
set_option maxHeartbeats 8000000 in
theorem awake_any (w : World) (hG : Glob w) : Calls Tryz.prog 11 #[] w fun e w' => e = .returned (.bool true) ∧ Below w.heap.size w w' := by
  have HG := Lib.hid hG
  clear hG
  go_enter Tryz.func11, Tryz.ntmps11
  go_wp2_with fail
  obtain ⟨W1, hW1⟩ : ∃ W1, W1 = (((w.alloc (.cells #[.int .i64 770, .int .i64 770, .int .i64 230, .int .i64 803, .int .i64 803, .int .i64 220] 58)).alloc (.cells #[.int .i64 97, .int .i64 770] 3)).alloc (.cells #[.int .i64 226, .slice (some ⟨w.heap.size + 1, 0, none⟩) 2 2, .string ⟨#[]⟩] 56)).alloc (.cells #[.slice (some ⟨w.heap.size, 0, none⟩) 2 2, .slice (some ⟨w.heap.size + 1 + 1, 0, none⟩) 1 1, .slice none 0 0] 28) := ⟨_, rfl⟩
  rw [← hW1]
  have c0 : W1.cell? ⟨w.heap.size + 1 + 1 + 1, 0, none⟩ = some (.slice (some ⟨w.heap.size, 0, none⟩) 2 2) := by rw [hW1]; go_simp
  have c1 : W1.cell? ⟨w.heap.size + 1 + 1 + 1, 1, none⟩ = some (.slice (some ⟨w.heap.size + 1 + 1, 0, none⟩) 1 1) := by rw [hW1]; go_simp
  have c2 : W1.cell? ⟨w.heap.size + 1 + 1 + 1, 2, none⟩ = some (.slice none 0 0) := by rw [hW1]; go_simp
  have hb1 : Below w.heap.size w W1 := by rw [hW1]; repeat (first | exact Below.refl _ _ | refine Below.alloc ?_ (by first | exact Nat.le_refl _ | (simp; done) | (simp; omega)) _)
  have HR1 : Hid (RdN W1 (.agg #[.slice (some ⟨w.heap.size, 0, none⟩) 2 2, .slice (some ⟨w.heap.size + 1 + 1, 0, none⟩) 1 1, .slice none 0 0]) spA lA []) := by
    refine ⟨_, _, _, _, _, _, _, _, _, rfl, ?_, ?_, ⟨rfl, by omega, fun h => absurd h (by omega)⟩, by omega, by omega⟩
    · rw [hW1]
      exact ((((lit_rd encSp_len (by omega) w _ _ 2 spA rfl (by omega) rfl).below (ba _ _)).below (ba _ _)).below (ba _ _))
    · refine ⟨[⟨⟨226, ⟨#[]⟩, [97, 770]⟩, some ⟨w.heap.size + 1, 0, none⟩, 2, 2⟩], rfl, ?_, ?_⟩
      · rw [hW1]
        refine Rd.below ?_ (ba _ _)
        have h := lit_rd (enc := encMp) (k := 3) (fun _ => rfl) (by omega) ((w.alloc (.cells #[.int .i64 770, .int .i64 770, .int .i64 230, .int .i64 803, .int .i64 803, .int .i64 220] 58)).alloc (.cells #[.int .i64 97, .int .i64 770] 3)) #[.int .i64 226, .slice (some ⟨w.heap.size + 1, 0, none⟩) 2 2, .string ⟨#[]⟩] 56 1 [⟨⟨226, ⟨#[]⟩, [97, 770]⟩, some ⟨w.heap.size + 1, 0, none⟩, 2, 2⟩] rfl (by omega) rfl
        simpa using h
      · intro m hm
        simp at hm
        subst hm
        refine ⟨?_, by simp⟩
        rw [hW1]
        refine Rd.below (Rd.below ?_ (ba _ _)) (ba _ _)
        have h := litI (w.alloc (.cells #[.int .i64 770, .int .i64 770, .int .i64 230, .int .i64 803, .int .i64 803, .int .i64 220] 58)) #[.int .i64 97, .int .i64 770] 3 2 [97, 770] rfl (by omega) rfl
        simpa using h
  have HB1 := Lib.hid hb1
  clear hW1 hb1
  obtain ⟨nv, hnv⟩ : ∃ nv, nv = Value.agg #[.slice (some ⟨w.heap.size, 0, none⟩) 2 2, .slice (some ⟨w.heap.size + 1 + 1, 0, none⟩) 1 1, .slice none 0 0] := ⟨_, rfl⟩
  refine (pair_any _ spA lA [] 97 770 W1 HR1.out (HG.out.below HB1.out)).mono ?_
  rintro e w2 ⟨rfl, hb⟩
  rw [cmA, pairA]
  have d0 := bcel hb c0; have d1 := bcel hb c1; have d2 := bcel hb c2
  have HR2 := Lib.hid (HR1.out.below hb); have HB2 := Lib.hid (bthen HB1.out hb)
  clear hb c0 c1 c2 HR1 HB1
  go_wp2_with fail
  refine (text_any _ spA lA [] (some ⟨w2.heap.size, 0, none⟩) 3 3 [97, 803, 770] _ (HR2.out.below (ba _ _)) (litI w2 _ _ 3 _ rfl (by omega) rfl) (by omega) ((HG.out.below HB2.out).below (ba _ _))).mono ?_
  rintro e w3 ⟨A3, n3, k3, rfl, hr3, hb⟩
  rw [effSA, cmA, textA] at hr3
  have e0 := bcel (bthen (ba _ _) hb) d0; have e1 := bcel (bthen (ba _ _) hb) d1; have e2 := bcel (bthen (ba _ _) hb) d2
  have HR3 := Lib.hid (HR2.out.below (bthen (ba _ _) hb)); have HB3 := Lib.hid (bthen HB2.out (bthen (ba _ _) hb))
  have HT3 := Lib.hid hr3
  clear hb d0 d1 d2 HR2 HB2 hr3
  go_wp2_with fail
  refine (refEqual_any A3 n3 k3 [226, 803] (some ⟨w3.heap.size, 0, none⟩) 2 2 [226, 803] _ (HT3.out.below (ba _ _)) (litI w3 _ _ 2 _ rfl (by omega) rfl)).mono ?_
  rintro e w4 ⟨rfl, hb⟩
  have d0 := bcel (bthen (ba _ _) hb) e0; have d1 := bcel (bthen (ba _ _) hb) e1; have d2 := bcel (bthen (ba _ _) hb) e2
  have HR4 := Lib.hid (HR3.out.below (bthen (ba _ _) hb)); have HB4 := Lib.hid (bthen HB3.out (bthen (ba _ _) hb))
  clear hb e0 e1 e2 HR3 HB3 HT3
  rw [decide_eq_true (rfl : ([226, 803] : List Int) = [226, 803])]
  go_wp2_with fail
  refine (text_any _ spA lA [] (some ⟨w4.heap.size, 0, none⟩) 3 3 [4352, 4449, 4520] _ (HR4.out.below (ba _ _)) (litI w4 _ _ 3 _ rfl (by omega) rfl) (by omega) ((HG.out.below HB4.out).below (ba _ _))).mono ?_
  rintro e w5 ⟨A5, n5, k5, rfl, hr5, hb⟩
  rw [effSA, cmA, textB] at hr5
  have e0 := bcel (bthen (ba _ _) hb) d0; have e1 := bcel (bthen (ba _ _) hb) d1; have e2 := bcel (bthen (ba _ _) hb) d2
  have HR5 := Lib.hid (HR4.out.below (bthen (ba _ _) hb)); have HB5 := Lib.hid (bthen HB4.out (bthen (ba _ _) hb))
  have HT5 := Lib.hid hr5
  clear hb d0 d1 d2 HR4 HB4 hr5
  go_wp2_with fail
  refine (refEqual_any A5 n5 k5 [44033] (some ⟨w5.heap.size, 0, none⟩) 1 1 [44033] _ (HT5.out.below (ba _ _)) (litI w5 _ _ 1 _ rfl (by omega) rfl)).mono ?_
  rintro e w6 ⟨rfl, hb⟩
  have d0 := bcel (bthen (ba _ _) hb) e0; have d1 := bcel (bthen (ba _ _) hb) e1; have d2 := bcel (bthen (ba _ _) hb) e2
  have HR6 := Lib.hid (HR5.out.below (bthen (ba _ _) hb)); have HB6 := Lib.hid (bthen HB5.out (bthen (ba _ _) hb))
  clear hb e0 e1 e2 HR5 HB5 HT5
  rw [decide_eq_true (rfl : ([44033] : List Int) = [44033])]
  go_wp2_with fail
  refine (primary_any _ spA lA [] 226 w6 HR6.out (HG.out.below HB6.out)).mono ?_
  rintro e w7 ⟨r, rfl, hr, hb⟩
  obtain rfl : r = true := hr.2 (by rw [cmA]; exact primA)
  have e0 := bcel hb d0; have e1 := bcel hb d1; have e2 := bcel hb d2
  have HR7 := Lib.hid (HR6.out.below hb); have HB7 := Lib.hid (bthen HB6.out hb)
  clear hb d0 d1 d2 HR6 HB6 hr
  go_wp2_with fail
  refine (pairs_any _ spA lA [] w7 HR7.out (HG.out.below HB7.out)).mono ?_
  rintro e w8 ⟨A8, n8, k8, ys, rfl, hP, hrd, -, -, hb⟩
  obtain rfl : n8 = 1 := by rw [← hrd.len]; rw [cmA] at hP; exact pairsA hP
  have HB8 := Lib.hid (bthen HB7.out hb)
  clear hb hP hrd e0 e1 e2
  go_wp2_with fail
  go_ret
  exact ⟨rfl, HB8.out⟩
end Go.Proofs.YtfeofhinpgodoaaGreatDoor

namespace Go.Proofs.YtfeofhinpgodoaaGreatDoor
open Go.RowKit Go.Shelf

set_option maxHeartbeats 2000000 in
theorem refKind_any (c : Int) (w : World) : Calls Tryz.prog 27 #[.int .i64 c] w fun e w' => e = .returned (.int .i64 (kindF c)) ∧ w' = w := by
  by_cases h0 : c < 4352
  · have HK := Lib.hid (show kindF c = 0 by unfold kindF; repeat (first | rw [if_pos (by omega)] | rw [if_neg (by omega)]))
    have g0 : decide (4352 ≤ c) = false := decide_eq_false (by omega)
    have g1 : decide (c ≤ 4370) = true := decide_eq_true (by omega)
    have g2 : decide (4449 ≤ c) = false := decide_eq_false (by omega)
    have g3 : decide (c ≤ 4469) = true := decide_eq_true (by omega)
    have g4 : decide (4520 ≤ c) = false := decide_eq_false (by omega)
    have g5 : decide (c ≤ 4546) = true := decide_eq_true (by omega)
    have g6 : decide (44032 ≤ c) = false := decide_eq_false (by omega)
    have g7 : decide (c ≤ 55203) = true := decide_eq_true (by omega)
    go_enter Tryz.func27, Tryz.ntmps27
    go_wp2_with fail
    go_ret
    exact ⟨ret_int HK.out.symm, rfl⟩
  · by_cases h1 : c < 4371
    · have HK := Lib.hid (show kindF c = 1 by unfold kindF; repeat (first | rw [if_pos (by omega)] | rw [if_neg (by omega)]))
      have g0 : decide (4352 ≤ c) = true := decide_eq_true (by omega)
      have g1 : decide (c ≤ 4370) = true := decide_eq_true (by omega)
      have g2 : decide (4449 ≤ c) = false := decide_eq_false (by omega)
      have g3 : decide (c ≤ 4469) = true := decide_eq_true (by omega)
      have g4 : decide (4520 ≤ c) = false := decide_eq_false (by omega)
      have g5 : decide (c ≤ 4546) = true := decide_eq_true (by omega)
      have g6 : decide (44032 ≤ c) = false := decide_eq_false (by omega)
      have g7 : decide (c ≤ 55203) = true := decide_eq_true (by omega)
      go_enter Tryz.func27, Tryz.ntmps27
      go_wp2_with fail
      go_ret
      exact ⟨ret_int HK.out.symm, rfl⟩
    · by_cases h2 : c < 4449
      · have HK := Lib.hid (show kindF c = 0 by unfold kindF; repeat (first | rw [if_pos (by omega)] | rw [if_neg (by omega)]))
        have g0 : decide (4352 ≤ c) = true := decide_eq_true (by omega)
        have g1 : decide (c ≤ 4370) = false := decide_eq_false (by omega)
        have g2 : decide (4449 ≤ c) = false := decide_eq_false (by omega)
        have g3 : decide (c ≤ 4469) = true := decide_eq_true (by omega)
        have g4 : decide (4520 ≤ c) = false := decide_eq_false (by omega)
        have g5 : decide (c ≤ 4546) = true := decide_eq_true (by omega)
        have g6 : decide (44032 ≤ c) = false := decide_eq_false (by omega)
        have g7 : decide (c ≤ 55203) = true := decide_eq_true (by omega)
        go_enter Tryz.func27, Tryz.ntmps27
        go_wp2_with fail
        go_ret
        exact ⟨ret_int HK.out.symm, rfl⟩
      · by_cases h3 : c < 4470
        · have HK := Lib.hid (show kindF c = 2 by unfold kindF; repeat (first | rw [if_pos (by omega)] | rw [if_neg (by omega)]))
          have g0 : decide (4352 ≤ c) = true := decide_eq_true (by omega)
          have g1 : decide (c ≤ 4370) = false := decide_eq_false (by omega)
          have g2 : decide (4449 ≤ c) = true := decide_eq_true (by omega)
          have g3 : decide (c ≤ 4469) = true := decide_eq_true (by omega)
          have g4 : decide (4520 ≤ c) = false := decide_eq_false (by omega)
          have g5 : decide (c ≤ 4546) = true := decide_eq_true (by omega)
          have g6 : decide (44032 ≤ c) = false := decide_eq_false (by omega)
          have g7 : decide (c ≤ 55203) = true := decide_eq_true (by omega)
          go_enter Tryz.func27, Tryz.ntmps27
          go_wp2_with fail
          go_ret
          exact ⟨ret_int HK.out.symm, rfl⟩
        · by_cases h4 : c < 4520
          · have HK := Lib.hid (show kindF c = 0 by unfold kindF; repeat (first | rw [if_pos (by omega)] | rw [if_neg (by omega)]))
            have g0 : decide (4352 ≤ c) = true := decide_eq_true (by omega)
            have g1 : decide (c ≤ 4370) = false := decide_eq_false (by omega)
            have g2 : decide (4449 ≤ c) = true := decide_eq_true (by omega)
            have g3 : decide (c ≤ 4469) = false := decide_eq_false (by omega)
            have g4 : decide (4520 ≤ c) = false := decide_eq_false (by omega)
            have g5 : decide (c ≤ 4546) = true := decide_eq_true (by omega)
            have g6 : decide (44032 ≤ c) = false := decide_eq_false (by omega)
            have g7 : decide (c ≤ 55203) = true := decide_eq_true (by omega)
            go_enter Tryz.func27, Tryz.ntmps27
            go_wp2_with fail
            go_ret
            exact ⟨ret_int HK.out.symm, rfl⟩
          · by_cases h5 : c < 4547
            · have HK := Lib.hid (show kindF c = 3 by unfold kindF; repeat (first | rw [if_pos (by omega)] | rw [if_neg (by omega)]))
              have g0 : decide (4352 ≤ c) = true := decide_eq_true (by omega)
              have g1 : decide (c ≤ 4370) = false := decide_eq_false (by omega)
              have g2 : decide (4449 ≤ c) = true := decide_eq_true (by omega)
              have g3 : decide (c ≤ 4469) = false := decide_eq_false (by omega)
              have g4 : decide (4520 ≤ c) = true := decide_eq_true (by omega)
              have g5 : decide (c ≤ 4546) = true := decide_eq_true (by omega)
              have g6 : decide (44032 ≤ c) = false := decide_eq_false (by omega)
              have g7 : decide (c ≤ 55203) = true := decide_eq_true (by omega)
              go_enter Tryz.func27, Tryz.ntmps27
              go_wp2_with fail
              go_ret
              exact ⟨ret_int HK.out.symm, rfl⟩
            · by_cases h6 : c < 44032
              · have HK := Lib.hid (show kindF c = 0 by unfold kindF; repeat (first | rw [if_pos (by omega)] | rw [if_neg (by omega)]))
                have g0 : decide (4352 ≤ c) = true := decide_eq_true (by omega)
                have g1 : decide (c ≤ 4370) = false := decide_eq_false (by omega)
                have g2 : decide (4449 ≤ c) = true := decide_eq_true (by omega)
                have g3 : decide (c ≤ 4469) = false := decide_eq_false (by omega)
                have g4 : decide (4520 ≤ c) = true := decide_eq_true (by omega)
                have g5 : decide (c ≤ 4546) = false := decide_eq_false (by omega)
                have g6 : decide (44032 ≤ c) = false := decide_eq_false (by omega)
                have g7 : decide (c ≤ 55203) = true := decide_eq_true (by omega)
                go_enter Tryz.func27, Tryz.ntmps27
                go_wp2_with fail
                go_ret
                exact ⟨ret_int HK.out.symm, rfl⟩
              · by_cases h7 : c < 55204
                · obtain ⟨i, rfl⟩ : ∃ i : Nat, c = 44032 + (i : Int) := ⟨(c - 44032).toNat, by omega⟩
                  have hi : i < 11172 := by omega
                  have g0 : decide (4352 ≤ 44032 + (i : Int)) = true := decide_eq_true (by omega)
                  have g1 : decide (44032 + (i : Int) ≤ 4370) = false := decide_eq_false (by omega)
                  have g2 : decide (4449 ≤ 44032 + (i : Int)) = true := decide_eq_true (by omega)
                  have g3 : decide (44032 + (i : Int) ≤ 4469) = false := decide_eq_false (by omega)
                  have g4 : decide (4520 ≤ 44032 + (i : Int)) = true := decide_eq_true (by omega)
                  have g5 : decide (44032 + (i : Int) ≤ 4546) = false := decide_eq_false (by omega)
                  have g6 : decide (44032 ≤ 44032 + (i : Int)) = true := decide_eq_true (by omega)
                  have g7 : decide (44032 + (i : Int) ≤ 55203) = true := decide_eq_true (by omega)
                  have gs : (44032 : Int) + (i : Int) - 44032 = (i : Int) := by omega
                  by_cases hm : i % 28 = 0
                  · have HK := Lib.hid (show kindF (44032 + (i : Int)) = 4 by unfold kindF; rw [if_pos (by omega), if_pos (by omega)])
                    have gm : ((i : Int) % 28 == 0) = true := beq_iff_eq.2 (by omega)
                    have gt : ((i : Int).tmod 28 == 0) = true := beq_iff_eq.2 (by rw [Int.tmod_eq_emod_of_nonneg (by omega)]; omega)
                    clear hm
                    go_enter Tryz.func27, Tryz.ntmps27
                    go_wp2_with fail
                    go_ret
                    exact ⟨ret_int HK.out.symm, rfl⟩
                  · have HK := Lib.hid (show kindF (44032 + (i : Int)) = 5 by unfold kindF; rw [if_pos (by omega), if_neg (by omega)])
                    have gm : ((i : Int) % 28 == 0) = false := beq_eq_false_iff_ne.2 (by omega)
                    have gt : ((i : Int).tmod 28 == 0) = false := beq_eq_false_iff_ne.2 (by rw [Int.tmod_eq_emod_of_nonneg (by omega)]; omega)
                    clear hm
                    go_enter Tryz.func27, Tryz.ntmps27
                    go_wp2_with fail
                    go_ret
                    exact ⟨ret_int HK.out.symm, rfl⟩
                · have HK := Lib.hid (show kindF c = 0 by unfold kindF; repeat (first | rw [if_pos (by omega)] | rw [if_neg (by omega)]))
                  have g0 : decide (4352 ≤ c) = true := decide_eq_true (by omega)
                  have g1 : decide (c ≤ 4370) = false := decide_eq_false (by omega)
                  have g2 : decide (4449 ≤ c) = true := decide_eq_true (by omega)
                  have g3 : decide (c ≤ 4469) = false := decide_eq_false (by omega)
                  have g4 : decide (4520 ≤ c) = true := decide_eq_true (by omega)
                  have g5 : decide (c ≤ 4546) = false := decide_eq_false (by omega)
                  have g6 : decide (44032 ≤ c) = true := decide_eq_true (by omega)
                  have g7 : decide (c ≤ 55203) = false := decide_eq_false (by omega)
                  go_enter Tryz.func27, Tryz.ntmps27
                  go_wp2_with fail
                  go_ret
                  exact ⟨ret_int HK.out.symm, rfl⟩

theorem kindF_syl (c : Int) : 4 ≤ kindF c ↔ isSyl c := by
  unfold kindF isSyl
  repeat' split
  all_goals omega
/-- A fresh row of numbers. -/
def DecPost (t : List Int) (w : World) (e : Ending) (w' : World) : Prop := ∃ b c, e = .returned (.slice (some ⟨b, 0, none⟩) t.length c) ∧ RdI w' (some ⟨b, 0, none⟩) t.length t ∧ w.heap.size ≤ b ∧ Below w.heap.size w w'
set_option maxHeartbeats 2000000 in
theorem refDec_any (c : Int) (w : World) : Calls Tryz.prog 28 #[.int .i64 c] w (DecPost (hdec c) w) := by
  by_cases hs : isSyl c
  · have hk : 4 ≤ kindF c := (kindF_syl c).2 hs
    have hd : decide (kindF c < 4) = false := decide_eq_false (by omega)
    have HS := Lib.hid hs
    obtain ⟨i, rfl⟩ : ∃ i : Nat, c = 44032 + (i : Int) := ⟨(c - 44032).toNat, by unfold isSyl at hs; omega⟩
    have hi : i < 11172 := by unfold isSyl at hs; omega
    have gs : (44032 : Int) + (i : Int) - 44032 = (i : Int) := by omega
    clear hs hk
    by_cases hm : i % 28 = 0
    · have HD := Lib.hid (show hdec (44032 + (i : Int)) = [4352 + (i : Int) / 28 / 21, 4449 + (i : Int) / 28 % 21] by
        have : hT (44032 + (i : Int)) = 0 := by unfold hT; omega
        rw [hdec, if_pos HS.out, if_pos this]; simp [hL, hV, gs])
      have gm : decide (0 < (i : Int) % 28) = false := decide_eq_false (by omega)
      go_enter Tryz.func28, Tryz.ntmps28
      go_wp2_with (go_at_call 27; refine (refKind_any _ _).mono ?_; rintro e w1 ⟨rfl, rfl⟩)
      go_ret
      rw [HD.out]
      exact ⟨w1.heap.size, 2, rfl, litI w1 _ _ 2 _ rfl (by omega) rfl, Nat.le_refl _, ba _ _⟩
    · have HD := Lib.hid (show hdec (44032 + (i : Int)) = [4352 + (i : Int) / 28 / 21, 4449 + (i : Int) / 28 % 21] ++ [4520 + (i : Int) % 28 - 1] by
        have : ¬ hT (44032 + (i : Int)) = 0 := by unfold hT; omega
        rw [hdec, if_pos HS.out, if_neg this]; simp [hL, hV, hT, gs])
      have gm : decide (0 < (i : Int) % 28) = true := decide_eq_true (by omega)
      go_enter Tryz.func28, Tryz.ntmps28
      go_wp2_with (first
        | (go_at_call 27; refine (refKind_any _ _).mono ?_; rintro e w1 ⟨rfl, rfl⟩; have HO : Hid ((w1.alloc (.cells #[.int .i64 (4352 + (i : Int) / 28 / 21), .int .i64 (4449 + (i : Int) / 28 % 21)] 3)).ownsRow w1.heap.size 3 1 (.slice (some ⟨w1.heap.size, 0, none⟩) 2 2) 2 ([4352 + (i : Int) / 28 / 21, 4449 + (i : Int) / 28 % 21].flatMap encI)) := World.ownsRow_lit (base := w1.heap.size) (e := 3) (size := 1) w1 _ 2 (Nat.le_refl _) (by decide) rfl)
        | (at_builtin; refine wpList_append_ints rfl _ _ rfl w1.heap.size _ 2 _ rfl (HO.out.alloc _) (some ⟨w1.heap.size + 1, 0, none⟩) 1 1 [4520 + (i : Int) % 28 - 1] rfl (by exact litIb _ _ _ _ _ _ (by simp) rfl (by omega) rfl) (by omega) (by simp; omega) ?_; intro v2 w2 hown hbel; have HO2 := Lib.hid hown; have HB2 := Lib.hid (((ba w1 _).trans ((ba _ _).mono (by simp))).trans hbel); clear hown hbel))
      go_ret
      rw [HD.out]
      obtain ⟨g, cap, rfl, hg1, hg2⟩ := HO2.out.form (by omega)
      obtain ⟨A9, c9, e9, hrd⟩ := own_rd encI_len (by omega) HO2.out (by omega)
      cases e9
      exact ⟨g, cap, rfl, hrd, hg1, HB2.out⟩
  · have HD := Lib.hid (show hdec c = [c] by rw [hdec, if_neg hs])
    have hd : decide (kindF c < 4) = true := decide_eq_true (by have := mt (kindF_syl c).1 hs; omega)
    clear hs
    go_enter Tryz.func28, Tryz.ntmps28
    go_wp2_with (go_at_call 27; refine (refKind_any _ _).mono ?_; rintro e w1 ⟨rfl, rfl⟩)
    go_ret
    rw [HD.out]
    exact ⟨w1.heap.size, 1, rfl, litI w1 _ _ 1 _ rfl (by omega) rfl, Nat.le_refl _, ba _ _⟩
end Go.Proofs.YtfeofhinpgodoaaGreatDoor

namespace Go.Proofs.YtfeofhinpgodoaaGreatDoor
open Go.RowKit Go.Shelf

theorem cls_nil (c : Int) : cls [] c = 0 := by unfold cls; split <;> rfl
theorem pair_nil {a b : Int} (h : hcomp a b = none) : pairI [] a b = none := pairI_none h (look_nil _)
/-- One element is put behind. -/
theorem tstep_put0 (S : List Int) (la : Int) (c : Int) (h : S = [] ∧ la = -1 ∨ ∃ j : Nat, la = (j : Int) ∧ j + 1 = S.length ∧ pairI [] (S.getD j 0) c = none) :
    tstep [] [] ⟨S, la, 0⟩ c = ⟨S ++ [c], S.length, 0⟩ := by
  have hp : tput [] ⟨S, la, 0⟩ c = ⟨S ++ [c], S.length, 0⟩ := by unfold tput; rw [cls_nil, if_pos rfl]
  unfold tstep
  rcases h with ⟨rfl, rfl⟩ | ⟨j, rfl, hj, hn⟩
  · rw [if_pos (by simp [TS.blk])]; exact hp
  · rw [if_neg (by simp [TS.blk]; omega)]
    simp only [Int.toNat_natCast, hn]
    exact hp
/-- One element is taken into the last. -/
theorem tstep_in (S : List Int) (x c p : Int) (hn : pairI [] x c = some p) : tstep [] [] ⟨S ++ [x], S.length, 0⟩ c = ⟨S ++ [p], S.length, 0⟩ := by
  unfold tstep
  rw [if_neg (by simp [TS.blk])]
  simp only [Int.toNat_natCast]
  rw [show (S ++ [x]).getD S.length 0 = x by simp [List.getD_eq_getElem?_getD], hn]
  simp
theorem kind_L (c : Int) (h : isSyl c) : kindF (hL c) = 1 := by unfold isSyl at h; unfold kindF hL; rw [if_neg (by omega), if_pos (by omega)]
theorem kind_V (c : Int) (h : isSyl c) : kindF (hV c) = 2 := by unfold isSyl at h; unfold kindF hV; rw [if_neg (by omega), if_neg (by omega), if_pos (by omega)]
theorem kind_T (c : Int) (h : isSyl c) (ht : hT c ≠ 0) : kindF (4520 + hT c - 1) = 3 := by
  unfold isSyl at h
  have : 0 < hT c ∧ hT c < 28 := by unfold hT at *; omega
  unfold kindF; rw [if_neg (by omega), if_neg (by omega), if_neg (by omega), if_pos (by omega)]
theorem comp_LV (c : Int) (h : isSyl c) : hcomp (hL c) (hV c) = some (c - hT c) := by
  rw [hcomp, if_pos ⟨kind_L c h, kind_V c h⟩]
  congr 1
  unfold isSyl at h
  unfold hL hV hT
  omega
theorem comp_LVT (c : Int) (h : isSyl c) (ht : hT c ≠ 0) : hcomp (c - hT c) (4520 + hT c - 1) = some c := by
  have hk : kindF (c - hT c) = 4 := by
    unfold isSyl at h
    unfold kindF hT; rw [if_pos (by omega), if_pos (by omega)]
  rw [hcomp, if_neg (by rw [hk]; omega), if_pos ⟨hk, kind_T c h ht⟩]
  congr 1
  omega
theorem syl_step (S : List Int) (c : Int) (h : isSyl c) : (hdec c).foldl (tstep [] []) ⟨S, (S.length : Int) - 1, 0⟩ = ⟨S ++ [c], ((S ++ [c]).length : Int) - 1, 0⟩ := by
  have e1 : tstep [] [] ⟨S, (S.length : Int) - 1, 0⟩ (hL c) = ⟨S ++ [hL c], S.length, 0⟩ := by
    refine tstep_put0 S _ _ ?_
    cases hS : S.length with
    | zero => exact .inl ⟨List.eq_nil_of_length_eq_zero hS, by simp⟩
    | succ j =>
      refine .inr ⟨j, by simp, rfl, pair_nil ?_⟩
      rw [hcomp, if_neg (fun k => by rw [kind_L c h] at k; omega), if_neg (fun k => by rw [kind_L c h] at k; omega)]
  have e2 : tstep [] [] ⟨S ++ [hL c], S.length, 0⟩ (hV c) = ⟨S ++ [c - hT c], S.length, 0⟩ := tstep_in S _ _ _ (pairI_h (comp_LV c h))
  rw [hdec, if_pos h]
  by_cases ht : hT c = 0
  · rw [if_pos ht]
    simp only [List.foldl_cons, List.foldl_nil, e1, e2]
    rw [ht, Int.sub_zero]
    simp
  · rw [if_neg ht]
    have e3 : tstep [] [] ⟨S ++ [c - hT c], S.length, 0⟩ (4520 + hT c - 1) = ⟨S ++ [c], S.length, 0⟩ := tstep_in S _ _ _ (pairI_h (comp_LVT c h ht))
    simp only [List.foldl_cons, List.foldl_nil, e1, e2, e3]
    simp
theorem syls_fold : ∀ (xs S : List Int), (∀ x ∈ xs, isSyl x) → (xs.flatMap hdec).foldl (tstep [] []) ⟨S, (S.length : Int) - 1, 0⟩ = ⟨S ++ xs, ((S ++ xs).length : Int) - 1, 0⟩
  | [], S, _ => by simp
  | x :: xs, S, h => by
    rw [List.flatMap_cons, List.foldl_append, syl_step S x (h x (by simp)), syls_fold xs (S ++ [x]) (fun y hy => h y (by simp [hy]))]
    simp
theorem text_syls (xs : List Int) (h : ∀ x ∈ xs, isSyl x) : textM [] [] (xs.flatMap hdec) = xs := by
  have := syls_fold xs [] h
  unfold textM textS
  simp only [List.length_nil, Int.ofNat_zero, Int.zero_sub, Int.natCast_zero] at this
  rw [this]; rfl
theorem effS_nil : effS [] [] [] = [] := by unfold effS; split <;> rfl
theorem cmE_nil : cmE [] [] [] = [] := by
  have e : effM [] [] [] = [] := by unfold effM; split <;> rfl
  rw [cmE, e]; rfl
end Go.Proofs.YtfeofhinpgodoaaGreatDoor

namespace Go.Proofs.YtfeofhinpgodoaaGreatDoor
open Go.RowKit Go.Shelf

def encU (x : Nat) : List Value := [.int .u16 (x : Int)]
theorem encU_len (x : Nat) : (encU x).length = 1 := rfl
abbrev RdU := Rd encU 1
theorem RdU.elt {w : World} {b o n i : Nat} {xs : List Nat} (h : RdU w (some ⟨b, o, none⟩) n xs) (hi : i < n) :
    ∃ x, Hid (xs[i]? = some x) ∧ w.cell? ⟨b, o + i, none⟩ = some (.int .u16 (x : Int)) := by
  obtain ⟨b', o', e, hc⟩ := h.cells (by omega)
  cases e
  have hl : i < xs.length := by rw [h.len]; exact hi
  exact ⟨xs[i], List.getElem?_eq_getElem hl, by have := hc i hl 0 _ rfl; simpa using this⟩

theorem wpList_append_ints2 {ops : Array Oper} {rest : List Oper} {o : Oper} {a : Act} {Q : Exit → Act → World → Prop} {w : World} (hgd : o.guard = none) (s x : Operand)
    (ho : o.op = .call { callee := .builtin .append, args := #[s, x], argTypes := #[38, 38] })
    (base : Nat) (v : Value) (n : Nat) (xs : List Int) (hs : a.eval s = v) (hown : w.ownsRow base 3 1 v n (xs.flatMap encI))
    (ad : Addr) (m c : Nat) (news : List Int) (hx : a.eval x = .slice (some ad) m c) (hR : RdI w (some ad) m news) (hn : n + m ≤ 1000000000) (hbase : base ≤ w.heap.size)
    (h : ∀ v' w', w'.ownsRow base 3 1 v' (n + m) ((xs ++ news).flatMap encI) → w.grownBy w' v.ownBlock → (v'.ownBlock = v.ownBlock ∨ v'.ownBlock = some w.heap.size) → wpList Tryz.prog ops Q rest (a.put o.dst v') w') :
    wpList Tryz.prog ops Q (o :: rest) a w := by
  obtain ⟨i0, hi, hz0, hz1, hz2⟩ := info_parts infoI
  have hl : (news.flatMap encI).length = m * 1 := by rw [flat_len encI_len, hR.len]
  refine wpList_append_own_at w hgd s x 38 ho base 3 i0 (.int .i64 0) 1 8 Tryz.underlying38 hi hz0 hz1 hz2 rfl (by decide) v n _ hs hown ad m c (news.flatMap encI) hx hl ?_ (fun u hu => flat_one hu) (by simp only [maxLen]; omega) (by omega) hbase ?_
  · intro j u hu
    have hj : j < news.length := by have := (List.getElem?_eq_some_iff.1 hu).1; rw [flat_len encI_len] at this; omega
    obtain ⟨b, off, e, hc⟩ := hR.cells (by have := hR.len; omega)
    cases e
    have e2 := flat_at encI_len news j 0 hj (by omega)
    rw [Nat.mul_one, Nat.add_zero] at e2
    rw [e2] at hu
    have := hc j hj 0 u hu
    rw [Addr.add_lit]
    rwa [Nat.mul_one, Nat.add_zero] at this
  · intro v' w' h1 h2 _ h4
    exact h v' w' (by rw [List.flatMap_append]; exact h1) h2 h4

theorem hdec_len3 (c : Int) : (hdec c).length ≤ 3 := by
  unfold hdec
  split
  · split <;> simp
  · simp
def sylOf (x : Nat) : Int := 44032 + (x : Int) % 11172
theorem sylOf_syl (x : Nat) : isSyl (sylOf x) := by unfold isSyl sylOf; omega
/-- Two rows of one's own that do not touch. -/
structure Two (B : Nat) (wr : World) (s p : Value) (m q : Nat) (xs ys : List Int) : Prop where
  one : wr.ownsRow B 3 1 s m (xs.flatMap encI)
  two : wr.ownsRow B 3 1 p q (ys.flatMap encI)
  ne : ∀ g, s.ownBlock = some g → p.ownBlock ≠ some g
theorem Two.below {B : Nat} {wr w1 : World} {s p : Value} {m q : Nat} {xs ys : List Int} (h : Two B wr s p m q xs ys) (hb : Below wr.heap.size wr w1) : Two B w1 s p m q xs ys := ⟨own_below h.one hb, own_below h.two hb, h.ne⟩
theorem Two.put1 {B : Nat} {wr w1 w2 : World} {s s' p : Value} {m m' q : Nat} {xs xs' ys : List Int} (h : Two B wr s p m q xs ys) (hb : Below wr.heap.size wr w1) (ho : w2.ownsRow B 3 1 s' m' (xs'.flatMap encI)) (hg : w1.grownBy w2 s.ownBlock)
    (hs : s'.ownBlock = s.ownBlock ∨ s'.ownBlock = some w1.heap.size) : Two B w2 s' p m' q xs' ys where
  one := ho
  two := (own_below h.two hb).kept hg (by
    cases e : p.ownBlock with
    | none => exact .inl rfl
    | some g => exact .inr (fun e2 => h.ne g e2.symm e))
  ne := fun g hgs hp => by
    rcases hs with e | e
    · exact h.ne g (by rw [← e]; exact hgs) hp
    · rw [e] at hgs; cases hgs
      have := (h.two.lt _ hp).2
      have := hb.size
      omega
theorem Two.symm {B : Nat} {wr : World} {s p : Value} {m q : Nat} {xs ys : List Int} (h : Two B wr s p m q xs ys) : Two B wr p s q m ys xs := ⟨h.two, h.one, fun g h1 h2 => h.ne g h2 h1⟩

set_option maxRecDepth 100000 in
set_option maxHeartbeats 8000000 in
theorem hgl_any (A : Option Addr) (n c : Nat) (us : List Nat) (w : World) (hn : n ≤ 140737488351232) (hR : n ≤ 60 → RdU w A n us) (hu : ∀ x ∈ us, x < 65536) (hG : Glob w) :
    Calls Tryz.prog 8 #[.slice A n c] w fun e w' => e = .returned (.bool true) ∧ Below w.heap.size w w' := by
  have HR0 := Lib.hid hR; have HU := Lib.hid hu; have HG := Lib.hid hG
  clear hR hu hG
  go_enter Tryz.func8, Tryz.ntmps8
  by_cases hbig : 60 < n
  · have hb' : decide ((60 : Int) < (n : Int)) = true := decide_eq_true (by omega)
    go_wp2_with fail
    refine (awake_any w HG.out).mono ?_
    rintro e w1 ⟨rfl, hb⟩
    go_wp2_with fail
    go_ret
    exact ⟨rfl, hb⟩
  · have hb' : decide ((60 : Int) < (n : Int)) = false := decide_eq_false (by omega)
    have HR := Lib.hid (HR0.out (by omega)); have HL := Lib.hid HR.out.len
    go_wp2_with fail
    go_loopw [3, 4, 5] (fun s p r wr => ∃ (k q : Nat), k ≤ n ∧ q ≤ 3 * k ∧ r = .int .i64 (k : Int) ∧ Hid (Two w.heap.size wr s p k q ((us.take k).map sylOf) (((us.take k).map sylOf).flatMap hdec)) ∧ Hid (Below w.heap.size w wr)) (fun _ _ r _ => n - (intOf r).toNat)
    case atStart => exact ⟨0, 0, by omega, by omega, by go_num, ⟨World.ownsRow_nil _ _ _ _, World.ownsRow_nil _ _ _ _, fun g h => by cases h⟩, Below.refl _ _⟩
    case round =>
      obtain ⟨k, q, hk, hq, rfl, HTw, HB⟩ := hrel
      obtain ⟨wo, rfl⟩ : ∃ wo : World, wo = wr := ⟨_, rfl⟩
      by_cases hlt : k < n
      · obtain ⟨b, o, rfl⟩ := HR.out.addr (by omega)
        obtain ⟨x, hx, cx⟩ := RdU.elt (HR.out.below HB.out) hlt
        have hx6 : x < 65536 := HU.out x (List.mem_of_getElem? hx.out)
        have HT : Hid (((us.take (k + 1)).map sylOf) = ((us.take k).map sylOf) ++ [(44032 + (x : Int) % 11172)]) := by
          show _ = _
          rw [List.take_add_one, hx.out]; simp [sylOf]
        have hlt' : (k : Int) < (n : Int) := by omega
        have hsb := HB.out.size
        clear hx
        have hdl := hdec_len3 (44032 + (x : Int) % 11172)
        have flagA := trivial
        go_wp2_with (first
          | (at_builtin; clear flagA; refine wpList_append_ints2 rfl _ _ rfl w.heap.size _ k _ rfl (HTw.out.one.alloc _) ⟨wo.heap.size, 0, none⟩ 1 1 [(44032 + (x : Int) % 11172)] rfl (by exact litIb _ _ _ _ _ _ (by simp) rfl (by omega) rfl) (by omega) (by simp; omega) ?_; intro v2 w3 hown hgr hob; have HT3 := Lib.hid (HTw.out.put1 (ba _ _) hown hgr hob); have HB3 := Lib.hid (HB.out.trans ((Below.alloc (Below.refl _ _) (by omega) _).trans (below_of_grown (S0 := w.heap.size) (by simp; omega) hgr (fun r e => (HTw.out.one.lt r e).1)))); clear hown hgr hob)
          | (go_at_call 28; refine (refDec_any _ _).mono ?_; rintro e w4 ⟨b4, c4, rfl, hr4, hf4, hb4⟩; have HT4 := Lib.hid (HT3.out.below hb4); have HB4 := Lib.hid (HB3.out.trans (hb4.mono HB3.out.size)); have HR4 := Lib.hid hr4; have hs4 := HB4.out.size; clear hr4 hb4)
          | (at_builtin; refine wpList_append_ints2 rfl _ _ rfl w.heap.size _ q _ rfl HT4.out.two ⟨b4, 0, none⟩ (hdec (44032 + (x : Int) % 11172)).length c4 (hdec (44032 + (x : Int) % 11172)) rfl HR4.out (by omega) hs4 ?_; intro v5 w5 hown hgr hob; have HT5 := Lib.hid (HT4.out.symm.put1 (Below.refl _ _) hown hgr hob).symm; have HB5 := Lib.hid (HB4.out.trans (below_of_grown (S0 := w.heap.size) hs4 hgr (fun r e => (HT4.out.two.lt r e).1))); clear hown hgr hob))
        go_roundw
        case rel => exact ⟨k + 1, q + (hdec (44032 + (x : Int) % 11172)).length, by omega, by omega, by go_num, Lib.hid (by rw [HT.out, List.flatMap_append]; simpa using HT5.out), HB5⟩
        case measure => simp [intOf]; omega
      · have e : k = n := by omega
        subst e
        have hlt' : ¬ (k : Int) < (k : Int) := by omega
        have HTk := Lib.hid (show us.take k = us from List.take_of_length_le (by rw [HL.out]; exact Nat.le_refl _))
        obtain ⟨A3, c3, e3, hr3⟩ := own_rd encI_len (by omega) HTw.out.one (by omega)
        obtain ⟨A4, c4, e4, hr4⟩ := own_rd encI_len (by omega) HTw.out.two (by omega)
        subst e3
        subst e4
        rw [HTk.out] at hr3 hr4
        have HR3 := Lib.hid hr3; have HR4 := Lib.hid hr4
        clear hr3 hr4 HTw
        go_wp2_with fail
        refine (text_any _ [] [] [] A4 q c4 _ wo (rdN_nil wo) HR4.out (by omega) (HG.out.below HB.out)).mono ?_
        rintro e w3 ⟨A5, n5, c5, rfl, hr5, hb5⟩
        rw [effS_nil, cmE_nil, text_syls _ (fun x hx => by obtain ⟨u, _, rfl⟩ := List.mem_map.1 hx; exact sylOf_syl u)] at hr5
        have HR5 := Lib.hid hr5
        have HB3 := Lib.hid (bthen HB.out hb5)
        have HR6 := Lib.hid (HR3.out.below hb5)
        clear hr5 hb5
        go_wp2_with fail
        refine (refEqual_any A5 n5 c5 _ A3 k c3 _ w3 HR5.out HR6.out).mono ?_
        rintro e w6 ⟨rfl, hb6⟩
        rw [decide_eq_true rfl]
        have HB6 := Lib.hid (bthen HB3.out hb6)
        clear hb6
        go_wp2_with fail
        refine (awake_any w6 (HG.out.below HB6.out)).mono ?_
        rintro e w7 ⟨rfl, hb7⟩
        have HB7 := Lib.hid (bthen HB6.out hb7)
        clear hb7
        go_wp2_with fail
        go_ret
        exact ⟨rfl, HB7.out⟩
end Go.Proofs.YtfeofhinpgodoaaGreatDoor

