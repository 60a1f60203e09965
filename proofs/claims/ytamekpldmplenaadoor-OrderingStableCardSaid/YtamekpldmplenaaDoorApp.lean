import Derived.Test.YtamekpldmplenaaDoorBase
import Derived.Maps.AppendAt
import Derived.Deep.AppendLies
namespace Go.Proofs.YtamekpldmplenaaDoor
open Go.RowKit Go.Shelf

theorem flat_at {α : Type} {enc : α → List Value} {k : Nat} (hk : ∀ x, (enc x).length = k) : ∀ (xs : List α) (i j : Nat) (hi : i < xs.length), j < k → (xs.flatMap enc)[i * k + j]? = (enc xs[i])[j]?
  | [], i, j, hi, _ => absurd hi (by simp)
  | x :: xs, 0, j, _, hj => by
    rw [List.flatMap_cons, List.getElem?_append_left (by rw [hk]; omega)]
    simp
  | x :: xs, i + 1, j, hi, hj => by
    rw [List.flatMap_cons, List.getElem?_append_right (by rw [hk, Nat.succ_mul]; omega), hk, show (i + 1) * k + j - k = i * k + j by rw [Nat.succ_mul]; omega, flat_at hk xs i j (by simpa using hi) hj]
    simp
theorem flat_len {α : Type} {enc : α → List Value} {k : Nat} (hk : ∀ x, (enc x).length = k) : ∀ xs : List α, (xs.flatMap enc).length = xs.length * k
  | [] => by simp
  | x :: xs => by rw [List.flatMap_cons, List.length_append, hk, flat_len hk xs, List.length_cons, Nat.succ_mul]; omega
/-- What is owned may be read. -/
theorem own_rd {α : Type} {enc : α → List Value} {k : Nat} (hk : ∀ x, (enc x).length = k) (hk0 : 0 < k) {w : World} {base : Nat} {e : TypeId} {v : Value} {n : Nat} {xs : List α} (h : w.ownsRow base e k v n (xs.flatMap enc)) (hn : n ≤ 17592186044416) :
    ∃ A c, v = .slice A n c ∧ Rd enc k w A n xs := by
  have hl : xs.length = n := by
    have := h.1
    rw [flat_len hk] at this
    exact Nat.eq_of_mul_eq_mul_right hk0 this
  rcases h.2 with ⟨rfl, rfl⟩ | ⟨g, cap, cur, rfl, _⟩
  · exact ⟨none, 0, rfl, hl, hn, fun h => absurd h (by omega)⟩
  · refine ⟨_, cap, rfl, hl, hn, fun hp => ⟨g, 0, rfl, fun i hi j u hu => ?_⟩⟩
    have hj : j < k := by have := (List.getElem?_eq_some_iff.1 hu).1; rwa [hk] at this
    have := h.cells (g := g) rfl (i * k + j) u (by rw [flat_at hk xs i j hi hj]; exact hu)
    rw [Addr.add_lit] at this
    simpa using this
theorem encI_len (x : Int) : (encI x).length = 1 := rfl
theorem encSp_len (x : Sp) : (encSp x).length = 3 := rfl
theorem encRg_len (x : Rg) : (encRg x).length = 2 := rfl
theorem flat_one {xs : List Int} {u : Value} (h : u ∈ xs.flatMap encI) : u.oneCell' = true := by
  obtain ⟨x, _, hx⟩ := List.mem_flatMap.1 h
  simp [encI] at hx
  subst hx; rfl

theorem infoI : (Tryd.prog.info? 3).map (fun i => (i.zero, i.size, i.bytes)) = some (some (.int .i64 0), 1, 8) := by kernel_rfl

set_option maxHeartbeats 1000000 in
theorem clone_any (A : Option Addr) (n c : Nat) (xs : List Int) (w : World) (hR : RdI w A n xs) :
    Calls Tryd.prog 39 #[.slice A n c] w fun e w' => ∃ v, w'.ownsRow w.heap.size 3 1 v n (xs.flatMap encI) ∧ e = .returned v ∧ Below w.heap.size w w' := by
  have hn := hR.bd
  have HR := Lib.hid hR
  clear hR
  obtain ⟨i0, hi, hz0, hz1, hz2⟩ := info_parts infoI
  have hs0 := fun (w : World) => Lib.run_eql_slice_nil (P := Tryd.prog) w 27 3
  cases A with
  | none =>
    have h0 : n = 0 := by
      rcases Nat.eq_zero_or_pos n with h | h
      · exact h
      · obtain ⟨b, o, e⟩ := HR.out.addr h; cases e
    subst h0
    have hx : xs = [] := List.eq_nil_of_length_eq_zero HR.out.len
    have HX := Lib.hid hx; clear hx
    go_enter Tryd.func39, Tryd.ntmps39
    go_wp2_with fail
    go_ret
    refine ⟨_, ?_, rfl, Below.refl _ _⟩
    rw [HX.out]; exact World.ownsRow_nil _ _ _ _
  | some ad =>
    go_enter Tryd.func39, Tryd.ntmps39
    have hown := Lib.hid (World.ownsRow_lit (base := w.heap.size) (e := 3) (size := 1) w #[] 0 (Nat.le_refl _) (by simp [maxLen]) rfl)
    have hnews : Hid (∀ j u, (xs.flatMap encI)[j]? = some u → (w.alloc (.cells #[] 3)).cell? (ad.add j) = some u) := by
      intro j u hu
      have hj : j < xs.length := by have := (List.getElem?_eq_some_iff.1 hu).1; rw [flat_len encI_len] at this; omega
      obtain ⟨b, o, e, hc⟩ := HR.out.cells (by have := HR.out.len; omega)
      cases e
      have e2 := flat_at encI_len xs j 0 hj (by omega)
      rw [Nat.mul_one, Nat.add_zero] at e2
      rw [e2] at hu
      have := hc j hj 0 u hu
      rw [Addr.add_lit]
      exact bcel ((Below.refl _ _).alloc (Nat.le_refl _) _) (by simpa using this)
    go_wp2_with (at_builtin; refine wpList_append_own_at (w := w.alloc (.cells #[] 3)) rfl _ _ 27 rfl w.heap.size 3 i0 (.int .i64 0) 1 8 Tryd.underlying27 hi hz0 hz1 hz2 rfl (by decide) _ 0 _ rfl hown.out ad n c (xs.flatMap encI) rfl (by rw [flat_len encI_len, HR.out.len]) hnews.out (fun u hu => flat_one hu) (by simp only [maxLen]; omega) (by omega) (by simp) ?_; intro v' w1 hown' hg hnil hat; have HO := Lib.hid hown'; have HG := Lib.hid hg; clear hown' hg hnil hat)
    go_ret
    refine ⟨v', ?_, rfl, ?_⟩
    · have := HO.out
      simpa using this
    · exact ((Below.refl w.heap.size w).alloc (Nat.le_refl _) _).grown HG.out (by simp) (fun k e => by cases e; exact Nat.le_refl _)
end Go.Proofs.YtamekpldmplenaaDoor
