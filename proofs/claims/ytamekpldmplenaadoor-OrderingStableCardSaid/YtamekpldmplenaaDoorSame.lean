/- The comparison of two lists of ranges. -/
import Derived.Test.YtamekpldmplenaaDoorRefF
import Derived.Laws.StructEq
namespace Go.Proofs.YtamekpldmplenaaDoor
open Go.RowKit Go.Shelf

section
variable {P : Program} {d : Nat} {xs ys : Array Value} {f : Field} {fs : List Field} {a b : Value} {r s : Bool} {w : World}
theorem fld_last (hn : (f.name == "_") = false) (ha : (part f.type xs f.offset).run P w = .ok a w) (hb : (part f.type ys f.offset).run P w = .ok b w) (he : (Op.equalIn d f.type a b).run P w = .ok r w) : (Op.eqFields d xs ys [f]).run P w = .ok r w := by
  have hn' : f.name ≠ "_" := by simpa using hn
  simp only [Op.eqFields, if_pos hn', Sem.run_bind, ha, hb, he, Result.andThen_ok]
  cases r <;> simp
theorem fld_cons (hn : (f.name == "_") = false) (ha : (part f.type xs f.offset).run P w = .ok a w) (hb : (part f.type ys f.offset).run P w = .ok b w) (he : (Op.equalIn d f.type a b).run P w = .ok r w) (hr : (Op.eqFields d xs ys fs).run P w = .ok s w) : (Op.eqFields d xs ys (f :: fs)).run P w = .ok (r && s) w := by
  have hn' : f.name ≠ "_" := by simpa using hn
  rw [Op.eqFields]
  simp only [if_pos hn', Sem.run_bind, ha, hb, he, Result.andThen_ok]
  cases r
  · simp
  · simpa using hr
theorem fld_of {t : TypeId} {gs : Array Field} (hu : P.underlying t = some (.struct gs)) (hp : P.stoodInHeld t = false) (h : (Op.eqFields d xs ys gs.toList).run P w = .ok r w) : (Op.equalIn (d + 1) t (.agg xs) (.agg ys)).run P w = .ok r w := by
  have hf : P.fieldsOf t = gs := by simp [Program.fieldsOf, hu]
  rw [run_equalIn_struct (P := P) w d t xs ys (by rw [hf]; exact hu) hp, hf]
  exact h
end
theorem eqRg (d : Nat) (w : World) (x0 y0 : Int) (x1 y1 : Int) :
    (Op.equalIn (d + 2) 38 (.agg #[.int .i64 x0, .int .i64 x1]) (.agg #[.int .i64 y0, .int .i64 y1])).run Tryd.prog w = .ok (x0 == y0 && (x1 == y1)) w := by
  refine fld_of Tryd.underlying38 (by kernel_rfl) ?_
  refine fld_cons (by rfl) (by go_simp; rfl) (by go_simp; rfl) (by go_simp) ?_
  exact fld_last (by rfl) (by go_simp; rfl) (by go_simp; rfl) (by go_simp)

attribute [local go_sem high] eqRg

theorem same_step {α : Type} {xs ys : List α} {k : Nat} {x y : α} (h : xs.take k = ys.take k) (hx : xs[k]? = some x) (hy : ys[k]? = some y) (e : x = y) : xs.take (k + 1) = ys.take (k + 1) := by
  rw [List.take_add_one, List.take_add_one, h, hx, hy, e]
theorem same_not {α : Type} {xs ys : List α} {k : Nat} {x y : α} (hx : xs[k]? = some x) (hy : ys[k]? = some y) (e : x ≠ y) : xs ≠ ys := by
  rintro rfl
  rw [hx] at hy
  exact e (Option.some.inj hy)

set_option maxHeartbeats 1000000 in
theorem same_any (A : Option Addr) (n c : Nat) (xs : List Rg) (A' : Option Addr) (n' c' : Nat) (ys : List Rg) (w : World) (hR : RdRg w A n xs) (hR' : RdRg w A' n' ys) :
    Calls Tryd.prog 17 #[.slice A n c, .slice A' n' c'] w fun e w' => e = .returned (.bool (decide (xs = ys))) ∧ Below w.heap.size w w' := by
  have hn := hR.bd
  have hn' := hR'.bd
  have hl := Lib.hid hR.len
  have hl' := Lib.hid hR'.len
  have HR := Lib.hid hR; have HR' := Lib.hid hR'
  clear hR hR'
  by_cases e : n = n'
  · subst e
    have dn : ((n : Int) != (n : Int)) = false := by simp
    go_enter Tryd.func17, Tryd.ntmps17
    go_wp2_with fail
    go_loopw [5] (fun s1 wr => ∃ k : Nat, s1 = .int .i64 (k : Int) ∧ k ≤ n ∧ Hid (xs.take k = ys.take k) ∧ Below w.heap.size w wr)
      (fun s _ => n - (intOf s).toNat)
    case atStart => exact ⟨0, by go_num, by omega, rfl, Below.refl _ _⟩
    case round =>
      obtain ⟨k, rfl, hk, HK, hB⟩ := hrel
      have HB := Lib.hid hB
      by_cases hlt : k < n
      · obtain ⟨b, o, rfl⟩ := HR.out.addr (by omega)
        obtain ⟨b2, o2, rfl⟩ := HR'.out.addr (by omega)
        obtain ⟨lo, hi, hx, c0, c1⟩ := RdRg.elt (HR.out.below hB) hlt
        obtain ⟨lo', hi', hy, d0, d1⟩ := RdRg.elt (HR'.out.below hB) hlt
        have hlt' : (k : Int) < (n : Int) := by omega
        clear hB
        by_cases h1 : lo = lo'
        · by_cases h2 : hi = hi'
          · have hs := Lib.hid (same_step HK.out hx.out hy.out (by rw [h1, h2]))
            have e1 := beq_iff_eq.2 h1
            have e2 := beq_iff_eq.2 h2
            clear h1 h2
            go_wp2_with fail
            go_quiet (fail)
            go_wp2_with fail
            go_roundw
            case rel => exact ⟨k + 1, by go_num, by omega, hs.out, bdrewN HB.out _⟩
            case measure => simp [intOf] <;> omega
          · have hs := Lib.hid (same_not hx.out hy.out (by intro e; injection e; exact h2 ‹_›))
            have e2 := beq_eq_false_iff_ne.2 h2
            clear h1 h2
            go_wp2_with fail
            go_quiet (fail)
            go_wp2_with fail
            go_ret
            exact ⟨ret_bool (decide_eq_false hs.out).symm, bdrewN HB.out _⟩
        · have hs := Lib.hid (same_not hx.out hy.out (by intro e; injection e; exact h1 ‹_›))
          have e1 := beq_eq_false_iff_ne.2 h1
          clear h1
          go_wp2_with fail
          go_quiet (fail)
          go_wp2_with fail
          go_ret
          exact ⟨ret_bool (decide_eq_false hs.out).symm, bdrewN HB.out _⟩
      · have e : k = n := by omega
        subst e
        have hlt' : ¬ (k : Int) < (k : Int) := by omega
        have hf : xs = ys := by
          have := HK.out
          rwa [List.take_of_length_le (by rw [hl.out]; exact Nat.le_refl _), List.take_of_length_le (by rw [hl'.out]; exact Nat.le_refl _)] at this
        have HF := Lib.hid hf
        clear hf hB
        go_wp2_with fail
        go_ret
        exact ⟨ret_bool (decide_eq_true HF.out).symm, HB.out⟩
  · have hs : Hid (xs ≠ ys) := fun h => e (by rw [← hl.out, ← hl'.out, h])
    have dn : ((n : Int) != (n' : Int)) = true := bne_iff_ne.2 (by omega)
    go_enter Tryd.func17, Tryd.ntmps17
    go_wp2_with fail
    go_ret
    exact ⟨ret_bool (decide_eq_false hs.out).symm, Below.refl _ _⟩
end Go.Proofs.YtamekpldmplenaaDoor
