/- The listed variable's cells, out of what the row lays. -/
import Derived.Test.YtamekpldmplenaaDoorOpen
namespace Go.Proofs.YtamekpldmplenaaDoor
open Go.ChangeShapes Go.WideShapes Go.ChangeAt Go.RowKit

theorem ownKnobNone : ownKnob Tryd.prog.godebug = none := by kernel_rfl
theorem laidOutYes : laidOutB Tryd.prog = true := by kernel_rfl
abbrev laidHere {H : Type} : List (String × DataW H) := [("unicodetext/ordering.ranges", Rows.laid_unicodetext_ordering_ranges)]

theorem agg_at {xs ys : List (DataW Unit)} (h : DataW.agg xs = .agg ys) (i : Nat) : xs[i]? = ys[i]? := by
  injection h with h; rw [h]

theorem glob_of_laid {W : World} (h : laidMetH Tryd.prog laidHere W) : Glob W := by
  rw [MakeChecks.laidMetH_plain _ _ _ (by kernel_rfl)] at h
  obtain ⟨ps, ⟨g, t, cs, fuel, p, q, hg, ht, hv, hd, _, _⟩, _, _⟩ := h
  obtain rfl := Option.some.inj ((show Tryd.prog.globalNamed "unicodetext/ordering.ranges" = some 0 by kernel_rfl).symm.trans hg)
  obtain rfl := Option.some.inj ((show (Tryd.prog.globals[0]?).map (·.type) = some 60 by kernel_rfl).symm.trans ht)
  obtain ⟨xs, m, _, ex, _, hl, hel⟩ := DataW.trod_array Tryd.underlying60 hd
  have c38 : Tryd.prog.cellsOf 38 = 2 := by kernel_rfl
  have c3 : Tryd.prog.cellsOf 3 = 1 := by kernel_rfl
  have F : (Tryd.prog.fieldsOf 38).map (fun f => (f.type, f.offset)) = #[(3, 0), (3, 1)] := by kernel_rfl
  have G : ∀ j, j < 2 → ∃ f, (Tryd.prog.fieldsOf 38)[j]? = some f ∧ f.type = 3 ∧ f.offset = j := by
    intro j hj
    have h2 := congrArg (fun x => x[j]?) F
    simp only [Array.getElem?_map] at h2
    cases hq : (Tryd.prog.fieldsOf 38)[j]? with
    | none => rw [hq] at h2; rcases j with _ | _ | j <;> simp at h2; omega
    | some f =>
      rw [hq] at h2
      refine ⟨f, rfl, ?_⟩
      rcases j with _ | _ | j
      · simp at h2; exact h2
      · simp at h2; exact h2
      · omega
  have key : ∀ i j : Nat, i < 4 → j < 2 → ∀ z : Int, (Rows.laid_unicodetext_ordering_ranges : DataW Unit) = Rows.laid_unicodetext_ordering_ranges →
      (match (Rows.laid_unicodetext_ordering_ranges : DataW Unit) with | .agg rs => (match rs[i]? with | some (.agg fs) => fs[j]? | _ => none) | _ => none) = some (.lit (.int .i64 z)) → W.cell? ⟨0, i * 2 + j, none⟩ = some (.int .i64 z) := by
    intro i j hi hj z _ hz
    have hE := hel i hi
    rw [c38, List.getElem?_eq_getElem (by omega)] at hE
    obtain ⟨ys, n', _, ey, _, hyl, hfld⟩ := DataW.trod_struct Tryd.underlying38 hE
    obtain ⟨f, q0, t0, o0⟩ := G j hj
    have h1 := hfld j f (by simpa [Program.fieldsOf, Tryd.underlying38] using q0)
    rw [t0, o0, c3] at h1
    have hyj : j < ys.length := by rw [hyl]; exact (Array.getElem?_eq_some_iff.1 (by simpa [Program.fieldsOf, Tryd.underlying38] using q0)).1
    rw [List.getElem?_eq_getElem hyj] at h1
    obtain ⟨z', e1, e2, _⟩ := DataW.trod_int Tryd.underlying3 h1
    have hx := (Prod.mk.inj ex).1
    rw [hx] at hz
    simp only [List.getElem?_map] at hz
    rw [List.getElem?_eq_getElem (by omega), Option.map_some, show (xs[i]).1 = _ from congrArg Prod.fst ey] at hz
    simp only [List.getElem?_map] at hz
    rw [List.getElem?_eq_getElem hyj, Option.map_some, e2] at hz
    have hzz : z' = z := by
      simp only [Option.some.injEq, DataW.lit.injEq, Lit.int.injEq, true_and] at hz
      exact hz
    subst hzz
    have h0 : ((((cs.toList.drop (i * 2)).take 2).drop j).take 1)[0]? = some (.int .i64 z') := by rw [e1]; rfl
    rw [World.var?_cell hg hv (i * 2 + j)]
    rw [← Array.getElem?_toList]
    rw [List.getElem?_take, if_pos (by omega), List.getElem?_drop, List.getElem?_take, if_pos (by omega), List.getElem?_drop] at h0
    simpa using h0
  exact ⟨key 0 0 (by omega) (by omega) _ rfl rfl, key 0 1 (by omega) (by omega) _ rfl rfl, key 1 0 (by omega) (by omega) _ rfl rfl, key 1 1 (by omega) (by omega) _ rfl rfl, key 2 0 (by omega) (by omega) _ rfl rfl, key 2 1 (by omega) (by omega) _ rfl rfl, key 3 0 (by omega) (by omega) _ rfl rfl, key 3 1 (by omega) (by omega) _ rfl rfl⟩
end Go.Proofs.YtamekpldmplenaaDoor
