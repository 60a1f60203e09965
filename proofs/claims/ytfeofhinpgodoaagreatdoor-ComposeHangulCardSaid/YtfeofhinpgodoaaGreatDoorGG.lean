/- the arguments and the listed variable, read as data. -/
import Derived.Test.YtfeofhinpgodoaaGreatDoorGF
import Derived.Test.YtfeofhinpgodoaaGreatDoorRows
import Derived.ProofKit
import Derived.OpenShut
import Derived.Deep.Slices
import Derived.LaidMore
import Derived.Lib.LaidU8
import Derived.Lay
import Derived.SizedLaws
import Derived.Stop.Joined
namespace Go.Proofs.YtfeofhinpgodoaaGreatDoor
open Go.ChangeShapes Go.WideShapes Go.ChangeAt Go.RowKit Go.Deep

section
variable {H : Type} {enc : TypeId × Value → H} {W : World} {base : Nat} {spare : Nat → Bool} {held : Bool} {a0 : Option Addr} {len cap : Nat} {d : DataW H} {p : List MemPlace}

theorem add_cell {a : Addr} {k : Nat} {v : Value} (h : W.cell? (a.add k) = some v) (hs : a.spot = none) : W.cell? ⟨a.block, a.off + k, none⟩ = some v := by
  obtain ⟨b, o, s⟩ := a
  subst hs
  rw [← Addr.add_lit]; exact h
theorem add_spot {a : Addr} {v : Value} (h : W.cell? (a.add 0) = some v) : a.spot = none := by
  obtain ⟨b, o, s⟩ := a
  exact cell_spot (w := W) (b := b) (o := o) (v := v) (by simpa [Addr.add] using h)

theorem open_i (h : DataW.Trod enc Tryz.prog W base spare held 38 (.slice a0 len cap) d p)
    (hr : ∀ e s, d = .slice e s → (e.length + s.length) * 8 ≤ 140737488351232) : ∃ xs, RdI W a0 len xs := by
  obtain ⟨fuel, hf⟩ := h
  rcases open_ints Tryz.underlying38 Tryz.underlying3 (by kernel_rfl) hf with ⟨hcs, hx⟩ | ⟨a, len', cap', zs, hcs, _, hl, hm, hz, hx, hcell, _⟩
  · simp [Value.cells] at hcs
    obtain ⟨rfl, rfl, rfl⟩ := hcs
    exact ⟨[], Rd.nil⟩
  · simp [Value.cells] at hcs
    obtain ⟨rfl, rfl, rfl⟩ := hcs
    have hle := hr _ _ (Prod.mk.inj hx).1
    have hzl : len ≤ zs.length := by rw [hz]; split <;> omega
    have ht : (zs.take len).length = len := by simp; omega
    simp only [lits, List.length_map, ht] at hle
    refine ⟨zs.take len, ht, by omega, fun hp => ⟨a.block, a.off, ?_, fun i hi j u hu => ?_⟩⟩
    · have := add_spot (hcell 0 (by omega))
      obtain ⟨b, o, s⟩ := a
      simp at this; subst this; rfl
    · have hs := add_spot (hcell 0 (by omega))
      have hj : j = 0 := by have := (List.getElem?_eq_some_iff.1 hu).1; simp [encI] at this; exact this
      subst hj
      have e : u = .int .i64 (zs.take len)[i] := by have := hu; simp [encI] at this ⊢; exact this.symm
      subst e
      have h1 := add_cell (hcell i (by omega)) hs
      rw [Nat.mul_one, Nat.add_zero, h1]
      simp [List.getD, List.getElem?_eq_getElem (show i < zs.length by omega)]

theorem open_sp (h : DataW.Trod enc Tryz.prog W base spare held 22 (.slice a0 len cap) d p)
    (hr : ∀ e s, d = .slice e s → (e.length + s.length) * 24 ≤ 140737488351232) : ∃ xs, RdSp W a0 len xs := by
  obtain ⟨fuel, hf⟩ := h
  have c44 : Tryz.prog.cellsOf 58 = 3 := by kernel_rfl
  have c3 : Tryz.prog.cellsOf 3 = 1 := by kernel_rfl
  rcases open_slice Tryz.underlying22 hf with ⟨hcs, hx⟩ | ⟨a, len', cap', m, n, D, Pl, hcs, _, hl, hm, hmm, hx, hi⟩
  · simp [Value.cells] at hcs
    obtain ⟨rfl, rfl, rfl⟩ := hcs
    exact ⟨[], Rd.nil⟩
  · simp [Value.cells] at hcs
    obtain ⟨rfl, rfl, rfl⟩ := hcs
    have hle := hr _ _ (Prod.mk.inj hx).1
    have hml : len ≤ m := by rw [hmm]; split <;> omega
    simp only [List.length_map, List.length_range] at hle
    have hall : ∀ i : Fin len, ∃ s : Sp, W.cell? ((a.add (i.1 * 3)).add 0) = some (.int .i64 s.lo) ∧ W.cell? ((a.add (i.1 * 3)).add 1) = some (.int .i64 s.hi) ∧ W.cell? ((a.add (i.1 * 3)).add 2) = some (.int .i64 s.val) := by
      intro i
      obtain ⟨cs', hc, ht⟩ := hi i.1 (by have := i.2; omega)
      rw [c44] at hc
      obtain ⟨_, hcl, hat⟩ := World.cells?_some hc
      obtain ⟨ys, n', _, _, _, hyl0, hfld⟩ := DataW.trod_struct Tryz.underlying58 ht
      have k : ∀ (j : Nat) (f : Field), (Tryz.prog.fieldsOf 58)[j]? = some f → f.type = 3 → f.offset = j → j < 3 → ∃ z : Int, cs'[j]? = some (.int .i64 z) := by
        intro j f hf0 ht0 ho hj3
        have h1 := hfld j f (by simpa [Program.fieldsOf, Tryz.underlying58] using hf0)
        rw [ht0, ho, c3] at h1
        have hyl : j < ys.length := by rw [hyl0]; exact (Array.getElem?_eq_some_iff.1 (by simpa [Program.fieldsOf, Tryz.underlying58] using hf0)).1
        rw [List.getElem?_eq_getElem hyl] at h1
        obtain ⟨z, e1, _⟩ := DataW.trod_int Tryz.underlying3 h1
        refine ⟨z, ?_⟩
        have h0 : ((cs'.drop j).take 1)[0]? = some (.int .i64 z) := by rw [e1]; rfl
        simpa using h0
      have F : (Tryz.prog.fieldsOf 58).map (fun f => (f.type, f.offset)) = #[(3, 0), (3, 1), (3, 2)] := by kernel_rfl
      have G : ∀ j, j < 3 → ∃ f, (Tryz.prog.fieldsOf 58)[j]? = some f ∧ f.type = 3 ∧ f.offset = j := by
        intro j hj
        have h2 := congrArg (fun x => x[j]?) F
        simp only [Array.getElem?_map] at h2
        cases hq : (Tryz.prog.fieldsOf 58)[j]? with
        | none => rw [hq] at h2; rcases j with _ | _ | _ | j <;> simp at h2; omega
        | some f =>
          rw [hq] at h2
          refine ⟨f, rfl, ?_⟩
          rcases j with _ | _ | _ | j
          · simp at h2; exact h2
          · simp at h2; exact h2
          · simp at h2; exact h2
          · omega
      obtain ⟨f0, q0, t0, o0⟩ := G 0 (by omega)
      obtain ⟨f1, q1, t1, o1⟩ := G 1 (by omega)
      obtain ⟨f2, q2, t2, o2⟩ := G 2 (by omega)
      obtain ⟨z0, e0⟩ := k 0 f0 q0 t0 o0 (by omega)
      obtain ⟨z1, e1⟩ := k 1 f1 q1 t1 o1 (by omega)
      obtain ⟨z2, e2⟩ := k 2 f2 q2 t2 o2 (by omega)
      exact ⟨⟨z0, z1, z2⟩, by rw [hat 0 (by omega), e0], by rw [hat 1 (by omega), e1], by rw [hat 2 (by omega), e2]⟩
    have hex : ∃ f : Fin len → Sp, ∀ i, W.cell? ((a.add (i.1 * 3)).add 0) = some (.int .i64 (f i).lo) ∧ W.cell? ((a.add (i.1 * 3)).add 1) = some (.int .i64 (f i).hi) ∧ W.cell? ((a.add (i.1 * 3)).add 2) = some (.int .i64 (f i).val) :=
      ⟨fun i => Classical.choose (hall i), fun i => Classical.choose_spec (hall i)⟩
    obtain ⟨f, hf2⟩ := hex
    refine ⟨List.ofFn f, by simp, by omega, fun hp => ⟨a.block, a.off, ?_, fun i hi2 j u hu => ?_⟩⟩
    · have h1 := (hf2 ⟨0, hp⟩).1
      have := add_spot (W := W) (a := a) (by simpa [Addr.add] using h1)
      obtain ⟨b, o, s⟩ := a
      simp at this; subst this; rfl
    · have hs := add_spot (W := W) (a := a) (by have h1 := (hf2 ⟨0, hp⟩).1; simpa [Addr.add] using h1)
      have hil : i < len := by simpa using hi2
      obtain ⟨k0, k1, k2⟩ := hf2 ⟨i, hil⟩
      have ha : ∀ q v, W.cell? ((a.add (i * 3)).add q) = some v → W.cell? ⟨a.block, a.off + i * 3 + q, none⟩ = some v := by
        intro q v hq
        obtain ⟨b, o, s⟩ := a
        simp at hs; subst hs
        rw [Addr.add_lit, Addr.add_lit] at hq
        exact hq
      have hj : j < 3 := by have := (List.getElem?_eq_some_iff.1 hu).1; simpa [encSp] using this
      rw [List.getElem_ofFn] at hu
      rcases j with _ | _ | _ | j
      · simp [encSp] at hu; subst hu; exact ha 0 _ k0
      · simp [encSp] at hu; subst hu; exact ha 1 _ k1
      · simp [encSp] at hu; subst hu; exact ha 2 _ k2
      · omega

theorem u16_wf {z : Int} (h : (Lit.int .u16 z).wf = true) : 0 ≤ z ∧ z < 65536 := by
  rw [Lit.wf, Bool.and_eq_true, decide_eq_true_iff, decide_eq_true_iff] at h
  have e1 : IntKind.u16.min = 0 := by kernel_rfl
  have e2 : IntKind.u16.max = 65535 := by kernel_rfl
  omega
theorem open_u16 (h : DataW.Trod enc Tryz.prog W base spare held 50 (.slice a0 len cap) d p)
    (hr : ∀ e s, d = .slice e s → (e.length + s.length) * 2 ≤ 140737488351232) : len ≤ 140737488351232 ∧ ∃ us : List Nat, (len ≤ 60 → RdU W a0 len us) ∧ ∀ x ∈ us, x < 65536 := by
  obtain ⟨fuel, hf⟩ := h
  rcases open_ints Tryz.underlying50 Tryz.underlying51 (by kernel_rfl) hf with ⟨hcs, hx⟩ | ⟨a, len', cap', zs, hcs, _, hl, hm, hz, hx, hcell, hwf⟩
  · simp [Value.cells] at hcs
    obtain ⟨rfl, rfl, rfl⟩ := hcs
    exact ⟨by omega, [], fun _ => Rd.nil, fun x hx => by cases hx⟩
  · simp [Value.cells] at hcs
    obtain ⟨rfl, rfl, rfl⟩ := hcs
    have hle := hr _ _ (Prod.mk.inj hx).1
    have hzl : len ≤ zs.length := by rw [hz]; split <;> omega
    have ht : (zs.take len).length = len := by simp; omega
    simp only [lits, List.length_map, ht] at hle
    refine ⟨by omega, (zs.take len).map Int.toNat, fun h60 => ⟨by simpa using ht, by omega, fun hp => ⟨a.block, a.off, ?_, fun i hi j u hu => ?_⟩⟩, fun x hx2 => ?_⟩
    · have := add_spot (hcell 0 (by omega))
      obtain ⟨b, o, s⟩ := a
      simp at this; subst this; rfl
    · have hs := add_spot (hcell 0 (by omega))
      have hj : j = 0 := by have := (List.getElem?_eq_some_iff.1 hu).1; simp [encU] at this; exact this
      subst hj
      have hi2 : i < zs.length := by simp at hi; omega
      have hw := u16_wf (hwf zs[i] (List.getElem_mem hi2))
      have e : u = .int .u16 zs[i] := by
        have := hu
        simp [encU] at this
        rw [← this]
        congr 1
        omega
      subst e
      have h1 := add_cell (hcell i (by omega)) hs
      rw [Nat.mul_one, Nat.add_zero, h1]
      simp [List.getD, List.getElem?_eq_getElem hi2]
    · obtain ⟨z, hz2, rfl⟩ := List.mem_map.1 hx2
      have := u16_wf (hwf z (List.mem_of_mem_take hz2))
      omega
end
end Go.Proofs.YtfeofhinpgodoaaGreatDoor

namespace Go.Proofs.YtfeofhinpgodoaaGreatDoor
open Go.ChangeShapes Go.WideShapes Go.ChangeAt Go.RowKit

theorem ownKnobNone : ownKnob Tryz.prog.godebug = none := by kernel_rfl
theorem laidOutYes : laidOutB Tryz.prog = true := by kernel_rfl
abbrev laidHere {H : Type} : List (String × DataW H) := [("unicodetext/ordering.ranges", Rows.laid_unicodetext_ordering_ranges)]

theorem agg_at {xs ys : List (DataW Unit)} (h : DataW.agg xs = .agg ys) (i : Nat) : xs[i]? = ys[i]? := by
  injection h with h; rw [h]

theorem glob_of_laid {W : World} (h : laidMetH Tryz.prog laidHere W) : Glob W := by
  rw [MakeChecks.laidMetH_plain _ _ _ (by kernel_rfl)] at h
  obtain ⟨ps, ⟨g, t, cs, fuel, p, q, hg, ht, hv, hd, _, _⟩, _, _⟩ := h
  obtain rfl := Option.some.inj ((show Tryz.prog.globalNamed "unicodetext/ordering.ranges" = some 0 by kernel_rfl).symm.trans hg)
  obtain rfl := Option.some.inj ((show (Tryz.prog.globals[0]?).map (·.type) = some 154 by kernel_rfl).symm.trans ht)
  obtain ⟨xs, m, _, ex, _, hl, hel⟩ := DataW.trod_array Tryz.underlying154 hd
  have c38 : Tryz.prog.cellsOf 77 = 2 := by kernel_rfl
  have c3 : Tryz.prog.cellsOf 3 = 1 := by kernel_rfl
  have F : (Tryz.prog.fieldsOf 77).map (fun f => (f.type, f.offset)) = #[(3, 0), (3, 1)] := by kernel_rfl
  have G : ∀ j, j < 2 → ∃ f, (Tryz.prog.fieldsOf 77)[j]? = some f ∧ f.type = 3 ∧ f.offset = j := by
    intro j hj
    have h2 := congrArg (fun x => x[j]?) F
    simp only [Array.getElem?_map] at h2
    cases hq : (Tryz.prog.fieldsOf 77)[j]? with
    | none => rw [hq] at h2; rcases j with _ | _ | j <;> simp at h2; omega
    | some f =>
      rw [hq] at h2
      refine ⟨f, rfl, ?_⟩
      rcases j with _ | _ | j
      · simp at h2; exact h2
      · simp at h2; exact h2
      · omega
  have key : ∀ i j : Nat, i < 4 → j < 2 → ∀ z : Int, (Rows.laid_unicodetext_ordering_ranges : DataW Unit) = Rows.laid_unicodetext_ordering_ranges →
      (match (Rows.laid_unicodetext_ordering_ranges : DataW Unit) with | .agg rs => (match rs[i]? with | some (.agg fs) => fs[j]? | _ => none) | _ => none) = some (.lit (.int .i64 z)) → W.cell? ⟨0, i * 2 + j, none⟩ = some (.int .i64 z) := by
    intro i j hi hj z _ hz
    have hE := hel i hi
    rw [c38, List.getElem?_eq_getElem (by omega)] at hE
    obtain ⟨ys, n', _, ey, _, hyl, hfld⟩ := DataW.trod_struct Tryz.underlying77 hE
    obtain ⟨f, q0, t0, o0⟩ := G j hj
    have h1 := hfld j f (by simpa [Program.fieldsOf, Tryz.underlying77] using q0)
    rw [t0, o0, c3] at h1
    have hyj : j < ys.length := by rw [hyl]; exact (Array.getElem?_eq_some_iff.1 (by simpa [Program.fieldsOf, Tryz.underlying77] using q0)).1
    rw [List.getElem?_eq_getElem hyj] at h1
    obtain ⟨z', e1, e2, _⟩ := DataW.trod_int Tryz.underlying3 h1
    have hx := (Prod.mk.inj ex).1
    rw [hx] at hz
    simp only [List.getElem?_map] at hz
    rw [List.getElem?_eq_getElem (by omega), Option.map_some, show (xs[i]).1 = _ from congrArg Prod.fst ey] at hz
    simp only [List.getElem?_map] at hz
    rw [List.getElem?_eq_getElem hyj, Option.map_some, e2] at hz
    have hzz : z' = z := by
      simp only [Option.some.injEq, DataW.lit.injEq, Lit.int.injEq, true_and] at hz
      exact hz
    subst hzz
    have h0 : ((((cs.toList.drop (i * 2)).take 2).drop j).take 1)[0]? = some (.int .i64 z') := by rw [e1]; rfl
    rw [World.var?_cell hg hv (i * 2 + j)]
    rw [← Array.getElem?_toList]
    rw [List.getElem?_take, if_pos (by omega), List.getElem?_drop, List.getElem?_take, if_pos (by omega), List.getElem?_drop] at h0
    simpa using h0
  exact ⟨key 0 0 (by omega) (by omega) _ rfl rfl, key 0 1 (by omega) (by omega) _ rfl rfl, key 1 0 (by omega) (by omega) _ rfl rfl, key 1 1 (by omega) (by omega) _ rfl rfl, key 2 0 (by omega) (by omega) _ rfl rfl, key 2 1 (by omega) (by omega) _ rfl rfl, key 3 0 (by omega) (by omega) _ rfl rfl, key 3 1 (by omega) (by omega) _ rfl rfl⟩
end Go.Proofs.YtfeofhinpgodoaaGreatDoor

