/- The laws' arguments and the listed variable, read as lists of numbers. -/
import Derived.Test.YtamekpldmplenaaDoorAlive
import Derived.Test.YtamekpldmplenaaDoorRows
import Derived.ProofKit
import Derived.OpenShut
import Derived.Deep.Slices
import Derived.LaidMore
import Derived.Lib.LaidU8
import Derived.Lay
import Derived.SizedLaws
import Derived.Stop.Joined
namespace Go.Proofs.YtamekpldmplenaaDoor
open Go.ChangeShapes Go.WideShapes Go.ChangeAt Go.RowKit Go.Deep

section
variable {H : Type} {enc : TypeId × Value → H} {W : World} {base : Nat} {spare : Nat → Bool} {held : Bool} {a0 : Option Addr} {len cap : Nat} {d : DataW H} {p : List MemPlace}

theorem add_cell {a : Addr} {k : Nat} {v : Value} (h : W.cell? (a.add k) = some v) (hs : a.spot = none) : W.cell? ⟨a.block, a.off + k, none⟩ = some v := by
  obtain ⟨b, o, s⟩ := a
  subst hs
  rw [← Addr.add_lit]; exact h
theorem add_spot {a : Addr} {v : Value} (h : W.cell? (a.add 0) = some v) : a.spot = none := by
  obtain ⟨b, o, s⟩ := a
  exact cell_spot (w := W) (b := b) (o := o) (v := v) (by simpa [Addr.add] using h)

theorem open_i (h : DataW.Trod enc Tryd.prog W base spare held 27 (.slice a0 len cap) d p)
    (hr : ∀ e s, d = .slice e s → (e.length + s.length) * 8 ≤ 140737488351232) : ∃ xs, RdI W a0 len xs := by
  obtain ⟨fuel, hf⟩ := h
  rcases open_ints Tryd.underlying27 Tryd.underlying3 (by kernel_rfl) hf with ⟨hcs, hx⟩ | ⟨a, len', cap', zs, hcs, _, hl, hm, hz, hx, hcell, _⟩
  · simp [Value.cells] at hcs
    obtain ⟨rfl, rfl, rfl⟩ := hcs
    exact ⟨[], Rd.nil⟩
  · simp [Value.cells] at hcs
    obtain ⟨rfl, rfl, rfl⟩ := hcs
    have hle := hr _ _ (Prod.mk.inj hx).1
    have hzl : len ≤ zs.length := by rw [hz]; split <;> omega
    have ht : (zs.take len).length = len := by simp; omega
    simp only [lits, List.length_map, ht] at hle
    refine ⟨zs.take len, ht, by omega, fun hp => ⟨a.block, a.off, ?_, fun i hi j u hu => ?_⟩⟩
    · have := add_spot (hcell 0 (by omega))
      obtain ⟨b, o, s⟩ := a
      simp at this; subst this; rfl
    · have hs := add_spot (hcell 0 (by omega))
      have hj : j = 0 := by have := (List.getElem?_eq_some_iff.1 hu).1; simp [encI] at this; exact this
      subst hj
      have e : u = .int .i64 (zs.take len)[i] := by have := hu; simp [encI] at this ⊢; exact this.symm
      subst e
      have h1 := add_cell (hcell i (by omega)) hs
      rw [Nat.mul_one, Nat.add_zero, h1]
      simp [List.getD, List.getElem?_eq_getElem (show i < zs.length by omega)]

theorem open_sp (h : DataW.Trod enc Tryd.prog W base spare held 22 (.slice a0 len cap) d p)
    (hr : ∀ e s, d = .slice e s → (e.length + s.length) * 24 ≤ 140737488351232) : ∃ xs, RdSp W a0 len xs := by
  obtain ⟨fuel, hf⟩ := h
  have c44 : Tryd.prog.cellsOf 44 = 3 := by kernel_rfl
  have c3 : Tryd.prog.cellsOf 3 = 1 := by kernel_rfl
  rcases open_slice Tryd.underlying22 hf with ⟨hcs, hx⟩ | ⟨a, len', cap', m, n, D, Pl, hcs, _, hl, hm, hmm, hx, hi⟩
  · simp [Value.cells] at hcs
    obtain ⟨rfl, rfl, rfl⟩ := hcs
    exact ⟨[], Rd.nil⟩
  · simp [Value.cells] at hcs
    obtain ⟨rfl, rfl, rfl⟩ := hcs
    have hle := hr _ _ (Prod.mk.inj hx).1
    have hml : len ≤ m := by rw [hmm]; split <;> omega
    simp only [List.length_map, List.length_range] at hle
    have hall : ∀ i : Fin len, ∃ s : Sp, W.cell? ((a.add (i.1 * 3)).add 0) = some (.int .i64 s.lo) ∧ W.cell? ((a.add (i.1 * 3)).add 1) = some (.int .i64 s.hi) ∧ W.cell? ((a.add (i.1 * 3)).add 2) = some (.int .i64 s.val) := by
      intro i
      obtain ⟨cs', hc, ht⟩ := hi i.1 (by have := i.2; omega)
      rw [c44] at hc
      obtain ⟨_, hcl, hat⟩ := World.cells?_some hc
      obtain ⟨ys, n', _, _, _, _, hfld⟩ := DataW.trod_struct Tryd.underlying44 ht
      have k : ∀ (j : Nat) (f : Field), (Tryd.prog.fieldsOf 44)[j]? = some f → f.type = 3 → f.offset = j → j < 3 → ∃ z : Int, cs'[j]? = some (.int .i64 z) := by
        intro j f hf0 ht0 ho hj3
        have h1 := hfld j f (by simpa [Program.fieldsOf, Tryd.underlying44] using hf0)
        rw [ht0, ho, c3] at h1
        have hyl : j < ys.length := by rw [‹ys.length = _›]; exact (Array.getElem?_eq_some_iff.1 (by simpa [Program.fieldsOf, Tryd.underlying44] using hf0)).1
        rw [List.getElem?_eq_getElem hyl] at h1
        obtain ⟨z, e1, _⟩ := DataW.trod_int Tryd.underlying3 h1
        refine ⟨z, ?_⟩
        have h0 : ((cs'.drop j).take 1)[0]? = some (.int .i64 z) := by rw [e1]; rfl
        simpa using h0
      have F : (Tryd.prog.fieldsOf 44).map (fun f => (f.type, f.offset)) = #[(3, 0), (3, 1), (3, 2)] := by kernel_rfl
      have G : ∀ j, j < 3 → ∃ f, (Tryd.prog.fieldsOf 44)[j]? = some f ∧ f.type = 3 ∧ f.offset = j := by
        intro j hj
        have h2 := congrArg (fun x => x[j]?) F
        simp only [Array.getElem?_map] at h2
        cases hq : (Tryd.prog.fieldsOf 44)[j]? with
        | none => rw [hq] at h2; rcases j with _ | _ | _ | j <;> simp at h2; omega
        | some f =>
          rw [hq] at h2
          refine ⟨f, rfl, ?_⟩
          rcases j with _ | _ | _ | j
          · simp at h2; exact h2
          · simp at h2; exact h2
          · simp at h2; exact h2
          · omega
      obtain ⟨f0, q0, t0, o0⟩ := G 0 (by omega)
      obtain ⟨f1, q1, t1, o1⟩ := G 1 (by omega)
      obtain ⟨f2, q2, t2, o2⟩ := G 2 (by omega)
      obtain ⟨z0, e0⟩ := k 0 f0 q0 t0 o0 (by omega)
      obtain ⟨z1, e1⟩ := k 1 f1 q1 t1 o1 (by omega)
      obtain ⟨z2, e2⟩ := k 2 f2 q2 t2 o2 (by omega)
      exact ⟨⟨z0, z1, z2⟩, by rw [hat 0 (by omega), e0], by rw [hat 1 (by omega), e1], by rw [hat 2 (by omega), e2]⟩
    have hex : ∃ f : Fin len → Sp, ∀ i, W.cell? ((a.add (i.1 * 3)).add 0) = some (.int .i64 (f i).lo) ∧ W.cell? ((a.add (i.1 * 3)).add 1) = some (.int .i64 (f i).hi) ∧ W.cell? ((a.add (i.1 * 3)).add 2) = some (.int .i64 (f i).val) :=
      ⟨fun i => Classical.choose (hall i), fun i => Classical.choose_spec (hall i)⟩
    obtain ⟨f, hf2⟩ := hex
    refine ⟨List.ofFn f, by simp, by omega, fun hp => ⟨a.block, a.off, ?_, fun i hi2 j u hu => ?_⟩⟩
    · have h1 := (hf2 ⟨0, hp⟩).1
      have := add_spot (W := W) (a := a) (by simpa [Addr.add] using h1)
      obtain ⟨b, o, s⟩ := a
      simp at this; subst this; rfl
    · have hs := add_spot (W := W) (a := a) (by have h1 := (hf2 ⟨0, hp⟩).1; simpa [Addr.add] using h1)
      have hil : i < len := by simpa using hi2
      obtain ⟨k0, k1, k2⟩ := hf2 ⟨i, hil⟩
      have ha : ∀ q v, W.cell? ((a.add (i * 3)).add q) = some v → W.cell? ⟨a.block, a.off + i * 3 + q, none⟩ = some v := by
        intro q v hq
        obtain ⟨b, o, s⟩ := a
        simp at hs; subst hs
        rw [Addr.add_lit, Addr.add_lit] at hq
        exact hq
      have hj : j < 3 := by have := (List.getElem?_eq_some_iff.1 hu).1; simpa [encSp] using this
      rw [List.getElem_ofFn] at hu
      rcases j with _ | _ | _ | j
      · simp [encSp] at hu; subst hu; exact ha 0 _ k0
      · simp [encSp] at hu; subst hu; exact ha 1 _ k1
      · simp [encSp] at hu; subst hu; exact ha 2 _ k2
      · omega
end
end Go.Proofs.YtamekpldmplenaaDoor
