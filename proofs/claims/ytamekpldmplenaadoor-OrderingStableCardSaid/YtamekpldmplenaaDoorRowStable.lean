/- The row of OrderingStable: from its arguments, read as data, to the walk, and its card. -/
import Derived.Test.YtamekpldmplenaaDoorFrame
import Derived.Test.YtamekpldmplenaaDoorLawS
import Derived.Test.YtamekpldmplenaaDoorOpenC
import Derived.Test.YtamekpldmplenaaDoorTie
import Derived.Test.YtamekpldmplenaaDoorCards
import Derived.SevenTiedAt
namespace Go.Proofs.YtamekpldmplenaaDoor
open Go.ChangeShapes Go.WideShapes Go.ChangeAt Go.RowKit

set_option maxRecDepth 100000 in
theorem orderingStable_lifted (os : Os) (started : os.Started) (H : Type) (enc : TypeId × Value → H) :
    ReturnsInHanded {} Tryd.checked os 7 .any (fun w args => (Rows.orderingStableSpec.pre enc Tryd.prog Tryd.f7 [] false w args ∧ laidMetH Tryd.prog laidHere w) ∧ sizedMet enc Tryd.prog Tryd.f7 (OpenSpec.ofChange Rows.orderingStableSpec) false w args)
      (Rows.orderingStableSpec.post enc Tryd.prog Tryd.f7 false true false false) := by
  refine returnsInHanded_of_change_and (C := Tryd.checked) (X := fun w _ => laidMetH Tryd.prog laidHere w) (fun _ _ _ hh h => h.of_heap hh) ownKnobNone started (by kernel_rfl) Tryd.func7
    (ChangeSpec.witness_shaped (enc := enc) (C := Tryd.checked) (os := os) (X := fun w _ => laidMetH Tryd.prog laidHere w) false (World.laidAll Tryd.prog os laidHere) #[.slice none 0 0, .slice none 0 0, .int .u8 0] 8 (World.laidAll_os _ _ _)
      (World.shaped_of_ZipB (by kernel_rfl) (by kernel_rfl)) (by kernel_rfl) (by kernel_rfl) (by kernel_rfl)
      (by rw [MakeChecks.laidMetH_plain _ _ _ (by kernel_rfl)]; exact laidMet_laidAll _ (by kernel_rfl) (by kernel_rfl))) ?_
  intro W base args ds gs before hval0 hW _ hS0 hL _
  have hval : ∀ (j : Nat) t v, Tryd.f7.params[j]? = some t → args[j]? = some v → Value.okWide Tryd.prog W .any base t v := hval0
  have hS : (DataW.weightsEach Tryd.prog (Tryd.f7.params.toList ++ Rows.orderingStableSpec.plain.varTypes Tryd.prog) (ds ++ gs)).all (· ≤ reachBytes) = true := hS0
  have HG := glob_of_laid hL
  have hW' := hW
  obtain ⟨p, q, hA0, hV, rfl, _, _⟩ := hW
  have hA : DataW.TrodAll enc Tryd.prog W 0 (fun _ => true) true Tryd.f7.params.toList args.toList ds p := hA0
  rw [Tryd.params7] at hA hval hS
  clear hA0 hval0 hS0
  obtain ⟨v0, v1, v2, d0, d1, d2, p0, p1, p2, rfl, rfl, rfl, h0, h1, h2⟩ := trodAll_three hA
  obtain ⟨rfl, rfl⟩ := trodVars_none hV
  have hlt : ∀ x ∈ (p0 ++ p1 ++ p2) ++ [], x.block < W.heap.size := fun x hx => by simpa using hW'.lt x hx
  obtain ⟨a0, n0, c0, rfl⟩ := okWide_slice Tryd.underlying22 (hval 0 22 v0 rfl rfl)
  obtain ⟨l0, HR0⟩ := open_sp h0 (fun e s hd => by
    have h := sized_slice hS (j := 0) (t := 22) (e := 44) (elems := e) (spare := s) rfl (by rw [← hd]; rfl) Tryd.underlying22
    rw [show Tryd.prog.bytesOf 44 = 24 by kernel_rfl] at h
    exact h)
  have ha0 : ∀ W' : World, Below W.heap.size W W' → DataW.Trod enc Tryd.prog W' 0 (fun b => decide (b < W.heap.size)) true 22 (.slice a0 n0 c0) d0 p0 :=
    fun W' hn => Below.trod laidOutYes (by kernel_rfl) (of_decide_eq_true (by kernel_rfl)) h0 hn (fun x hx => hlt x (by simp [hx]))
  obtain ⟨a1, n1, c1, rfl⟩ := okWide_slice Tryd.underlying27 (hval 1 27 v1 rfl rfl)
  obtain ⟨l1, HR1⟩ := open_i h1 (fun e s hd => by
    have h := sized_slice hS (j := 1) (t := 27) (e := 3) (elems := e) (spare := s) rfl (by rw [← hd]; rfl) Tryd.underlying27
    rw [show Tryd.prog.bytesOf 3 = 8 by kernel_rfl] at h
    exact h)
  have ha1 : ∀ W' : World, Below W.heap.size W W' → DataW.Trod enc Tryd.prog W' 0 (fun b => decide (b < W.heap.size)) true 27 (.slice a1 n1 c1) d1 p1 :=
    fun W' hn => Below.trod laidOutYes (by kernel_rfl) (of_decide_eq_true (by kernel_rfl)) h1 hn (fun x hx => hlt x (by simp [hx]))
  obtain ⟨x2, rfl, rfl, rfl, wx2⟩ := open_int Tryd.underlying5 (hval 2 5 v2 rfl rfl) h2
  have hx2 : 0 ≤ x2 ∧ x2 < 256 := by
    have h := wx2
    rw [Lit.wf, Bool.and_eq_true, decide_eq_true_iff, decide_eq_true_iff] at h
    have e1 : IntKind.u8.min = 0 := by kernel_rfl
    have e2 : IntKind.u8.max = 255 := by kernel_rfl
    omega
  refine (lawStable_any _ _ _ l0 _ _ _ l1 x2 _ HR0 HR1 HG (open_ic h1) hx2).mono fun e W' ⟨he, hB⟩ => ?_
  subst he
  refine ⟨_, rfl, _, _, _, [], (p0 ++ (p1 ++ [])), [], hW', trodAll_mk1 (shut_bool Tryd.underlying4 _), trodAll_mk3 (ha0 _ hB) (ha1 _ hB) (shut_int Tryd.underlying5 wx2), ?_, hB.frame _, fun h => by cases h⟩
  rfl

theorem orderingStable_holds : Rows.OrderingStableSaid :=
  OpenClaim.holds_of_wide 7 Tryd.f7 rfl rfl rfl rfl rfl rfl rfl ⟨rfl, rfl, rfl, rfl, rfl⟩ rfl rfl rfl rfl rfl (by kernel_rfl) Tryd.func7 (by kernel_rfl)
    (of_decide_eq_true (by kernel_rfl)) (by unfold Func.isWrapper; first | (rw [if_pos (by decide +kernel)]; kernel_rfl) | (rw [if_neg (by decide +kernel)]; exact ⟨rfl, rfl⟩))
    (fun os started H enc _ => orderingStable_lifted os started H enc)

theorem orderingStable_card : Rows.OrderingStableCardSaid :=
  Claim7.holds_tied_plain_at .later [] [.data] true (true, "e6217433ef165204ed8c3dc7087a5048b6994ce25a3ea6be8d55fc2d1536a667") false orderingStable_holds (fun _ h => by cases h) (by kernel_rfl) (fun _ h => by cases h) orderingStable_row_tie rfl ⟨rfl, rfl⟩ (by kernel_rfl) rfl
    (fun f fn hf hfn => by
      obtain rfl : f = 7 := Option.some.inj ((show Tryd.prog.funcNamed "unicodetext/unicodetextlaw20.OrderingStable" = some 7 by kernel_rfl).symm.trans hf) |>.symm
      obtain rfl : fn = Tryd.f7 := (Option.some.inj (Tryd.func7.symm.trans hfn)).symm
      exact ⟨by kernel_rfl, fun j t ht => by
        rw [Tryd.params7] at ht
        have hm : t ∈ [22, 27, 5] := by simpa using Array.mem_of_getElem? ht
        have hall : ([22, 27, 5].all fun u => !Tryd.prog.wantsStandIn u) = true := by kernel_rfl
        exact (show Tryd.prog.wantsStandIn t = false by simpa using List.all_eq_true.1 hall t hm)⟩)
    (by kernel_rfl)
end Go.Proofs.YtamekpldmplenaaDoor
