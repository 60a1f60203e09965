import Derived.Test.YtamekpldmplenaaDoorSortW
import Derived.Maps.OwnIn
namespace Go.Proofs.YtamekpldmplenaaDoor
open Go.RowKit Go.Shelf
attribute [local go_sem] Oper.semAt_some

theorem infoRg : (Tryd.prog.info? 38).map (fun i => (i.zero, i.size, i.bytes)) = some (some (.agg #[.int .i64 0, .int .i64 0]), 2, 16) := by kernel_rfl

/-- A slice of ranges that is handed back. -/
def RgsPost (Q : List Rg → Prop) (w : World) (e : Ending) (w' : World) : Prop := ∃ A n c ys, RdRg w' A n ys ∧ Q ys ∧ e = .returned (.slice A n c) ∧ Below w.heap.size w w'

set_option maxRecDepth 100000 in
set_option maxHeartbeats 2000000 in
theorem appendSeq_any (wf : World) (Bt Bc : Nat) (A : Option Addr) (len cap : Nat) (text : List Int) (g : FuncId) (cb : Array Value) (f : Int → Int) (he : Enters Tryd.prog g)
    (hf : ∀ (W : World) (c : Int), Below wf.heap.size wf W → Calls Tryd.prog g (#[.int .i64 c] ++ cb) W fun e w' => e = .returned (.int .i64 (f c)) ∧ Below W.heap.size W w')
    (hT : RdI wf A len text) (hbig : len ≤ 1000000000) (w : World) (hR : RunsIn wf Bt Bc A len cap g cb w) :
    Calls Tryd.prog 46 #[.slice none 0 0, .func (.func 47) #[] #[.pointer (some ⟨Bt, 0, none⟩), .pointer (some ⟨Bc, 0, none⟩)]] w (RgsPost (fun ys => ys = runsF f text) w) := by
  have HE := Lib.hid he; have HF := Lib.hid hf; have HT := Lib.hid hT; have HR := Lib.hid hR
  clear he hf hT hR
  refine callsIn_wide.1 (callsIn_of_wp_marks (F := Fence.wide) (n := 5) Tryd.func46 rfl trivial ?_ rfl)
  simp only [Tryd.ntmps46, List.size_toArray, List.length_cons, List.length_nil, Nat.reduceAdd, Nat.reduceSub, Array.replicate_succ, Array.replicate_zero, List.push_toArray, List.append_toArray, List.nil_append, List.cons_append]
  obtain ⟨i0, hi, hz0, hz1, hz2⟩ := info_parts infoRg
  have bS := Boxed.new w 30 (.slice none 0 0)
  have hb1 := (Below.refl w.heap.size w).alloc (Nat.le_refl _) (.cells #[.slice none 0 0] 30)
  have HN := Lib.hid (show (runsF f text).length ≤ len by have := runsF_len f text; have := HT.out.len; omega)
  have hRin : RunsIn wf Bt Bc A len cap g cb (w.alloc (.cells #[.slice none 0 0] 30)) := ⟨bcel hb1 HR.out.1, bcel hb1 HR.out.2.1, bthen HR.out.2.2 hb1⟩
  have HB1 := Lib.hid hb1
  have BS := Lib.hid bS
  clear hb1 bS
  gi_wp2_with fail
  refine wpIn_rangeFunc_ownH rfl (by omega) (gf := 47) (lb := #[.pointer (some ⟨Bt, 0, none⟩), .pointer (some ⟨Bc, 0, none⟩)]) rfl trivial (enters_of Tryd.func47 (by kernel_rfl) rfl)
    (runs_stops wf Bt Bc A len cap text g cb f HE.out HF.out HT.out _ hRin) (fun h k x => k (h x)) ?hKb (Below.refl _ _) (fun _ => rfl)
    (fun pre W => (∃ v, Boxed W w.heap.size 30 v ∧ W.ownsRow w.heap.size 38 2 v pre.length ((pre.map (·.1)).flatMap encRg)) ∧ Below w.heap.size w W ∧ w.heap.size + 1 ≤ W.heap.size)
    (fun _ _ _ => False) ?hI (fun _ _ _ _ _ hs _ _ => hs) ⟨⟨_, BS.out, by exact World.ownsRow_nil _ _ _ _⟩, HB1.out, by simp⟩
    (fun x a' W => ∃ Bx, w.heap.size + 1 ≤ Bx ∧ W.cell? ⟨Bx, 0, none⟩ = some (.int .i64 x.1.lo) ∧ W.cell? ⟨Bx, 1, none⟩ = some (.int .i64 x.1.hi) ∧
      a' = { tmps := #[.slice none 0 0, .func (.func 47) #[] #[.pointer (some ⟨Bt, 0, none⟩), .pointer (some ⟨Bc, 0, none⟩)], .pointer (some ⟨w.heap.size, 0, none⟩), undef, .slice none 0 0, .pointer (some ⟨Bx, 0, none⟩),
        .func (.func 47) #[] #[.pointer (some ⟨Bt, 0, none⟩), .pointer (some ⟨Bc, 0, none⟩)], .agg #[.int .i64 x.1.lo, .int .i64 x.1.hi], undef, undef, undef, undef, undef], defers := [] })
    ?hAx ?assign ?body ?done ?stop
  case hKb =>
    intro W lb o o' hl ho _ _ h
    have hb : Below (w.heap.size + 1) W (W.putObj lb o') := below_of_grown (by have := (Array.getElem?_eq_some_iff.1 ho).1; simp at hl; omega) (grownBy_putObj' W lb o') (fun r e => by cases e; simpa using hl)
    have h1 := World.block_lt_of_cell? w _ HR.out.1
    have h2 := World.block_lt_of_cell? w _ HR.out.2.1
    have h3 := HR.out.2.2.size
    exact ⟨(hb.cell (p := ⟨Bt, 0, none⟩) (show Bt < _ by simp at h1; omega)).trans h.1, (hb.cell (p := ⟨Bc, 0, none⟩) (show Bc < _ by simp at h2; omega)).trans h.2.1, h.2.2.trans (hb.mono (by omega))⟩
  case hI =>
    intro pre W W' row ⟨⟨v, h1, h2⟩, h3, h4⟩ hg hr
    have hb : Below (w.heap.size + 1) W W' := below_of_grown h4 hg (fun r e => by have := (hr r e).1; simpa using this)
    refine ⟨⟨v, h1.kept hg (fun e => ?_), h2.kept hg ?_⟩, h3.trans (hb.mono (by omega)), Nat.le_trans h4 hb.size⟩
    · have := (hr _ e.symm).1; rw [World.size_alloc] at this; omega
    · rcases h2.2 with ⟨rfl, _⟩ | ⟨gg, cap', cur, rfl, _, hgg, _⟩
      · exact .inl rfl
      · refine .inr fun e => ?_
        obtain ⟨_, o, ho, hc⟩ := hr gg (by rw [← e]; rfl)
        rw [hgg] at ho; cases ho; cases hc
  case hAx =>
    intro x a' _ W W' row ⟨Bx, h1, h2, h3, h4⟩ hg hr
    exact ⟨Bx, h1, cell_kept h2 hg (fun r e => (hr r e).2), cell_kept h3 hg (fun r e => (hr r e).2), h4⟩
  case assign =>
    rintro lb pre x W K ⟨⟨v, h1, h2⟩, h3, h4⟩ hK
    gi_wp2
    have hb' := (Below.refl W.heap.size W).alloc (Nat.le_refl _) (.cells #[.int .i64 x.1.lo, .int .i64 x.1.hi] 38)
    exact hK _ _ ((KeepsOthers.alloc _ _).from _) (fun h => ⟨bcel hb' h.1, bcel hb' h.2.1, bthen h.2.2 hb'⟩) ⟨⟨v, h1.alloc _, h2.alloc _⟩, h3.alloc h3.size _, by simp; omega⟩ ⟨W.heap.size, h4, by go_simp, by go_simp, rfl⟩
  case body =>
    rintro lb pre x a' W hlb hrec ⟨⟨v, hv, hrow⟩, hB, hS⟩ ⟨Bx, hBx, hc1, hc2, rfl⟩ hlt
    have hle : w.heap.size ≤ W.heap.size := hB.size
    have hcell := hv.cell
    have hfz := hv.frozen
    have hkk : pre.length < 1000000000 := by have := HN.out; omega
    have HV := Lib.hid hv; have HRow := Lib.hid hrow; have HB := Lib.hid hB
    clear hv hrow hB hrec
    gi_wp2_with (gi_at_builtin; refine wpListIn_append_own_at (w := W.alloc (.cells #[.int .i64 x.1.lo, .int .i64 x.1.hi] 38)) rfl _ _ 30 rfl w.heap.size 38 i0 (.agg #[.int .i64 0, .int .i64 0]) 2 16 Tryd.underlying30 hi hz0 hz1 hz2 rfl (by decide) _ pre.length _ rfl (HRow.out.alloc _) ⟨W.heap.size, 0, none⟩ 1 1 [.int .i64 x.1.lo, .int .i64 x.1.hi] rfl rfl (World.news_of_block (cs := #[.int .i64 x.1.lo, .int .i64 x.1.hi]) (t := 38) (fr := (0, 0)) (heap_alloc_new W _)) (by intro u hu; simp at hu; rcases hu with rfl | rfl <;> rfl) (by simp only [maxLen]; omega) (by omega) (by simp; omega) ?_; intro v' w4 hown' hgrow hnil hat; obtain ⟨g', cap', rfl⟩ := ownsRow_succ hown'; obtain ⟨hv1, hv2, hr2, hk2, hb2⟩ := HV.out.appended (by decide) HRow.out hle (Nat.le_refl _) hown' hgrow; have hc1' := hv1.cell; have hf1' := hv1.frozen; have FIN := Lib.hid (And.intro hv2 (And.intro hr2 (And.intro hk2 hb2))); clear hown' hgrow hnil hat hv1 hv2 hr2 hk2 hb2)
    obtain ⟨hv2, hr2, hk2, hb2⟩ := FIN.out
    have hb3 := HB.out.trans hb2
    have hwf := HR.out.2.2.size
    refine ⟨hk2.from _, fun h => ⟨bcel hb3 HR.out.1, bcel hb3 HR.out.2.1, bthen HR.out.2.2 hb3⟩, ⟨⟨_, hv2, ?_⟩, hb3, ?_⟩⟩
    · have e : ((pre ++ [x]).map (·.1)).flatMap encRg = (pre.map (·.1)).flatMap encRg ++ [.int .i64 x.1.lo, .int .i64 x.1.hi] := by simp [encRg]
      rw [e, List.length_append]
      exact hr2
    · exact Nat.le_trans hS hk2.size
  case done =>
    rintro D xs W hD hxs ⟨⟨v, hv, hrow⟩, hB, hS⟩ hK
    have hl : xs.length = (runsF f text).length := by have := congrArg List.length hxs; simpa using this
    rw [hxs, hl] at hrow
    clear hl
    have hcell := hv.cell
    obtain ⟨A3, c3, rfl, hrd⟩ := own_rd encRg_len (by omega) hrow (by have := HN.out; omega)
    have HRd := Lib.hid hrd; have HB := Lib.hid hB; have HV := Lib.hid hv
    clear hrd hv hrow hB
    gi_wp2_with fail
    refine ⟨by simp, .inl ⟨_, _, rfl, run_takeDeferred hK, ?_⟩⟩
    refine ⟨_, results_tmp rfl _ _ _, ?_⟩
    have hb : Below (w.heap.size + 1) W (W.putObj D (.deferred none)) := below_of_grown hS (grownBy_putObj' W D _) (fun r e => by cases e; simpa using hD)
    refine ⟨A3, (runsF f text).length, c3, runsF f text, ?_, rfl, rfl, HB.out.trans (hb.mono (by omega))⟩
    refine ⟨HRd.out.len, HRd.out.le, fun hp => ?_⟩
    obtain ⟨b, o, e1, hcs⟩ := HRd.out.cells hp
    refine ⟨b, o, e1, fun i hi j u hu => ?_⟩
    exact cell_kept (hcs i hi j u hu) (grownBy_putObj' W D (.deferred none)) (fun r e => by cases e; exact ⟨_, hK, rfl⟩)
  case stop =>
    rintro D c pre W _ _ h _
    exact h.elim

set_option maxHeartbeats 400000 in
theorem collect_any (wf : World) (Bt Bc : Nat) (A : Option Addr) (len cap : Nat) (text : List Int) (g : FuncId) (cb : Array Value) (f : Int → Int) (he : Enters Tryd.prog g)
    (hf : ∀ (W : World) (c : Int), Below wf.heap.size wf W → Calls Tryd.prog g (#[.int .i64 c] ++ cb) W fun e w' => e = .returned (.int .i64 (f c)) ∧ Below W.heap.size W w')
    (hT : RdI wf A len text) (hbig : len ≤ 1000000000) (w : World) (hR : RunsIn wf Bt Bc A len cap g cb w) :
    Calls Tryd.prog 35 #[.func (.func 47) #[] #[.pointer (some ⟨Bt, 0, none⟩), .pointer (some ⟨Bc, 0, none⟩)]] w (RgsPost (fun ys => ys = runsF f text) w) := by
  have HE := Lib.hid he; have HF := Lib.hid hf; have HT := Lib.hid hT; have HR := Lib.hid hR
  clear he hf hT hR
  go_enter Tryd.func35, Tryd.ntmps35
  go_wp2_with (go_at_call 46; refine (appendSeq_any wf Bt Bc A len cap text g cb f HE.out HF.out HT.out hbig _ HR.out).mono ?_; rintro e w1 ⟨A2, n2, c2, ys, h1, h2, rfl, h3⟩; have H1 := Lib.hid h1; have H2 := Lib.hid h2; have H3 := Lib.hid h3; clear h1 h2 h3)
  go_ret
  exact ⟨A2, n2, c2, ys, H1.out, H2.out, rfl, H3.out⟩

set_option maxHeartbeats 400000 in
theorem runs_all (A : Option Addr) (n c : Nat) (l : List Sp) (A' : Option Addr) (len cap : Nat) (text : List Int) (w : World) (hR : RdSp w A n l) (hT : RdI w A' len text) (hbig : len ≤ 1000000000) (hG : Glob w) :
    Calls Tryd.prog 18 #[.slice A n c, .slice A' len cap] w (RgsPost (fun ys => ys = runsF (cls l) text) w) := by
  have HR := Lib.hid hR; have HT := Lib.hid hT; have HG := Lib.hid hG
  clear hR hT hG
  go_enter Tryd.func18, Tryd.ntmps18
  go_wp2_with (go_at_call 37; refine (finder_any _ _ _ l _ HR.out HG.out).mono ?_; rintro e w1 ⟨v, ⟨g, cb, rfl, he, hc⟩, rfl, hb⟩; have HC := Lib.hid hc; have HE := Lib.hid he; have HB := Lib.hid hb; clear hc he hb)
  refine (runs_any g cb A' len cap _).mono ?_
  rintro e w3 ⟨rfl, hw3⟩
  have hb3 : Below w1.heap.size w1 w3 := by rw [hw3]; exact ((Below.refl _ _).alloc (Nat.le_refl _) _).alloc (by simp) _
  have hr : RunsIn w1 (w1.heap.size + 1) w1.heap.size A' len cap g cb w3 := ⟨by rw [hw3]; go_simp, by rw [hw3]; go_simp, hb3⟩
  have HB3 := Lib.hid hb3; have HRin := Lib.hid hr
  clear hb3 hr hw3
  go_wp2_with fail
  refine (collect_any w1 (w1.heap.size + 1) w1.heap.size A' len cap text g cb (cls l) HE.out HC.out (HT.out.below HB.out) hbig _ HRin.out).mono ?_
  rintro e w4 ⟨A2, n2, c2, ys, h1, h2, rfl, h3⟩
  have H1 := Lib.hid h1; have H2 := Lib.hid h2; have H3 := Lib.hid h3
  clear h1 h2 h3
  go_wp2_with fail
  go_ret
  exact ⟨A2, n2, c2, ys, H1.out, H2.out, rfl, bthen (bthen HB.out HB3.out) H3.out⟩
end Go.Proofs.YtamekpldmplenaaDoor
