import Derived.Test.YtamekpldmplenaaDoorRuns
import Derived.Test.YtamekpldmplenaaDoorLadder
import Derived.Test.YtamekpldmplenaaDoorApp
import Derived.Laws.EntriesVeiled
namespace Go.Proofs.YtamekpldmplenaaDoor
open Go.RowKit Go.Shelf
attribute [local go_sem] Oper.semAt_some

set_option maxHeartbeats 400000 in
theorem runs_any (g : FuncId) (cb : Array Value) (A : Option Addr) (len cap : Nat) (w : World) :
    Calls Tryd.prog 36 #[.func (.func g) #[] cb, .slice A len cap] w fun e w' =>
      e = .returned (.func (.func 47) #[] #[.pointer (some ⟨w.heap.size + 1, 0, none⟩), .pointer (some ⟨w.heap.size, 0, none⟩)]) ∧
      w' = (w.alloc (.cells #[.func (.func g) #[] cb] 53)).alloc (.cells #[.slice A len cap] 27) := by
  go_enter Tryd.func36, Tryd.ntmps36
  go_wp2
  go_ret
  exact ⟨rfl, rfl⟩

/-- What the iterator reads, and the world of which it computes. -/
def RunsIn (wf : World) (Bt Bc : Nat) (A : Option Addr) (len cap : Nat) (g : FuncId) (cb : Array Value) (W : World) : Prop :=
  W.cell? ⟨Bt, 0, none⟩ = some (.slice A len cap) ∧ W.cell? ⟨Bc, 0, none⟩ = some (.func (.func g) #[] cb) ∧ Below wf.heap.size wf W

theorem runs_stops (wf : World) (Bt Bc : Nat) (A : Option Addr) (len cap : Nat) (text : List Int) (g : FuncId) (cb : Array Value) (f : Int → Int) (he : Enters Tryd.prog g)
    (hf : ∀ (W : World) (c : Int), Below wf.heap.size wf W → Calls Tryd.prog g (#[.int .i64 c] ++ cb) W fun e w' => e = .returned (.int .i64 (f c)) ∧ Below W.heap.size W w')
    (hT : RdI wf A len text) (w : World) (hR : RunsIn wf Bt Bc A len cap g cb w) :
    SeqStopsK Fence.wide 4 Tryd.prog 47 #[.pointer (some ⟨Bt, 0, none⟩), .pointer (some ⟨Bc, 0, none⟩)] (fun x : { x : Rg // x ∈ runsF f text } => #[.agg #[.int .i64 x.1.lo, .int .i64 x.1.hi]])
      (fun W W' => RunsIn wf Bt Bc A len cap g cb W → RunsIn wf Bt Bc A len cap g cb W') (fun ys => ys.map (·.1) = runsF f text) (fun _ => True) (runsF f text).length w := fun l J Jx W hW hJ hJx hY h0 => by
  have hRW : RunsIn wf Bt Bc A len cap g cb W := ⟨bcel hW hR.1, bcel hW hR.2.1, bthen hR.2.2 hW⟩
  refine callsIn_wide.2 ((runs1_in l Bt Bc A len cap text g cb f (RunsIn wf Bt Bc A len cap g cb) he (fun W h => h.1) (fun W h => h.2.1) (fun W h => hT.below h.2.2) (fun W c h => hf W c h.2.2)
    (fun W W' h hb => ⟨bcel hb h.1, bcel hb h.2.1, bthen h.2.2 hb⟩)
    (fun pre W => ∃ p : List { x : Rg // x ∈ runsF f text }, p.map (·.1) = pre ∧ J p W) (fun pre W => ∃ p : List { x : Rg // x ∈ runsF f text }, p.map (·.1) = pre ∧ Jx p W)
    (fun pre W W' ⟨p, e, h⟩ hb => ⟨p, e, hJ p W W' none h ⟨hb.os, hb.tape, hb.output, hb.size, fun i hi _ => hb.block i hi⟩ (fun r e => by cases e)⟩) ?_ W hRW ⟨[], rfl, h0⟩).mono ?_)
  · rintro pre x W1 ⟨p, rfl, hp⟩ hRin hx hlt
    obtain ⟨fn, tmps, assign, body, hy, hRd⟩ := hY p ⟨x, hx⟩ W1 hp (by simpa using hlt)
    refine ⟨fn, tmps, assign, body, hy, hRd.mono ?_⟩
    rintro e W' (⟨h1, h2, h3⟩ | ⟨h1, h2⟩)
    · exact .inl ⟨h1, ⟨_, by simp, h2⟩, h3 hRin⟩
    · exact .inr ⟨h1, _, by simp, h2⟩
  · rintro e W' ⟨hv, ⟨p, e1, h1⟩ | ⟨pre, p, e1, h1⟩⟩
    · exact ⟨hv, .inl ⟨p, e1, h1⟩⟩
    · exact ⟨hv, .inr ⟨p, trivial, h1⟩⟩

theorem cls_nonneg (l : List Sp) (c : Int) : 0 ≤ cls l c := by
  unfold cls
  split
  · rename_i h
    split
    · rename_i s hs
      obtain ⟨i, hi⟩ := List.mem_iff_getElem?.1 (List.mem_of_find?_eq_some hs)
      obtain ⟨lo, hi', val⟩ := s
      have := good1 (chk_zero h).1 hi
      show 0 ≤ val
      omega
    · exact Int.le_refl _
  · exact Int.le_refl _
theorem own_holds {w : World} {base : Nat} {e : TypeId} {A : Option Addr} {n c : Nat} {xs : List Int} (h : w.ownsRow base e 1 (.slice A n c) n (xs.flatMap encI)) :
    ∃ q, (0 < n → A = some ⟨q, 0, none⟩ ∧ n ≤ c ∧ base ≤ q ∧ q < w.heap.size ∧ Holds w q 0 xs) := by
  have hl : xs.length = n := by have := h.1; rw [flat_len encI_len] at this; omega
  rcases h.2 with ⟨e1, h0⟩ | ⟨g, cap, cur, e1, hb, hh, hn, hm, hsz, htk⟩
  · exact ⟨0, fun hp => by omega⟩
  · cases e1
    refine ⟨g, fun hp => ⟨rfl, hn, hb, (Array.getElem?_eq_some_iff.1 hh).1, fun i x hx => ?_, fun i hi => ?_⟩⟩
    · obtain ⟨hi, rfl⟩ := List.getElem?_eq_some_iff.1 hx
      have := h.cells (g := g) rfl i (.int .i64 xs[i]) (by have := flat_at encI_len xs i 0 hi (by omega); rw [Nat.mul_one, Nat.add_zero] at this; rw [this]; rfl)
      rw [Addr.add_lit] at this
      exact this
    · simp [World.frozen?, hh]

/-- Between two runs: what is kept, and what has been sorted. -/
structure SortI (w wf : World) (S0 B1 B2 Bt Bc q : Nat) (A A2 : Option Addr) (len cap c2 : Nat) (g : FuncId) (cb : Array Value) (f : Int → Int) (text : List Int) (pre : List Rg) (W : World) : Prop where
  below : Below w.heap.size w W
  size : S0 ≤ W.heap.size
  cls : W.cell? ⟨B1, 0, none⟩ = some (.func (.func g) #[] cb)
  out : W.cell? ⟨B2, 0, none⟩ = some (.slice A2 len c2)
  runs : RunsIn wf Bt Bc A len cap g cb W
  cur : ∃ cur, cur.length = len ∧ (0 < len → Holds W q 0 cur) ∧ Prog f text pre cur
theorem SortI.keep {w wf : World} {S0 B1 B2 Bt Bc q : Nat} {A A2 : Option Addr} {len cap c2 : Nat} {g : FuncId} {cb : Array Value} {f : Int → Int} {text : List Int} {pre : List Rg} {W W' : World}
    (h : SortI w wf S0 B1 B2 Bt Bc q A A2 len cap c2 g cb f text pre W) (hb : Below S0 W W') (hw : w.heap.size ≤ S0) (hwf : wf.heap.size ≤ S0) (h1 : B1 < S0) (h2 : B2 < S0) (h3 : Bt < S0) (h4 : Bc < S0) (h5 : q < S0) :
    SortI w wf S0 B1 B2 Bt Bc q A A2 len cap c2 g cb f text pre W' := by
  obtain ⟨cur, k1, k2, k3⟩ := h.cur
  exact ⟨h.below.trans (hb.mono hw), Nat.le_trans h.size hb.size, (hb.cell (p := ⟨B1, 0, none⟩) h1).trans h.cls, (hb.cell (p := ⟨B2, 0, none⟩) h2).trans h.out,
    ⟨(hb.cell (p := ⟨Bt, 0, none⟩) h3).trans h.runs.1, (hb.cell (p := ⟨Bc, 0, none⟩) h4).trans h.runs.2.1, h.runs.2.2.trans (hb.mono hwf)⟩,
    cur, k1, fun hp => ⟨fun i x hx => (hb.cell (p := ⟨q, 0 + i, none⟩) h5).trans ((k2 hp).cell i x hx), fun i hi => (hb.frozen (p := ⟨q, 0 + i, none⟩) h5).trans ((k2 hp).froz i hi)⟩, k3⟩
theorem below_of_grown {S0 : Nat} {W W' : World} {row : Option Nat} (hS : S0 ≤ W.heap.size) (hg : W.grownBy W' row) (hr : ∀ r, row = some r → S0 ≤ r) : Below S0 W W' := (Below.refl S0 W).grown hg hS hr

theorem Holds.sub {w : World} {q : Nat} {xs : List Int} (h : Holds w q 0 xs) (s n : Nat) : Holds w q s ((xs.drop s).take n) := by
  refine ⟨fun i x hx => ?_, fun i hi => ?_⟩
  · rw [List.getElem?_take] at hx
    split at hx
    · rw [List.getElem?_drop] at hx
      have := h.cell (s + i) x hx
      rwa [Nat.zero_add] at this
    · cases hx
  · have := h.froz (s + i) (by simp at hi; omega)
    rwa [Nat.zero_add] at this
theorem holds_splice {w w' : World} {q s p : Nat} {cur ys : List Int} (h : Holds w q 0 cur) (hm : Mut q s p w w') (hy : Holds w' q s ys) (hl : ys.length = p - s) (hsp : s ≤ p) (hp : p ≤ cur.length) : Holds w' q 0 (cur.take s ++ ys ++ cur.drop p) := by
  have hs : (cur.take s).length = s := by simp; omega
  refine ⟨fun i x hx => ?_, fun i hi => ?_⟩
  · rw [Nat.zero_add]
    by_cases c1 : i < s
    · rw [List.append_assoc, List.getElem?_append_left (by omega), List.getElem?_take, if_pos c1] at hx
      have := h.cell i x hx
      rw [Nat.zero_add] at this
      rw [hm.cell i (.inl c1)]; exact this
    · by_cases c2 : i < p
      · rw [List.append_assoc, List.getElem?_append_right (by omega), List.getElem?_append_left (by omega), hs] at hx
        have := hy.cell (i - s) x hx
        rwa [show s + (i - s) = i by omega] at this
      · rw [List.getElem?_append_right (by rw [List.length_append]; omega), List.length_append, hs, hl, List.getElem?_drop, show p + (i - (s + (p - s))) = i by omega] at hx
        have := h.cell i x hx
        rw [Nat.zero_add] at this
        rw [hm.cell i (.inr (by omega))]; exact this
  · rw [Nat.zero_add, hm.froz]
    have := h.froz i (by simp at hi; omega)
    rwa [Nat.zero_add] at this

theorem holds_rd {w : World} {q n : Nat} {A : Option Addr} {xs : List Int} (hl : xs.length = n) (hn : n ≤ 17592186044416) (hA : 0 < n → A = some ⟨q, 0, none⟩) (h : 0 < n → Holds w q 0 xs) : RdI w A n xs :=
  ⟨hl, hn, fun hp => ⟨q, 0, hA hp, fun i hi j u hu => by
    have hj : j = 0 := by have := (List.getElem?_eq_some_iff.1 hu).1; simp [encI] at this; exact this
    subst hj
    have e : u = .int .i64 xs[i] := by have := hu; simp [encI] at this; exact this.symm
    subst e
    have := (h hp).cell i xs[i] (List.getElem?_eq_getElem hi)
    simpa using this⟩⟩

/-- A slice that is handed back, read as ys of which Q is said. -/
def IntsPost (Q : List Int → Prop) (w : World) (e : Ending) (w' : World) : Prop := ∃ A n c ys, RdI w' A n ys ∧ Q ys ∧ e = .returned (.slice A n c) ∧ Below w.heap.size w w'
/-- The same, and no more elements than capacity. -/
def IntsCapPost (Q : List Int → Prop) (w : World) (e : Ending) (w' : World) : Prop := ∃ A n c ys, RdI w' A n ys ∧ n ≤ c ∧ Q ys ∧ e = .returned (.slice A n c) ∧ Below w.heap.size w w'

set_option maxRecDepth 100000 in
set_option maxHeartbeats 2000000 in
theorem sort_cap (A : Option Addr) (n c : Nat) (l : List Sp) (A' : Option Addr) (len cap : Nat) (text : List Int) (w : World) (hR : RdSp w A n l) (hT : RdI w A' len text) (hG : Glob w) :
    Calls Tryd.prog 22 #[.slice A n c, .slice A' len cap] w (IntsCapPost (fun ys => F0 (cls l) text ys ∧ Ord (cls l) ys) w) := by
  have hlen := hT.bd
  have HR := Lib.hid hR; have HT := Lib.hid hT; have HG := Lib.hid hG
  clear hR hT hG
  refine callsIn_wide.1 (callsIn_of_wp_marks (F := Fence.wide) (n := 5) Tryd.func22 rfl trivial ?_ rfl)
  simp only [Tryd.ntmps22, List.size_toArray, List.length_cons, List.length_nil, Nat.reduceAdd, Nat.reduceSub, Array.replicate_succ, Array.replicate_zero, List.push_toArray, List.append_toArray, List.nil_append, List.cons_append]
  have t1 : Fence.wide.fn 37 := trivial
  have t2 : Fence.wide.fn 39 := trivial
  have t3 : Fence.wide.fn 36 := trivial
  gi_wp2_with (gi_at_call 37; refine (callsIn_wide.2 (finder_any _ _ _ l _ HR.out HG.out)).mono ?_; rintro e w1 ⟨v, ⟨g, cb, rfl, he, hc⟩, rfl, hb⟩; have HC := Lib.hid hc; have HE := Lib.hid he; have HB := Lib.hid hb; clear hc he hb)
  -- Clone
  have hB1 := (Below.refl w1.heap.size w1).alloc (Nat.le_refl _) (.cells #[.func (.func g) #[] cb] 53)
  have HB1 := Lib.hid hB1
  have HT1 := Lib.hid (HT.out.below (bthen HB.out hB1))
  clear hB1
  refine (callsIn_wide.2 (clone_any A' len cap text _ HT1.out)).mono ?_
  rintro e w2 ⟨v, hown, rfl, hb⟩
  obtain ⟨A2, c2, rfl, hrd⟩ := own_rd encI_len (by omega) hown (by omega)
  have HO := Lib.hid hown; have HB2 := Lib.hid hb; have HRd := Lib.hid hrd
  have hv1 : w2.cell? ⟨w1.heap.size, 0, none⟩ = some (.func (.func g) #[] cb) := bcel hb (by go_simp)
  have h12 : w1.heap.size < w2.heap.size := World.block_lt_of_cell? w2 _ hv1
  clear hown hb hrd
  gi_wp2_with fail
  refine (callsIn_wide.2 (runs_any g cb A' len cap _)).mono ?_
  rintro e w3 ⟨rfl, hw3⟩
  obtain ⟨q, hq⟩ := own_holds HO.out
  have hz1 : (w1.alloc (.cells #[.func (.func g) #[] cb] 53)).heap.size = w1.heap.size + 1 := by simp
  have hwz : w.heap.size ≤ w1.heap.size := HB.out.size
  rw [hz1] at hq
  have hQ : ∃ q, q < w2.heap.size + 3 ∧ (0 < len → A2 = some ⟨q, 0, none⟩ ∧ len ≤ c2 ∧ w1.heap.size + 1 ≤ q ∧ q < w2.heap.size ∧ Holds w2 q 0 text) := by
    rcases Nat.eq_zero_or_pos len with h0 | h0
    · exact ⟨0, by omega, fun h => by omega⟩
    · exact ⟨q, by have := hq h0; omega, fun _ => hq h0⟩
  obtain ⟨q, hqs, hQ⟩ := hQ
  have HQ := Lib.hid hQ
  clear hq hQ hz1
  have hB3 : Below w2.heap.size w2 w3 := by
    rw [hw3]
    exact (((Below.refl _ _).alloc (Nat.le_refl _) _).alloc (by simp) _).alloc (by simp; omega) _
  have hs3 : w3.heap.size = w2.heap.size + 3 := by rw [hw3]; simp
  have k2 : w3.cell? ⟨w2.heap.size, 0, none⟩ = some (.slice A2 len c2) := by rw [hw3]; go_simp
  have k3 : w3.cell? ⟨w2.heap.size + 1, 0, none⟩ = some (.func (.func g) #[] cb) := by rw [hw3]; go_simp
  have k4 : w3.cell? ⟨w2.heap.size + 2, 0, none⟩ = some (.slice A' len cap) := by rw [hw3]; go_simp
  have HS3 := Lib.hid hs3
  have hwf : Below w1.heap.size w1 w3 := bthen (bthen ((Below.refl _ _).alloc (Nat.le_refl _) _) HB2.out) hB3
  have HI0 : Hid (SortI w w1 (w2.heap.size + 3) w1.heap.size w2.heap.size (w2.heap.size + 2) (w2.heap.size + 1) q A' A2 len cap c2 g cb (cls l) text [] w3) := by
    refine ⟨bthen HB.out hwf, by rw [hs3]; exact Nat.le_refl _, bcel hB3 hv1, k2, ⟨k4, k3, hwf⟩, text, HT.out.len, fun hp => ?_, prog_start _ _⟩
    obtain ⟨_, _, _, h4, h5⟩ := HQ.out hp
    exact h5.below hB3 h4
  clear k2 k3 k4 hwf hB3 hw3 hs3 hv1
  have hRin := HI0.out.runs
  gi_wp2_with fail
  refine wpIn_rangeFunc_ownH rfl (by omega) (gf := 47) (lb := #[.pointer (some ⟨w2.heap.size + 2, 0, none⟩), .pointer (some ⟨w2.heap.size + 1, 0, none⟩)]) rfl trivial (enters_of Tryd.func47 (by kernel_rfl) rfl)
    (runs_stops w1 (w2.heap.size + 2) (w2.heap.size + 1) A' len cap text g cb (cls l) HE.out HC.out (HT.out.below HB.out) w3 hRin) (fun h k x => k (h x)) ?hKb (Below.refl _ _) (fun _ => rfl)
    (fun pre W => SortI w w1 (w2.heap.size + 3) w1.heap.size w2.heap.size (w2.heap.size + 2) (w2.heap.size + 1) q A' A2 len cap c2 g cb (cls l) text (pre.map (·.1)) W)
    (fun _ _ _ => False) ?hI (fun _ _ _ _ _ hs _ _ => hs) HI0.out
    (fun x a' W => ∃ Bx, w2.heap.size + 3 ≤ Bx ∧ W.cell? ⟨Bx, 0, none⟩ = some (.int .i64 x.1.lo) ∧ W.cell? ⟨Bx, 1, none⟩ = some (.int .i64 x.1.hi) ∧
      a' = { tmps := #[.slice A n c, .slice A' len cap, undef, undef, .slice none 0 0, .pointer (some ⟨w1.heap.size, 0, none⟩), .pointer (some ⟨w2.heap.size, 0, none⟩), .pointer (some ⟨Bx, 0, none⟩), .slice A n c, .func (.func g) #[] cb, .slice A' len cap, .slice A2 len c2, .func (.func g) #[] cb, .slice A' len cap,
        .func (.func 47) #[] #[.pointer (some ⟨w2.heap.size + 2, 0, none⟩), .pointer (some ⟨w2.heap.size + 1, 0, none⟩)], .agg #[.int .i64 x.1.lo, .int .i64 x.1.hi], undef, undef, undef, undef, undef, undef, undef, undef, undef], defers := [] })
    ?hAx ?assign ?body ?done ?stop
  case hKb =>
    intro W lb o o' hl ho _ _ h
    have hb : Below (w2.heap.size + 3) W (W.putObj lb o') := below_of_grown (by have := (Array.getElem?_eq_some_iff.1 ho).1; have := HS3.out; omega) (grownBy_putObj' W lb o') (fun r e => by cases e; have := HS3.out; omega)
    have hz := HB2.out.size
    have hz1 : (w1.alloc (.cells #[.func (.func g) #[] cb] 53)).heap.size = w1.heap.size + 1 := by simp
    exact ⟨(hb.cell (p := ⟨w2.heap.size + 2, 0, none⟩) (show w2.heap.size + 2 < _ by omega)).trans h.1, (hb.cell (p := ⟨w2.heap.size + 1, 0, none⟩) (show w2.heap.size + 1 < _ by omega)).trans h.2.1, h.2.2.trans (hb.mono (by omega))⟩
  case hI =>
    intro pre W W' row hs hg hr
    have hb : Below (w2.heap.size + 3) W W' := below_of_grown hs.size hg (fun r e => by have := (hr r e).1; have := HS3.out; omega)
    exact hs.keep hb (by omega) (by omega) (by omega) (by omega) (by omega) (by omega) hqs
  case hAx =>
    intro x a' _ W W' row ⟨Bx, h1, h2, h3, h4⟩ hg hr
    exact ⟨Bx, h1, cell_kept h2 hg (fun r e => (hr r e).2), cell_kept h3 hg (fun r e => (hr r e).2), h4⟩
  case assign =>
    intro lb pre x W K hi hK
    gi_wp2
    have hb := (Below.refl (w2.heap.size + 3) W).alloc hi.size (.cells #[.int .i64 x.1.lo, .int .i64 x.1.hi] 38)
    have hb' := (Below.refl W.heap.size W).alloc (Nat.le_refl _) (.cells #[.int .i64 x.1.lo, .int .i64 x.1.hi] 38)
    exact hK _ _ ((KeepsOthers.alloc _ _).from _) (fun h => ⟨bcel hb' h.1, bcel hb' h.2.1, bthen h.2.2 hb'⟩) (hi.keep hb (by omega) (by have := HB2.out.size; simp at this; omega) (by omega) (by omega) (by omega) (by omega) hqs) ⟨W.heap.size, hi.size, by go_simp, by go_simp, rfl⟩
  case body =>
    rintro lb pre ⟨x, hx⟩ a' W hlb hrec hI ⟨Bx, hBx, hc1, hc2, rfl⟩ hlt
    obtain ⟨s, p, rfl, hsp, hpn⟩ := runsF_mem hx
    have hpl : p ≤ len := by have := HT.out.len; omega
    obtain ⟨_, hcap, hq1, hq2, _⟩ := HQ.out (by omega)
    have HX := Lib.hid hx; have HI := Lib.hid hI
    have hout := hI.out
    obtain ⟨rfl, _⟩ := HQ.out (by omega)
    have hne : ¬ c2 = s := by omega
    have hpc : p ≤ c2 := by omega
    have t4 : (Fence.wide.inRound lb).fn 40 := trivial
    clear hI hrec
    dsimp only at hc1 hc2 ⊢
    gi_wp2_with fail
    refine ⟨trivial, ?_⟩
    obtain ⟨cur, hcl, hch, hpr⟩ := HI.out.cur
    have hch := hch (by omega)
    have hb1q : w1.heap.size ≠ q := by omega
    refine (CallsIn.inRound lb (callsIn_wide.2 (sortStable_any q s (p - s) (c2 - s) w1.heap.size (cls l) _ (cmpOk_of q w1.heap.size (.func (.func g) #[] cb) (cls l) w1 ⟨g, cb, rfl, HE.out, HC.out⟩ (by omega) hb1q) ((cur.drop s).take (p - s)) W
      ⟨HI.out.cls, HI.out.runs.2.2, Nat.lt_of_lt_of_le (by omega) HI.out.size⟩ (hch.sub s (p - s)) (Nat.lt_of_lt_of_le (by omega) HI.out.size) (by simp; omega) (by omega)))).mono ?_
    rintro e w4 ⟨ys, ⟨f1, f2, f3, f4, f5, f6, f7⟩, rfl⟩
    rw [List.nil_append, List.append_nil] at f3
    rw [show s + (p - s) = p by omega] at f4
    have hyl := f1.length
    have hyl2 : ((cur.drop s).take (p - s)).length = p - s := by simp; omega
    have hkeep : ∀ k, k < w2.heap.size + 3 → k ≠ q → w4.heap[k]? = W.heap[k]? := fun k hk hkq => f4.block k (Nat.lt_of_lt_of_le hk HI.out.size) hkq
    have hcell : ∀ k v, k < w2.heap.size + 3 → k ≠ q → W.cell? ⟨k, 0, none⟩ = some v → w4.cell? ⟨k, 0, none⟩ = some v := fun k v hk hkq h => (World.cell?_of_block (w := W) (hkeep k hk hkq)).trans h
    have hs3 := HS3.out
    have FIN := Lib.hid (show KeepsFrom w3.heap.size W w4 ∧ (RunsIn w1 (w2.heap.size + 2) (w2.heap.size + 1) A' len cap g cb W → RunsIn w1 (w2.heap.size + 2) (w2.heap.size + 1) A' len cap g cb w4) ∧
        SortI w w1 (w2.heap.size + 3) w1.heap.size w2.heap.size (w2.heap.size + 2) (w2.heap.size + 1) q A' (some ⟨q, 0, none⟩) len cap c2 g cb (cls l) text ((pre ++ [⟨⟨(s : Int), (p : Int)⟩, hx⟩] : List { x : Rg // x ∈ runsF (cls l) text }).map (·.1)) w4 by
      refine ⟨⟨f4.size, fun k o hk ho _ => (f4.block k (Array.getElem?_eq_some_iff.1 ho).1 (by omega)).trans ho⟩, fun h => ⟨hcell _ _ (by omega) (by omega) h.1, hcell _ _ (by omega) (by omega) h.2.1, f6⟩, ?_⟩
      refine ⟨HI.out.below.trans (f4.below (by omega) HI.out.below.size), Nat.le_trans HI.out.size f4.size, hcell _ _ (by omega) (by omega) HI.out.cls, hcell _ _ (by omega) (by omega) HI.out.out, ⟨hcell _ _ (by omega) (by omega) HI.out.runs.1, hcell _ _ (by omega) (by omega) HI.out.runs.2.1, f6⟩, ?_⟩
      refine ⟨cur.take s ++ ys ++ cur.drop p, by simp; omega, fun _ => holds_splice hch f4 f3 (by omega) (by omega) (by omega), ?_⟩
      rw [List.map_append]
      exact prog_step (cls_nonneg l) hpr f1 f2)
    clear f1 f2 f3 f4 f5 f6 f7 hch hpr hcl hcell hkeep
    gi_wp2_with fail
    exact FIN.out
  case done =>
    rintro D xs W hD hxs hI hK
    have HI := Lib.hid hI
    have hout := hI.out
    clear hI
    gi_wp2_with fail
    refine ⟨by simp, .inl ⟨_, _, rfl, run_takeDeferred hK, ?_⟩⟩
    refine ⟨_, results_tmp rfl _ _ _, ?_⟩
    have hs3 := HS3.out
    have hb : Below (w2.heap.size + 3) W (W.putObj D (.deferred none)) := below_of_grown HI.out.size (grownBy_putObj' W D _) (fun r e => by cases e; omega)
    have hk := HI.out.keep hb (by omega) (by omega) (by omega) (by omega) (by omega) (by omega) hqs
    obtain ⟨cur, k1, k2, k3⟩ := hk.cur
    refine ⟨A2, len, c2, cur, holds_rd k1 (by omega) (fun hp => (HQ.out hp).1) k2, ?_, prog_end k3 hxs, rfl, hk.below⟩
    rcases Nat.eq_zero_or_pos len with h0 | h0
    · omega
    · exact (HQ.out h0).2.1
  case stop =>
    rintro D c pre W _ _ h _
    exact h.elim
theorem sort_any (A : Option Addr) (n c : Nat) (l : List Sp) (A' : Option Addr) (len cap : Nat) (text : List Int) (w : World) (hR : RdSp w A n l) (hT : RdI w A' len text) (hG : Glob w) :
    Calls Tryd.prog 22 #[.slice A n c, .slice A' len cap] w (IntsPost (fun ys => F0 (cls l) text ys ∧ Ord (cls l) ys) w) :=
  (sort_cap A n c l A' len cap text w hR hT hG).mono fun _ _ ⟨A2, n2, c2, ys, h1, _, h2, h3, h4⟩ => ⟨A2, n2, c2, ys, h1, h2, h3, h4⟩
end Go.Proofs.YtamekpldmplenaaDoor
