/- mapping.Check, cpset.Make and Valid. -/
import Derived.Test.YtfeofhinpgodoaaGreatDoorGA
import Derived.Test.YtfeofhinpgodoaaGreatDoorShelf
import Derived.StillTailTactics
import Derived.Maps.OwnOps
import Derived.Shelf.SlicesQ.Reverse
import Derived.Shelf.SlSortFuncK.ComposeK
import Derived.Shelf.SlSortCmp.WholeK
import Derived.RangeFuncBox
namespace Go.Proofs.YtfeofhinpgodoaaGreatDoor
open Go.RowKit Go.Shelf

set_option maxHeartbeats 400000 in
theorem isNaN_any (a : Int) (w : World) : Calls Tryz.prog 62 #[.int .i64 a] w fun e w' => e = .returned (.bool false) ∧ w = w' := by
  go_enter Tryz.func62, Tryz.ntmps62
  go_wp2
  go_ret
  exact ⟨by simp, rfl⟩

def cmp3 (x y : Int) : Int := if x < y then -1 else if y < x then 1 else 0

set_option maxHeartbeats 400000 in
theorem compare_any (a b : Int) (w : World) : Calls Tryz.prog 41 #[.int .i64 a, .int .i64 b] w fun e w' => e = .returned (.int .i64 (cmp3 a b)) ∧ w = w' := by
  rcases Int.lt_trichotomy a b with h | h | h
  · have hf := Lib.hid (show cmp3 a b = -1 by unfold cmp3; rw [if_pos h])
    go_enter Tryz.func41, Tryz.ntmps41
    go_wp2_with (go_at_call 62; refine (isNaN_any _ _).mono ?_; rintro e w' ⟨rfl, rfl⟩)
    go_ret
    exact ⟨ret_int hf.out.symm, rfl⟩
  · subst h
    have hf := Lib.hid (show cmp3 a a = 0 by unfold cmp3; rw [if_neg (by omega), if_neg (by omega)])
    go_enter Tryz.func41, Tryz.ntmps41
    go_wp2_with (go_at_call 62; refine (isNaN_any _ _).mono ?_; rintro e w' ⟨rfl, rfl⟩)
    go_ret
    exact ⟨ret_int hf.out.symm, rfl⟩
  · have hf := Lib.hid (show cmp3 a b = 1 by unfold cmp3; rw [if_neg (by omega), if_pos h])
    go_enter Tryz.func41, Tryz.ntmps41
    go_wp2_with (go_at_call 62; refine (isNaN_any _ _).mono ?_; rintro e w' ⟨rfl, rfl⟩)
    go_ret
    exact ⟨ret_int hf.out.symm, rfl⟩

def orI (xs : List Int) : Int := (xs.find? (fun x => decide (x ≠ 0))).getD 0

set_option maxHeartbeats 400000 in
theorem or_any (A : Option Addr) (n c : Nat) (xs : List Int) (w : World) (hR : RdI w A n xs) :
    Calls Tryz.prog 40 #[.slice A n c] w fun e w' => e = .returned (.int .i64 (orI xs)) ∧ w = w' := by
  have hn := hR.bd
  have HL := Lib.hid hR.len
  have HR := Lib.hid hR
  clear hR
  go_enter Tryz.func40, Tryz.ntmps40
  go_wp2_with fail
  go_loopw [8] (fun r wr => ∃ k : Nat, k ≤ n ∧ r = .int .i64 (k : Int) ∧ Hid (w = wr) ∧ Hid (orI xs = orI (xs.drop k))) (fun r _ => n - (intOf r).toNat)
  case atStart => exact ⟨0, by omega, by go_num, rfl, by show _ = _; simp⟩
  case round =>
    obtain ⟨k, hk, rfl, hw, HO⟩ := hrel
    have hw := hw.out
    subst hw
    by_cases hlt : k < n
    · obtain ⟨b, o, rfl⟩ := HR.out.addr (by omega)
      obtain ⟨x, hx, cx⟩ := RdI.elt HR.out hlt
      have hlt' : (k : Int) < (n : Int) := by omega
      have hd := Lib.hid (show xs.drop k = x :: xs.drop (k + 1) by
        have h1 := hx.out
        obtain ⟨h2, h3⟩ := List.getElem?_eq_some_iff.1 h1
        rw [List.drop_eq_getElem_cons h2, h3])
      by_cases h0 : x = 0
      · subst h0
        go_wp2_with fail
        go_roundw
        case rel => exact ⟨k + 1, by omega, by go_num, by first | exact rfl | exact True.intro, by show _ = _; rw [HO.out, hd.out]; simp [orI]⟩
        case measure => simp [intOf]; omega
      · have h0' := bne_iff_ne.2 h0
        have hx0 := Lib.hid h0
        clear h0
        go_wp2_with fail
        go_ret
        refine ⟨ret_int ?_, rfl⟩
        rw [HO.out, hd.out]
        simp [orI, hx0.out]
    · have e : k = n := by omega
      subst e
      have hlt' : ¬ (k : Int) < (k : Int) := by omega
      go_wp2_with fail
      go_ret
      refine ⟨ret_int ?_, rfl⟩
      rw [HO.out, List.drop_of_length_le (by rw [HL.out]; exact Nat.le_refl _)]
      rfl

/-- The order of two mappings, as the program reckons it. -/
def ordM (a b : Mp) : Int := orI [cmp3 a.frm b.frm, Lib.compareBytes a.tag.data.toList b.tag.data.toList]

set_option maxRecDepth 100000 in
set_option maxHeartbeats 4000000 in
theorem order_any (a b : Mp) (A1 A2 : Option Addr) (n1 c1 n2 c2 : Nat) (w : World) :
    Calls Tryz.prog 111 #[.agg #[.int .i64 a.frm, .slice A1 n1 c1, .string a.tag], .agg #[.int .i64 b.frm, .slice A2 n2 c2, .string b.tag]] w fun e w' => e = .returned (.int .i64 (ordM a b)) ∧ Below w.heap.size w w' := by
  obtain ⟨z, hz⟩ : ∃ z, z = Lib.compareBytes a.tag.data.toList b.tag.data.toList := ⟨_, rfl⟩
  have HZ := Lib.hid hz
  obtain ⟨q, hq⟩ : ∃ q, q = orI [cmp3 a.frm b.frm, z] := ⟨_, rfl⟩
  have HQ := Lib.hid hq
  have HE := Lib.hid (show ordM a b = q by rw [ordM, hq, hz])
  clear hz hq
  obtain ⟨f1, t1, to1⟩ := a
  obtain ⟨f2, t2, to2⟩ := b
  go_enter Tryz.func111, Tryz.ntmps111
  go_wp2_with fail
  refine still_tail_drew 10 (by kernel_rfl) (by kernel_rfl) ?_
  simp only [List.take_succ_cons, List.take_zero, List.drop_succ_cons, List.drop_zero]
  repeat still_step
  still_call ((compare_any _ _ _).mono fun _ _ h => ⟨h.1, h.2.symm⟩)
  repeat still_step
  still_call ((Tryz.strings_Compare _ _ _).mono fun _ _ h => ⟨h.1, h.2⟩)
  try refine wpStill_nil ?_
  rw [← HZ.out]
  go_wp2_with (go_at_call 40; refine (or_any _ 2 _ [cmp3 f1 f2, z] _ (by exact litId _ _ _ _ _ _ (by simp) rfl (by omega) rfl)).mono ?_; rintro e w' ⟨rfl, rfl⟩; rw [← HQ.out])
  go_ret
  exact ⟨ret_int HE.out.symm, by repeat (first | exact Below.refl _ _ | refine Below.alloc ?_ (by first | exact Nat.le_refl _ | (simp; done) | (simp; omega)) _ | refine Below.drew ?_)⟩
end Go.Proofs.YtfeofhinpgodoaaGreatDoor

namespace Go.Proofs.YtfeofhinpgodoaaGreatDoor
open Go.RowKit Go.Shelf

def nmR (x : Nat) : Bool := decide ((65 ≤ x ∧ x ≤ 90) ∨ (97 ≤ x ∧ x ≤ 122) ∨ (48 ≤ x ∧ x ≤ 57) ∨ x = 95)
def nameB (s : ByteArray) : Bool := s.data.toList.all fun b => nmR b.toNat
def nameOK (s : ByteArray) : Bool := decide (1 ≤ s.size ∧ s.size ≤ 32) && nameB s

theorem decode_high (s : ByteArray) (i : Nat) (h : 128 ≤ (s.get! i).toNat) : 128 ≤ (Utf8.decode s i).1 := by
  have e : s.get! (i + 0) = s.get! i := rfl
  unfold Utf8.decode
  simp only [e]
  rw [if_neg (by omega)]
  repeat' split
  all_goals first
    | (simp [Utf8.runeError]; done)
    | (rename_i hc _; simp at hc; simp; omega)
    | (rename_i hc; simp at hc; simp; omega)
theorem decode_low (s : ByteArray) (i : Nat) (h : (s.get! i).toNat < 128) : Utf8.decode s i = ((s.get! i).toNat, 1) := by
  have e : s.get! (i + 0) = s.get! i := rfl
  unfold Utf8.decode
  simp only [e]
  rw [if_pos (by omega)]
theorem idx_iff (s : ByteArray) : ∀ (f pos : Nat), s.size ≤ pos + f → (0 ≤ Lib.idxFuncFrom (fun x => !nmR x) true s f pos ↔ ∃ j, pos ≤ j ∧ j < s.size ∧ nmR (s.get! j).toNat = false)
  | 0, pos, h => by
    constructor
    · intro h1; simp [Lib.idxFuncFrom] at h1
    · rintro ⟨j, h1, h2, _⟩; omega
  | f + 1, pos, h => by
    rw [Lib.idxFuncFrom]
    by_cases hp : pos < s.size
    · rw [if_pos hp]
      by_cases hb : nmR (s.get! pos).toNat = true
      · have hlow : (s.get! pos).toNat < 128 := by
          have := of_decide_eq_true hb
          omega
        rw [decode_low s pos hlow, if_neg (by simp [hb]), idx_iff s f (pos + 1) (by omega)]
        constructor
        · rintro ⟨j, h1, h2, h3⟩; exact ⟨j, by omega, h2, h3⟩
        · rintro ⟨j, h1, h2, h3⟩
          refine ⟨j, ?_, h2, h3⟩
          rcases Nat.lt_or_ge pos j with h4 | h4
          · omega
          · obtain rfl : j = pos := by omega
            rw [hb] at h3; cases h3
      · have hf : nmR (s.get! pos).toNat = false := by simpa using hb
        have hx : nmR (Utf8.decode s pos).1 = false := by
          rcases Nat.lt_or_ge (s.get! pos).toNat 128 with h4 | h4
          · rw [decode_low s pos h4]; exact hf
          · have := decode_high s pos h4
            exact decide_eq_false (by omega)
        rw [if_pos (by simp [hx])]
        exact ⟨fun _ => ⟨pos, Nat.le_refl _, hp, hf⟩, fun _ => by omega⟩
    · rw [if_neg hp]
      constructor
      · intro h1; simp at h1
      · rintro ⟨j, h1, h2, _⟩; omega
theorem idx_name (s : ByteArray) : decide (0 ≤ Lib.idxFunc (fun x => !nmR x) true s) = !nameB s := by
  have h := idx_iff s s.size 0 (by omega)
  unfold Lib.idxFunc
  by_cases hn : nameB s = true
  · rw [hn]
    refine decide_eq_false fun h1 => ?_
    obtain ⟨j, _, h2, h3⟩ := h.1 h1
    have h4 := List.all_eq_true.1 hn (s.get! j) (by
      have : s.get! j = s.data.toList[j]'(by simpa using h2) := by
        have h2' : j < s.data.size := h2
        show s.data[j]! = _
        rw [getElem!_pos s.data j h2']; simp
      rw [this]; exact List.getElem_mem _)
    rw [h3] at h4; cases h4
  · have hf : nameB s = false := by simpa using hn
    rw [hf]
    refine decide_eq_true (h.2 ?_)
    obtain ⟨b, hb, hb2⟩ := List.all_eq_false.1 hf
    obtain ⟨j, hj, e⟩ := List.getElem_of_mem hb
    have hj' : j < s.data.size := by simpa using hj
    refine ⟨j, Nat.zero_le _, hj', ?_⟩
    have : s.get! j = b := by
      rw [← e]
      show s.data[j]! = _
      rw [getElem!_pos s.data j hj']; simp
    rw [this]
    simpa using hb2

set_option maxHeartbeats 1000000 in
theorem isName1_any (x : Nat) (w : World) : Calls Tryz.prog 152 #[.int .i32 (x : Int)] w fun e w' => e = .returned (.bool (!nmR x)) ∧ w = w' := by
  have H : ∀ b : Bool, b = !nmR x → Hid (b = !nmR x) := fun _ h => h
  go_enter Tryz.func152, Tryz.ntmps152
  go_wp2
  all_goals go_ret
  all_goals refine ⟨ret_bool ?_, rfl⟩
  all_goals (rw [Bool.eq_iff_iff]; simp [nmR]; omega)

set_option maxHeartbeats 1000000 in
theorem isName_any (s : ByteArray) (w : World) : Calls Tryz.prog 140 #[.string s] w fun e w' => e = .returned (.bool (nameOK s)) ∧ Below w.heap.size w w' := by
  have HE := Lib.hid (enters_of Tryz.func152 (by kernel_rfl) rfl)
  have HP : Hid (∀ W, PredAt Tryz.prog 152 #[] encR (fun x => !nmR x) W) := fun W W' x _ => (isName1_any x W').mono fun _ _ ⟨h1, h2⟩ => ⟨h1, 0, h2.symm⟩
  have hI := idx_name s
  obtain ⟨I, hI2⟩ : ∃ I, I = decide (0 ≤ Lib.idxFunc (fun x => !nmR x) true s) := ⟨_, rfl⟩
  rw [← hI2] at hI
  have HI := Lib.hid hI
  have HI2 := Lib.hid hI2
  clear hI hI2
  have hsz : s.toList.isEmpty = decide (s.size = 0) := by
    rw [ByteArray.toList_eq]
    obtain ⟨⟨x⟩⟩ := s
    cases x <;> simp [ByteArray.size]
  by_cases h0 : s.size = 0
  · have he : s.toList.isEmpty = true := hsz.trans (decide_eq_true h0)
    have HN := Lib.hid (show nameOK s = false by rw [nameOK, decide_eq_false (by omega), Bool.false_and])
    clear hsz h0
    go_enter Tryz.func140, Tryz.ntmps140
    go_wp2_with fail
    go_ret
    exact ⟨ret_bool HN.out.symm, Below.refl _ _⟩
  · have he : s.toList.isEmpty = false := hsz.trans (decide_eq_false h0)
    by_cases h1 : s.size ≤ 32
    · have HN := Lib.hid (show nameOK s = nameB s by rw [nameOK, decide_eq_true ⟨by omega, h1⟩, Bool.true_and])
      have h2 : ¬ (32 : Int) < (s.size : Int) := by omega
      clear hsz h0 h1
      go_enter Tryz.func140, Tryz.ntmps140
      go_wp2_with fail
      refine (Tryz.strings_ContainsFunc 152 #[] HE.out (fun x => !nmR x) s _ (HP.out _)).mono ?_
      rintro e w1 ⟨rfl, hb⟩
      rw [← HI2.out]
      go_wp2_with fail
      go_ret
      refine ⟨ret_bool ?_, hb⟩
      rw [HI.out, HN.out, Bool.not_not]
    · have HN := Lib.hid (show nameOK s = false by rw [nameOK, decide_eq_false (by omega), Bool.false_and])
      have h2 : (32 : Int) < (s.size : Int) := by omega
      clear hsz h0 h1
      go_enter Tryz.func140, Tryz.ntmps140
      go_wp2_with fail
      go_ret
      exact ⟨ret_bool HN.out.symm, Below.refl _ _⟩
end Go.Proofs.YtfeofhinpgodoaaGreatDoor

namespace Go.Proofs.YtfeofhinpgodoaaGreatDoor
open Go.RowKit Go.Shelf

section
variable {P : Program} {d : Nat} {xs ys : Array Value} {f : Field} {fs : List Field} {a b : Value} {r s : Bool} {w : World}
theorem fld_last (hn : (f.name == "_") = false) (ha : (part f.type xs f.offset).run P w = .ok a w) (hb : (part f.type ys f.offset).run P w = .ok b w) (he : (Op.equalIn d f.type a b).run P w = .ok r w) : (Op.eqFields d xs ys [f]).run P w = .ok r w := by
  have hn' : f.name ≠ "_" := by simpa using hn
  simp only [Op.eqFields, if_pos hn', Sem.run_bind, ha, hb, he, Result.andThen_ok]
  cases r <;> simp
theorem fld_cons (hn : (f.name == "_") = false) (ha : (part f.type xs f.offset).run P w = .ok a w) (hb : (part f.type ys f.offset).run P w = .ok b w) (he : (Op.equalIn d f.type a b).run P w = .ok r w) (hr : (Op.eqFields d xs ys fs).run P w = .ok s w) : (Op.eqFields d xs ys (f :: fs)).run P w = .ok (r && s) w := by
  have hn' : f.name ≠ "_" := by simpa using hn
  rw [Op.eqFields]
  simp only [if_pos hn', Sem.run_bind, ha, hb, he, Result.andThen_ok]
  cases r
  · simp
  · simpa using hr
theorem fld_of {t : TypeId} {gs : Array Field} (hu : P.underlying t = some (.struct gs)) (hp : P.stoodInHeld t = false) (h : (Op.eqFields d xs ys gs.toList).run P w = .ok r w) : (Op.equalIn (d + 1) t (.agg xs) (.agg ys)).run P w = .ok r w := by
  have hf : P.fieldsOf t = gs := by simp [Program.fieldsOf, hu]
  rw [run_equalIn_struct (P := P) w d t xs ys (by rw [hf]; exact hu) hp, hf]
  exact h
end

def encKy (k : Int × ByteArray) : Value := .agg #[.int .i64 k.1, .string k.2]
def encP2 (k : Int × Int) : Value := .agg #[.int .i64 k.1, .int .i64 k.2]

theorem eqKy (d : Nat) (w : World) (x0 y0 : Int) (x1 y1 : ByteArray) :
    (Op.equalIn (d + 2) 158 (.agg #[.int .i64 x0, .string x1]) (.agg #[.int .i64 y0, .string y1])).run Tryz.prog w = .ok (x0 == y0 && (x1.toList == y1.toList)) w := by
  refine fld_of Tryz.underlying158 (by kernel_rfl) ?_
  refine fld_cons (by rfl) (by go_simp; rfl) (by go_simp; rfl) (by go_simp) ?_
  exact fld_last (by rfl) (by go_simp; rfl) (by go_simp; rfl) (by go_simp)
theorem bytes_toList (a b : ByteArray) : (a.toList == b.toList) = true ↔ b = a := by
  rw [← beq_toListBytes, MapKept.bytes_beq]
  exact eq_comm

theorem keyKy : KeyOk Tryz.prog 158 (fun v => ∃ k, v = encKy k) := by
  refine KeyOk.asked Tryz.underlying158 (fun a b ⟨x, hx⟩ ⟨y, hy⟩ => by subst hx hy; rfl) (fun w em v ⟨x, hx⟩ => ?_) (fun w a b ⟨x, hx⟩ ⟨y, hy⟩ => ?_) (fun v ⟨x, hx⟩ => ?_)
  · subst hx
    obtain ⟨x, y⟩ := x
    cases em <;> kernel_rfl
  · subst hx hy
    obtain ⟨x0, x1⟩ := x
    obtain ⟨y0, y1⟩ := y
    refine ⟨_, eqKy 9998 w x0 y0 x1 y1, ?_⟩
    rw [Bool.and_eq_true, beq_iff_eq, bytes_toList]
    constructor
    · rintro ⟨h1, h2⟩; rw [h1, h2]
    · intro h
      simp [encKy] at h
      exact ⟨h.1.symm, h.2⟩
  · subst hx
    obtain ⟨x0, x1⟩ := x
    simp [encKy, Instr.sameBits, MapKept.bytes_beq]
end Go.Proofs.YtfeofhinpgodoaaGreatDoor

namespace Go.Proofs.YtfeofhinpgodoaaGreatDoor
open Go.RowKit Go.Shelf

def CodesOK (l : List Mp) : Prop := ∀ m ∈ l, validC m.frm = true ∧ m.to.all validC = true
def SizesOK (l : List Mp) : Prop := ∀ m ∈ l, m.to.length ≤ 64
def NamesOK (l : List Mp) : Prop := ∀ m ∈ l, m.tag.size = 0 ∨ nameOK m.tag = true
def OnceOK (l : List Mp) : Prop := ∀ (i j : Nat) (a b : Mp), i < j → l[i]? = some a → l[j]? = some b → ¬ (a.frm = b.frm ∧ a.tag = b.tag)
open Classical in
noncomputable def mchk (l : List Mp) : Int := if ¬ CodesOK l then 1 else if ¬ SizesOK l then 2 else if ¬ NamesOK l then 6 else if ¬ OnceOK l then 5 else 0

section
variable {P : Program} {ops : Array Oper} {rest : List Oper} {o : Oper} {a : Act} {Q : Exit → Act → World → Prop} {w : World}
theorem wpList_lookup_at (hg : o.guard = none) (t : TypeId) (m x : Operand) (comma : Bool) (hop : o.op = Op.lookup t m x comma) (mv xv v : Value) (hm : a.eval m = mv) (hx : a.eval x = xv)
    (hrun : (Instr.lookup t mv xv comma).run P w = .ok v w) (hK : wpList P ops Q rest (a.put o.dst v) w) : wpList P ops Q (o :: rest) a w := by
  refine wpList_plain hg fun K' hK' => ?_
  unfold Oper.wp
  simp [execOp, hop, hm, hx, hrun, Result.andThen]
  exact hK' _ _ hK
theorem wpList_update_at (hg : o.guard = none) (t : TypeId) (m x y : Operand) (hop : o.op = Op.mapUpdate t m x y) (mv xv yv : Value) (hm : a.eval m = mv) (hx : a.eval x = xv) (hy : a.eval y = yv) (w1 : World)
    (hrun : (Instr.mapUpdate t mv xv yv).run P w = .ok () w1) (hK : wpList P ops Q rest (a.put o.dst undef) w1) : wpList P ops Q (o :: rest) a w := by
  refine wpList_plain hg fun K' hK' => ?_
  unfold Oper.wp
  simp [execOp, hop, hm, hx, hy, hrun, Result.andThen]
  exact hK' _ _ hK
theorem wpList_update_ex (hg : o.guard = none) (t : TypeId) (m x y : Operand) (hop : o.op = Op.mapUpdate t m x y) (mv xv yv : Value) (hm : a.eval m = mv) (hx : a.eval x = xv) (hy : a.eval y = yv) (R : World → Prop)
    (hrun : ∃ w1, (Instr.mapUpdate t mv xv yv).run P w = .ok () w1 ∧ R w1) (hK : ∀ w1, R w1 → wpList P ops Q rest (a.put o.dst undef) w1) : wpList P ops Q (o :: rest) a w := by
  obtain ⟨w1, h1, h2⟩ := hrun
  exact wpList_update_at hg t m x y hop mv xv yv hm hx hy w1 h1 (hK w1 h2)
end

theorem uptoM_step {α : Type} {l : List α} {k : Nat} {m : α} {p : α → Prop} (H : ∀ (i : Nat) (x : α), i < k → l[i]? = some x → p x) (hm : l[k]? = some m) (h : p m) : ∀ (i : Nat) (x : α), i < k + 1 → l[i]? = some x → p x := by
  intro i x hi hx
  rcases Nat.lt_or_ge i k with h1 | h1
  · exact H i x h1 hx
  · obtain rfl : i = k := by omega
    rw [hm] at hx; cases hx; exact h
theorem upto_all {α : Type} {l : List α} {k : Nat} {p : α → Prop} (H : ∀ (i : Nat) (x : α), i < k → l[i]? = some x → p x) (hl : l.length = k) : ∀ m ∈ l, p m := by
  intro m hm
  obtain ⟨i, hi⟩ := List.getElem?_of_mem hm
  exact H i m (by have := (List.getElem?_eq_some_iff.1 hi).1; omega) hi

theorem zeroB (w : World) : (zeroValue 4).run Tryz.prog w = .ok (.bool false) w := by kernel_rfl

theorem bytes_isEmpty (s : ByteArray) : s.toList.isEmpty = decide (s.size = 0) := by
  rw [ByteArray.toList_eq]
  obtain ⟨⟨x⟩⟩ := s
  cases x <;> simp [ByteArray.size]
theorem encKy_inj (a c : Int × ByteArray) (h : encKy a = encKy c) : a = c := by
  obtain ⟨a0, a1⟩ := a
  obtain ⟨c0, c1⟩ := c
  simp [encKy] at h
  rw [h.1, h.2]

/-- The keys of the first k mappings, and no others, are there. -/
def Seen (l : List Mp) (k : Nat) (kv : List ((Int × ByteArray) × Value)) : Prop :=
  ((∀ a, (look kv a).isSome = true ↔ ∃ (i : Nat) (m : Mp), i < k ∧ l[i]? = some m ∧ (m.frm, m.tag) = a) ∧ ∀ a v, look kv a = some v → v = .bool true) ∧
  ∀ (i j : Nat) (a b : Mp), i < j → j < k → l[i]? = some a → l[j]? = some b → ¬ (a.frm = b.frm ∧ a.tag = b.tag)
theorem seen_none (l : List Mp) : Seen l 0 [] := ⟨⟨fun a => ⟨fun h => by simp [look_nil] at h, fun ⟨i, m, h, _⟩ => by omega⟩, fun a v h => by simp [look_nil] at h⟩, fun i j a b _ h => by omega⟩
theorem seen_once {l : List Mp} {k : Nat} {kv : List ((Int × ByteArray) × Value)} (h : Seen l k kv) (hl : l.length = k) : OnceOK l := fun i j a b hij ha hb => h.2 i j a b hij (by have := (List.getElem?_eq_some_iff.1 hb).1; omega) ha hb
theorem seen_step {l : List Mp} {k : Nat} {kv : List ((Int × ByteArray) × Value)} {m : Mp} (h : Seen l k kv) (hm : l[k]? = some m) (hn : look kv (m.frm, m.tag) = none) : Seen l (k + 1) (put kv (m.frm, m.tag) (.bool true)) := by
  refine ⟨⟨fun a => ?_, fun a v hv => ?_⟩, fun i j a b hij hj ha hb => ?_⟩
  · rw [look_put]
    by_cases e : a = (m.frm, m.tag)
    · rw [if_pos e]
      exact ⟨fun _ => ⟨k, m, by omega, hm, e.symm⟩, fun _ => rfl⟩
    · rw [if_neg e, h.1.1 a]
      constructor
      · rintro ⟨i, x, hi, hx, ex⟩; exact ⟨i, x, by omega, hx, ex⟩
      · rintro ⟨i, x, hi, hx, ex⟩
        rcases Nat.lt_or_ge i k with h1 | h1
        · exact ⟨i, x, h1, hx, ex⟩
        · obtain rfl : i = k := by omega
          rw [hm] at hx; cases hx
          exact absurd ex.symm e
  · rw [look_put] at hv
    by_cases e : a = (m.frm, m.tag)
    · rw [if_pos e] at hv; cases hv; rfl
    · rw [if_neg e] at hv; exact h.1.2 a v hv
  · rcases Nat.lt_or_ge j k with h1 | h1
    · exact h.2 i j a b hij h1 ha hb
    · obtain rfl : j = k := by omega
      rw [hm] at hb; cases hb
      rintro ⟨e1, e2⟩
      have := (h.1.1 (m.frm, m.tag)).2 ⟨i, a, hij, ha, by rw [e1, e2]⟩
      rw [hn] at this; cases this

set_option maxRecDepth 100000 in
set_option maxHeartbeats 8000000 in
theorem check1_any (A : Option Addr) (n c : Nat) (l : List Mp) (w : World) (hR : RdMp w A n l) :
    Calls Tryz.prog 109 #[.slice A n c] w fun e w' => e = .returned (.int .i64 (mchk l)) ∧ Below w.heap.size w w' := by
  have hn := hR.bd
  have HL := Lib.hid hR.len
  have HR := Lib.hid hR
  clear hR
  go_enter Tryz.func109, Tryz.ntmps109
  go_wp2_with fail
  go_loopw [15] (fun r wr => ∃ k : Nat, k ≤ n ∧ r = .int .i64 (k : Int) ∧ Hid (Below w.heap.size w wr) ∧ Hid (∀ (i : Nat) (m : Mp), i < k → l[i]? = some m → validC m.frm = true ∧ m.to.all validC = true)) (fun r _ => n - (intOf r).toNat)
  case atStart => exact ⟨0, by omega, by go_num, Below.refl _ _, fun i m h => by omega⟩
  case round =>
    obtain ⟨k, hk, rfl, HB, HP⟩ := hrel
    obtain ⟨n, rfl⟩ : ∃ n' : Nat, n' = n := ⟨_, rfl⟩
    obtain ⟨wo, rfl⟩ : ∃ wo : World, wo = wr := ⟨_, rfl⟩
    by_cases hlt : k < n
    · obtain ⟨b, o, rfl⟩ := HR.out.addr (by omega)
      obtain ⟨m, A', n', c', hm, c0, c1, c2, hT, hcap⟩ := RdMp.elt (HR.out.below HB.out) hlt
      obtain ⟨frm, tag, to⟩ := m
      have HM := Lib.hid (show l[k]? = some ⟨frm, tag, to⟩ from hm.out)
      have HT := Lib.hid (show RdI wo A' n' to from hT.out)
      clear hm hT
      have hlt' : (k : Int) < (n : Int) := by omega
      have e1 : [frm].all validC = validC frm := by simp
      cases h1 : validC frm
      · have HE := Lib.hid (show mchk l = 1 by
          rw [mchk, if_pos]
          intro h
          have := (h _ (List.mem_of_getElem? HM.out)).1
          rw [show validC frm = true from this] at h1; cases h1)
        rw [h1] at e1
        clear h1
        go_wp2_with (go_at_call 139; refine (codes_any (some ⟨_, 0, none⟩) 1 _ [frm] _ (by exact litIb _ _ _ _ _ _ (by simp) rfl (by omega) rfl)).mono ?_; rintro e w' ⟨rfl, rfl⟩; rw [e1])
        go_ret
        exact ⟨ret_int HE.out.symm, bthen HB.out (by repeat (first | exact Below.refl _ _ | refine Below.alloc ?_ (by first | exact Nat.le_refl _ | (simp; done) | (simp; omega)) _ | refine Below.drew ?_))⟩
      · rw [h1] at e1
        have H1 := Lib.hid h1
        clear h1
        have flagA := trivial
        cases h2 : to.all validC
        · have HE := Lib.hid (show mchk l = 1 by
            rw [mchk, if_pos]
            intro h
            have := (h _ (List.mem_of_getElem? HM.out)).2
            rw [show to.all validC = true from this] at h2; cases h2)
          have H2 := Lib.hid h2
          clear h2
          go_wp2_with (first | (clear flagA; go_at_call 139; refine (codes_any (some ⟨_, 0, none⟩) 1 _ [frm] _ (by exact litIb _ _ _ _ _ _ (by simp) rfl (by omega) rfl)).mono ?_; rintro e w' ⟨rfl, rfl⟩; rw [e1]) | (go_at_call 139; refine (codes_any A' n' _ to _ (by exact HT.out.below (by repeat (first | exact Below.refl _ _ | refine Below.alloc ?_ (by first | exact Nat.le_refl _ | (simp; done) | (simp; omega)) _ | refine Below.drew ?_)))).mono ?_; rintro e w' ⟨rfl, rfl⟩; rw [H2.out]))
          go_ret
          exact ⟨ret_int HE.out.symm, bthen HB.out (by repeat (first | exact Below.refl _ _ | refine Below.alloc ?_ (by first | exact Nat.le_refl _ | (simp; done) | (simp; omega)) _ | refine Below.drew ?_))⟩
        · have H2 := Lib.hid h2
          clear h2
          go_wp2_with (first | (clear flagA; go_at_call 139; refine (codes_any (some ⟨_, 0, none⟩) 1 _ [frm] _ (by exact litIb _ _ _ _ _ _ (by simp) rfl (by omega) rfl)).mono ?_; rintro e w' ⟨rfl, rfl⟩; rw [e1]) | (go_at_call 139; refine (codes_any A' n' _ to _ (by exact HT.out.below (by repeat (first | exact Below.refl _ _ | refine Below.alloc ?_ (by first | exact Nat.le_refl _ | (simp; done) | (simp; omega)) _ | refine Below.drew ?_)))).mono ?_; rintro e w' ⟨rfl, rfl⟩; rw [H2.out]))
          go_roundw
          case rel => exact ⟨k + 1, by omega, by go_num, bthen HB.out (by repeat (first | exact Below.refl _ _ | refine Below.alloc ?_ (by first | exact Nat.le_refl _ | (simp; done) | (simp; omega)) _ | refine Below.drew ?_)), uptoM_step HP.out HM.out ⟨H1.out, H2.out⟩⟩
          case measure => simp [intOf]; omega
    · have e : k = n := by omega
      subst e
      have hlt' : ¬ (k : Int) < (k : Int) := by omega
      have HC := Lib.hid (show CodesOK l from upto_all HP.out HL.out)
      have HB1 := HB
      obtain ⟨n, rfl⟩ : ∃ n : Nat, n = k := ⟨_, rfl⟩
      clear HP HB hk hlt
      go_wp2_with fail
      go_loopw [33] (fun r wr => ∃ k : Nat, k ≤ n ∧ r = .int .i64 (k : Int) ∧ Hid (Below w.heap.size w wr) ∧ Hid (∀ (i : Nat) (m : Mp), i < k → l[i]? = some m → m.to.length ≤ 64)) (fun r _ => n - (intOf r).toNat)
      case atStart => exact ⟨0, by omega, by go_num, HB1.out, fun i m h => by omega⟩
      case round =>
        obtain ⟨k, hk, rfl, HB, HP⟩ := hrel
        obtain ⟨n, rfl⟩ : ∃ n' : Nat, n' = n := ⟨_, rfl⟩
        obtain ⟨wo, rfl⟩ : ∃ wo : World, wo = wr := ⟨_, rfl⟩
        by_cases hlt : k < n
        · obtain ⟨b, o, rfl⟩ := HR.out.addr (by omega)
          obtain ⟨m, A', n', c', hm, c0, c1, c2, hT, hcap⟩ := RdMp.elt (HR.out.below HB.out) hlt
          obtain ⟨frm, tag, to⟩ := m
          have HM := Lib.hid (show l[k]? = some ⟨frm, tag, to⟩ from hm.out)
          have HT := Lib.hid (show RdI wo A' n' to from hT.out)
          clear hm hT
          have hlt' : (k : Int) < (n : Int) := by omega
          have hto := Lib.hid (HT.out.len)
          by_cases h1 : n' ≤ 64
          · have g1 : ¬ (64 : Int) < (n' : Int) := by omega
            clear h1
            have H1 := Lib.hid (show to.length ≤ 64 by rw [hto.out]; omega)
            go_wp2_with fail
            go_roundw
            case rel => exact ⟨k + 1, by omega, by go_num, bthen HB.out (by repeat (first | exact Below.refl _ _ | refine Below.alloc ?_ (by first | exact Nat.le_refl _ | (simp; done) | (simp; omega)) _ | refine Below.drew ?_)), uptoM_step HP.out HM.out H1.out⟩
            case measure => simp [intOf]; omega
          · have HE := Lib.hid (show mchk l = 2 by
              rw [mchk, if_neg (fun h => h HC.out), if_pos]
              intro h
              have : to.length ≤ 64 := h _ (List.mem_of_getElem? HM.out)
              rw [hto.out] at this
              omega)
            have g1 : (64 : Int) < (n' : Int) := by omega
            clear h1
            go_wp2_with fail
            go_ret
            exact ⟨ret_int HE.out.symm, bthen HB.out (by repeat (first | exact Below.refl _ _ | refine Below.alloc ?_ (by first | exact Nat.le_refl _ | (simp; done) | (simp; omega)) _ | refine Below.drew ?_))⟩
        · have e : k = n := by omega
          subst e
          have hlt' : ¬ (k : Int) < (k : Int) := by omega
          have HS := Lib.hid (show SizesOK l from upto_all HP.out HL.out)
          have HB2 := HB
          obtain ⟨n, rfl⟩ : ∃ n : Nat, n = k := ⟨_, rfl⟩
          clear HP HB hk hlt
          go_wp2_with fail
          go_loopw [44] (fun r wr => ∃ k : Nat, k ≤ n ∧ r = .int .i64 (k : Int) ∧ Hid (Below w.heap.size w wr) ∧ Hid (∀ (i : Nat) (m : Mp), i < k → l[i]? = some m → m.tag.size = 0 ∨ nameOK m.tag = true)) (fun r _ => n - (intOf r).toNat)
          case atStart => exact ⟨0, by omega, by go_num, HB2.out, fun i m h => by omega⟩
          case round =>
            obtain ⟨k, hk, rfl, HB, HP⟩ := hrel
            obtain ⟨n, rfl⟩ : ∃ n' : Nat, n' = n := ⟨_, rfl⟩
            obtain ⟨wo, rfl⟩ : ∃ wo : World, wo = wr := ⟨_, rfl⟩
            by_cases hlt : k < n
            · obtain ⟨b, o, rfl⟩ := HR.out.addr (by omega)
              obtain ⟨m, A', n', c', hm, c0, c1, c2, hT, hcap⟩ := RdMp.elt (HR.out.below HB.out) hlt
              obtain ⟨frm, tag, to⟩ := m
              have HM := Lib.hid (show l[k]? = some ⟨frm, tag, to⟩ from hm.out)
              have HT := Lib.hid (show RdI wo A' n' to from hT.out)
              clear hm hT
              have hlt' : (k : Int) < (n : Int) := by omega
              have hsz : tag.toList.isEmpty = decide (tag.size = 0) := bytes_isEmpty tag
              by_cases h0 : tag.size = 0
              · have he : tag.toList.isEmpty = true := hsz.trans (decide_eq_true h0)
                have H0 := Lib.hid h0
                clear hsz h0
                go_wp2_with fail
                go_roundw
                case rel => exact ⟨k + 1, by omega, by go_num, bthen HB.out (by repeat (first | exact Below.refl _ _ | refine Below.alloc ?_ (by first | exact Nat.le_refl _ | (simp; done) | (simp; omega)) _ | refine Below.drew ?_)), uptoM_step HP.out HM.out (.inl H0.out)⟩
                case measure => simp [intOf]; omega
              · have he : tag.toList.isEmpty = false := hsz.trans (decide_eq_false h0)
                cases h1 : nameOK tag
                · have HE := Lib.hid (show mchk l = 6 by
                    rw [mchk, if_neg (fun h => h HC.out), if_neg (fun h => h HS.out), if_pos]
                    intro h
                    rcases h _ (List.mem_of_getElem? HM.out) with h2 | h2
                    · exact h0 h2
                    · rw [show nameOK tag = true from h2] at h1; cases h1)
                  have H1 := Lib.hid h1
                  clear h1 hsz h0
                  go_wp2_with (go_at_call 140; refine (isName_any _ _).mono ?_; rintro e w' ⟨rfl, hb⟩; rw [H1.out]; have HB3 := Lib.hid (bthen (bthen HB.out (by repeat (first | exact Below.refl _ _ | refine Below.alloc ?_ (by first | exact Nat.le_refl _ | (simp; done) | (simp; omega)) _ | refine Below.drew ?_))) hb); clear hb)
                  go_ret
                  exact ⟨ret_int HE.out.symm, HB3.out⟩
                · have H1 := Lib.hid h1
                  clear h1 hsz h0
                  go_wp2_with (go_at_call 140; refine (isName_any _ _).mono ?_; rintro e w' ⟨rfl, hb⟩; rw [H1.out]; have HB3 := Lib.hid (bthen (bthen HB.out (by repeat (first | exact Below.refl _ _ | refine Below.alloc ?_ (by first | exact Nat.le_refl _ | (simp; done) | (simp; omega)) _ | refine Below.drew ?_))) hb); clear hb)
                  go_roundw
                  case rel => exact ⟨k + 1, by omega, by go_num, HB3.out, uptoM_step HP.out HM.out (.inr H1.out)⟩
                  case measure => simp [intOf]; omega
            · have e : k = n := by omega
              subst e
              have hlt' : ¬ (k : Int) < (k : Int) := by omega
              have HN := Lib.hid (show NamesOK l from upto_all HP.out HL.out)
              have HB4 := HB
              obtain ⟨n, rfl⟩ : ∃ n : Nat, n = k := ⟨_, rfl⟩
              obtain ⟨wm, rfl⟩ : ∃ wm : World, wm = wo := ⟨_, rfl⟩
              clear HP HB hk hlt
              have hmm := @run_makeMap Tryz.prog
              have hM0 := Lib.hid (MapAt.made encKy wm)
              go_wp2_with fail
              go_loopw [61] (fun r wr => ∃ (k : Nat) (kv : List ((Int × ByteArray) × Value)), k ≤ n ∧ r = .int .i64 (k : Int) ∧ Hid (Below wm.heap.size wm wr) ∧ Hid (MapAt encKy wm.heap.size kv wr) ∧ Hid (Seen l k kv)) (fun r _ => n - (intOf r).toNat)
              case atStart => exact ⟨0, [], by omega, by go_num, ba _ _, hM0, seen_none l⟩
              case round =>
                obtain ⟨k, kv, hk, rfl, HB, HMp, HK⟩ := hrel
                obtain ⟨n, rfl⟩ : ∃ n' : Nat, n' = n := ⟨_, rfl⟩
                obtain ⟨wo, rfl⟩ : ∃ wo : World, wo = wr := ⟨_, rfl⟩
                have HBw := Lib.hid (bthen HB4.out HB.out)
                by_cases hlt : k < n
                · obtain ⟨b, o, rfl⟩ := HR.out.addr (by omega)
                  obtain ⟨m, A', n', c', hm, c0, c1, c2, hT, hcap⟩ := RdMp.elt (HR.out.below HBw.out) hlt
                  obtain ⟨frm, tag, to⟩ := m
                  have HM := Lib.hid (show l[k]? = some ⟨frm, tag, to⟩ from hm.out)
                  clear hm hT
                  have hlt' : (k : Int) < (n : Int) := by omega
                  have HLk : Hid (∀ W, Below wo.heap.size wo W → (Instr.lookup 156 (.map (some wm.heap.size)) (encKy (frm, tag)) false).run Tryz.prog W = .ok ((look kv (frm, tag)).getD (.bool false)) W) := fun W hb => by
                    have h := (HMp.out.below hb).lookup keyKy (fun a => ⟨a, rfl⟩) encKy_inj Tryz.underlying156 (zeroB W) (frm, tag) false
                    simpa using h
                  have HUp : Hid (∀ W, Below wo.heap.size wo W → ∃ w1, (Instr.mapUpdate 156 (.map (some wm.heap.size)) (encKy (frm, tag)) (.bool true)).run Tryz.prog W = .ok () w1 ∧ MapAt encKy wm.heap.size (put kv (frm, tag) (.bool true)) w1 ∧ w1.heap.size = W.heap.size ∧ W.grownBy w1 (some wm.heap.size)) := fun W hb =>
                    (HMp.out.below hb).update keyKy (fun a => ⟨a, rfl⟩) encKy_inj Tryz.underlying156 (frm, tag) (.bool true)
                  cases h1 : look kv (frm, tag) with
                  | some v =>
                    have hv := HK.out.1.2 _ _ h1
                    subst hv
                    have HE := Lib.hid (show mchk l = 5 by
                      rw [mchk, if_neg (fun h => h HC.out), if_neg (fun h => h HS.out), if_neg (fun h => h HN.out), if_pos]
                      intro h
                      obtain ⟨i, x, hi, hx, e⟩ := (HK.out.1.1 (frm, tag)).1 (by rw [h1]; rfl)
                      simp at e
                      exact h i k x _ hi hx HM.out e)
                    rw [h1] at HLk
                    clear h1 HUp
                    go_wp2_with (at_lookup; refine wpList_lookup_at rfl _ _ _ _ rfl (.map (some wm.heap.size)) (encKy (frm, tag)) (.bool true) rfl rfl (by exact HLk.out _ (by repeat (first | exact Below.refl _ _ | refine Below.alloc ?_ (by first | exact Nat.le_refl _ | (simp; done) | (simp; omega)) _ | refine Below.drew ?_))) ?_)
                    go_ret
                    exact ⟨ret_int HE.out.symm, bthen HBw.out (by repeat (first | exact Below.refl _ _ | refine Below.alloc ?_ (by first | exact Nat.le_refl _ | (simp; done) | (simp; omega)) _ | refine Below.drew ?_))⟩
                  | none =>
                    rw [h1] at HLk
                    have H1 := Lib.hid h1
                    clear h1
                    go_wp2_with (first | (at_lookup; refine wpList_lookup_at rfl _ _ _ _ rfl (.map (some wm.heap.size)) (encKy (frm, tag)) (.bool false) rfl rfl (by exact HLk.out _ (by repeat (first | exact Below.refl _ _ | refine Below.alloc ?_ (by first | exact Nat.le_refl _ | (simp; done) | (simp; omega)) _ | refine Below.drew ?_))) ?_) | (at_mapUpdate; refine wpList_update_ex rfl _ _ _ _ rfl (.map (some wm.heap.size)) (encKy (frm, tag)) (.bool true) rfl rfl rfl _ (HUp.out _ (by exact (by repeat (first | exact Below.refl _ _ | refine Below.alloc ?_ (by first | exact Nat.le_refl _ | (simp; done) | (simp; omega)) _ | refine Below.drew ?_)))) ?_; rintro w5 ⟨hM5, hz5, hg5⟩; have HM5 := Lib.hid hM5; have HB5 := Lib.hid ((HB.out.trans (show Below wm.heap.size wo _ from (Below.mono (by repeat (first | exact Below.refl _ _ | refine Below.alloc ?_ (by first | exact Nat.le_refl _ | (simp; done) | (simp; omega)) _ | refine Below.drew ?_)) HB.out.size))).grown hg5 (by have := HB.out.size; simp; omega) (fun r e => by cases e; exact Nat.le_refl _)); clear hM5 hz5 hg5))
                    go_roundw
                    case rel => exact ⟨k + 1, put kv (frm, tag) (.bool true), by omega, by go_num, HB5.out, HM5.out, seen_step HK.out HM.out H1.out⟩
                    case measure => simp [intOf]; omega
                · have e : k = n := by omega
                  subst e
                  have hlt' : ¬ (k : Int) < (k : Int) := by omega
                  have HE := Lib.hid (show mchk l = 0 by
                    rw [mchk, if_neg (fun h => h HC.out), if_neg (fun h => h HS.out), if_neg (fun h => h HN.out), if_neg (fun h => h (seen_once HK.out HL.out))])
                  go_wp2_with fail
                  go_ret
                  exact ⟨ret_int HE.out.symm, HBw.out⟩
end Go.Proofs.YtfeofhinpgodoaaGreatDoor

namespace Go.Proofs.YtfeofhinpgodoaaGreatDoor
open Go.RowKit Go.Shelf

def SortedM (l : List Mp) : Prop := ∀ (j : Nat) (a b : Mp), l[j]? = some a → l[j + 1]? = some b → 0 ≤ ordM b a

set_option maxRecDepth 100000 in
set_option maxHeartbeats 4000000 in
theorem isSorted_any (A : Option Addr) (n c : Nat) (l : List Mp) (w : World) (hR : RdMp w A n l) :
    Calls Tryz.prog 110 #[.slice A n c, .func (.func 111) #[] #[]] w (YesPost (SortedM l) w) := by
  have hn := hR.bd
  have HL := Lib.hid hR.len
  have HR := Lib.hid hR
  clear hR
  have he' : ∀ args w, (callFunc 111 args).run Tryz.prog w = .ok (.enter 111 args) w := enters_of Tryz.func111 (by kernel_rfl) rfl
  have gn : IntKind.i64.wrap ((n : Int) - 1) = (n : Int) - 1 := IntWalk.i64_in _ (by omega)
  go_enter Tryz.func110, Tryz.ntmps110
  go_wp2_with fail
  go_loopw [5] (fun r wr => ∃ i : Int, -1 ≤ i ∧ i ≤ (n : Int) - 1 ∧ r = .int .i64 i ∧ Hid (Below w.heap.size w wr) ∧ Hid (∀ (j : Nat) (a b : Mp), i ≤ (j : Int) → l[j]? = some a → l[j + 1]? = some b → 0 ≤ ordM b a)) (fun r _ => (intOf r + 1).toNat)
  case atStart => exact ⟨(n : Int) - 1, by omega, by omega, rfl, Below.refl _ _, fun j a b h _ hb => by have := (List.getElem?_eq_some_iff.1 hb).1; have := HL.out; omega⟩
  case round =>
    obtain ⟨i, hi1, hi2, rfl, HB, HP⟩ := hrel
    obtain ⟨wo, rfl⟩ : ∃ wo : World, wo = wr := ⟨_, rfl⟩
    by_cases hlt : 0 < i
    · obtain ⟨k, rfl⟩ : ∃ k : Nat, i = (k : Int) + 1 := ⟨(i - 1).toNat, by omega⟩
      obtain ⟨b, o, rfl⟩ := HR.out.addr (by omega)
      obtain ⟨x, Ax, nx, cx, hx, cx0, cx1, cx2, _, _⟩ := RdMp.elt (HR.out.below HB.out) (show k + 1 < n by omega)
      obtain ⟨y, Ay, ny, cy, hy, cy0, cy1, cy2, _, _⟩ := RdMp.elt (HR.out.below HB.out) (show k < n by omega)
      have HX := Lib.hid (show l[k + 1]? = some x from hx.out)
      have HY := Lib.hid (show l[k]? = some y from hy.out)
      clear hx hy
      have g1 : (k : Int) + 1 < (n : Int) := by omega
      have g2 : (k : Int) < (n : Int) := by omega
      have g3 : (0 : Int) ≤ (k : Int) + 1 := by omega
      have g4 : IntKind.i64.wrap (k : Int) = (k : Int) := IntWalk.i64_in _ (by omega)
      have g5 : ((k : Int) + 1).toNat = k + 1 := by omega
      by_cases hord : ordM x y < 0
      · go_wp2_with fail
        refine still_tail_drew 10 (by kernel_rfl) (by kernel_rfl) ?_
        simp only [List.take_succ_cons, List.take_zero, List.drop_succ_cons, List.drop_zero]
        repeat still_step
        try refine wpStill_nil ?_
        go_wp2_with (go_at_call 111; refine (order_any x y Ax Ay nx cx ny cy _).mono ?_; rintro e w1 ⟨rfl, hb⟩; have HB1 := Lib.hid (bthen HB.out.drew hb); clear hb)
        go_ret
        exact ⟨false, rfl, ⟨nofun, fun h => by have := h k y x HY.out HX.out; omega⟩, HB1.out⟩
      · go_wp2_with fail
        refine still_tail_drew 10 (by kernel_rfl) (by kernel_rfl) ?_
        simp only [List.take_succ_cons, List.take_zero, List.drop_succ_cons, List.drop_zero]
        repeat still_step
        try refine wpStill_nil ?_
        go_wp2_with (go_at_call 111; refine (order_any x y Ax Ay nx cx ny cy _).mono ?_; rintro e w1 ⟨rfl, hb⟩; have HB1 := Lib.hid (bthen HB.out.drew hb); clear hb)
        have HO := Lib.hid (show 0 ≤ ordM x y by omega)
        go_roundw
        case rel =>
          refine ⟨(k : Int), by omega, by omega, by go_num, HB1.out, fun j a b hj ha hb => ?_⟩
          rcases Int.lt_or_le (k : Int) (j : Int) with h1 | h1
          · exact HP.out j a b (by omega) ha hb
          · obtain rfl : j = k := by omega
            rw [HY.out] at ha; cases ha
            rw [HX.out] at hb; cases hb
            exact HO.out
        case measure => simp [intOf]; try omega
    · go_wp2_with fail
      go_ret
      exact ⟨true, rfl, ⟨fun _ j a b ha hb => HP.out j a b (by omega) ha hb, fun _ => rfl⟩, HB.out⟩

open Classical in
/-- The first error of mappings. -/
noncomputable def mapE (l : List Mp) : Int := if mchk l ≠ 0 then mchk l else if SortedM l then 0 else 4

set_option maxHeartbeats 1000000 in
theorem mapCheck_any (A : Option Addr) (n c : Nat) (l : List Mp) (w : World) (hR : RdMp w A n l) :
    Calls Tryz.prog 77 #[.slice A n c] w fun e w' => e = .returned (.int .i64 (mapE l)) ∧ Below w.heap.size w w' := by
  have HR := Lib.hid hR
  clear hR
  by_cases h0 : mchk l = 0
  · have HE := Lib.hid (show SortedM l → mapE l = 0 from fun h => by rw [mapE, if_neg (fun k => k h0), if_pos h])
    have HF := Lib.hid (show ¬ SortedM l → mapE l = 4 from fun h => by rw [mapE, if_neg (fun k => k h0), if_neg h])
    go_enter Tryz.func77, Tryz.ntmps77
    go_wp2_with (go_at_call 109; refine (check1_any _ _ _ l _ HR.out).mono ?_; rintro e w1 ⟨rfl, hb⟩; rw [h0]; have HB := Lib.hid hb; clear hb)
    refine (isSorted_any _ _ _ l _ (HR.out.below HB.out)).mono ?_
    rintro e w2 ⟨r, rfl, hr, hb⟩
    have HB2 := Lib.hid (bthen HB.out hb)
    clear hb
    cases r
    · have HZ := Lib.hid (HF.out (fun h => by have := hr.2 h; cases this))
      clear hr
      go_wp2_with fail
      go_ret
      exact ⟨ret_int HZ.out.symm, HB2.out⟩
    · have HZ := Lib.hid (HE.out (hr.1 rfl))
      clear hr
      go_wp2_with fail
      go_ret
      exact ⟨ret_int HZ.out.symm, HB2.out⟩
  · have HE := Lib.hid (show mapE l = mchk l from by rw [mapE, if_pos h0])
    have h0' := bne_iff_ne.2 h0
    clear h0
    go_enter Tryz.func77, Tryz.ntmps77
    go_wp2_with (go_at_call 109; refine (check1_any _ _ _ l _ HR.out).mono ?_; rintro e w1 ⟨rfl, hb⟩)
    go_ret
    exact ⟨ret_int HE.out.symm, hb⟩
end Go.Proofs.YtfeofhinpgodoaaGreatDoor

namespace Go.Proofs.YtfeofhinpgodoaaGreatDoor
open Go.RowKit Go.Shelf Go.Sort

section
variable {α : Type} [Inhabited α] {enc : α → List Value} {k : Nat}
theorem holdsK_own (hk : ∀ x, (enc x).length = k) (hk0 : 0 < k) {w : World} {base : Nat} {e : TypeId} {g n cap : Nat} {xs : List α} (h : w.ownsRow base e k (.slice (some ⟨g, 0, none⟩) n cap) n (xs.flatMap enc)) (hl : xs.length = n) : HoldsK enc k w g 0 xs.toArray := by
  intro t ht
  rw [size_flatK] at ht
  have ht2 : t < xs.length * k := by simpa using ht
  have hi : t / k < xs.length := (Nat.div_lt_iff_lt_mul hk0).2 ht2
  have hj : t % k < k := Nat.mod_lt _ hk0
  refine ⟨?_, by have := h.frozenAt t; simpa using this⟩
  rw [Nat.zero_add, h.cellAt t (by rw [← hl]; exact ht2)]
  have e1 : t = t / k * k + t % k := (Nat.div_add_mod' t k).symm
  have e2 := flat_at hk xs (t / k) (t % k) hi hj
  rw [← e1] at e2
  rw [e2, get_flatK enc k xs.toArray t (by simpa using ht2)]
  have e3 : xs.toArray[t / k]! = xs[t / k] := by rw [getElem!_pos xs.toArray (t / k) (by simpa using hi)]; simp
  rw [e3, List.getElem?_eq_getElem (by rw [hk]; exact hj), getElem!_pos (enc xs[t / k]) (t % k) (by rw [hk]; exact hj)]
  rfl
theorem sortWorldK_below {base blk off n : Nat} {w : World} {dk : Array α} {os : Array Obj} (hb : base ≤ blk) (hsz : blk < w.heap.size) : RowKit.Below base w (sortWorldK enc k w blk off n dk os) := by
  refine ⟨rfl, rfl, rfl, ?_, fun i hi => ?_⟩
  · simp [sortWorldK, grow, putRowK, putRow, mapBlock, Sort.ahead]
  · have h1 : i < w.heap.size := by omega
    have h2 : ¬ blk = i := by omega
    simp only [sortWorldK, grow, putRowK, putRow, mapBlock, Sort.ahead]
    rw [Array.getElem?_append_left (by simpa using h1), Array.getElem?_modify, if_neg h2]
theorem rd_holdsK (hk : ∀ x, (enc x).length = k) {w : World} {blk : Nat} {d : Array α} (h : HoldsK enc k w blk 0 d) (hn : d.size ≤ 17592186044416) : Rd enc k w (some ⟨blk, 0, none⟩) d.size d.toList := by
  refine ⟨by simp, hn, fun _ => ⟨blk, 0, rfl, fun i hi j u hu => ?_⟩⟩
  have hi' : i < d.size := by simpa using hi
  have := HoldsK.cells h hk hi' j u (by rw [getElem!_pos d i hi']; simpa using hu)
  rwa [Addr.add_lit] at this
end

theorem encRg_one (x : Rg) : ∀ v ∈ encRg x, v.oneCell' = true := fun v hv => by
  simp [encRg] at hv
  rcases hv with rfl | rfl <;> rfl
theorem ltLo (x y : Rg) : ltOf (fun x y : Rg => cmp3 x.lo y.lo) x y = decide (x.lo < y.lo) := by
  unfold ltOf cmp3
  by_cases h1 : x.lo < y.lo
  · simp [h1]
  · by_cases h2 : y.lo < x.lo <;> simp [h1, h2]
theorem swoLo : SWO (ltOf fun x y : Rg => cmp3 x.lo y.lo) where
  irrefl x := by rw [ltLo]; simp
  trans x y z h1 h2 := by rw [ltLo] at *; simp at *; omega
  ntrans x y z h1 h2 := by rw [ltLo] at *; simp at *; omega

set_option maxHeartbeats 1000000 in
theorem make1_any (x y : Rg) (W : World) : Calls Tryz.prog 74 #[.agg #[.int .i64 x.lo, .int .i64 x.hi], .agg #[.int .i64 y.lo, .int .i64 y.hi]] W fun e w' => e = .returned (.int .i64 (cmp3 x.lo y.lo)) ∧ ∃ q os', w' = grow (W.drewN q) os' := by
  go_enter Tryz.func74, Tryz.ntmps74
  go_wp2_with (go_at_call 41; refine (compare_any _ _ _).mono ?_; rintro e w' ⟨rfl, rfl⟩)
  go_ret
  exact ⟨rfl, 0, _, by rw [alloc_eq_grow, alloc_eq_grow, grow_grow]; rfl⟩

/-- Sorted by the lower ends. -/
def LoAsc (ys : List Rg) : Prop := ∀ (i j : Nat) (a b : Rg), i < j → ys[i]? = some a → ys[j]? = some b → a.lo ≤ b.lo

set_option maxHeartbeats 1000000 in
theorem sortRg_any (base g n cap : Nat) (xs : List Rg) (w : World) (h : w.ownsRow base 77 2 (.slice (some ⟨g, 0, none⟩) n cap) n (xs.flatMap encRg)) (hl : xs.length = n) (hb : base ≤ g) (hg : g < w.heap.size) (hn : n ≤ 17592186044416) :
    Calls Tryz.prog 73 #[.slice (some ⟨g, 0, none⟩) n cap, .func (.func 74) #[] #[]] w fun e w' =>
      e = .returned (.tuple #[]) ∧ ∃ ys : List Rg, ys.Perm xs ∧ LoAsc ys ∧ RdRg w' (some ⟨g, 0, none⟩) n ys ∧ RowKit.Below base w w' := by
  have hH := holdsK_own encRg_len (by omega) h hl
  have hd : xs.toArray.size = n := by simpa using hl
  have eg : ∀ args w, (callFunc 74 args).run Tryz.prog w = .ok (.enter 74 args) w := enters_of Tryz.func74 (by kernel_rfl) rfl
  have hcon := AnyQ.slices_SortFunc Tryz.sortRg 2 Tryz.isAgg77 Tryz.sizeOf77 encRg encRg_len encRg_one (fun x y => cmp3 x.lo y.lo) swoLo 74 #[] g 0 cap xs.toArray w eg (fun _ _ _ _ x y => make1_any x y _) hH hg (by rw [hd]; omega)
  rw [hd] at hcon
  refine hcon.mono fun e w' ⟨he, d', m, os, hp, hs, hw⟩ => ⟨he, d'.toList, ?_, ?_, ?_, ?_⟩
  · have := hp.2.2
    rw [Array.extract_eq_self_of_le (by rw [hp.1, hd]; exact Nat.le_refl _), Array.extract_eq_self_of_le (by rw [hd]; exact Nat.le_refl _)] at this
    simpa using this
  · intro i j a b hij ha hb'
    have hsz : d'.size = n := by rw [hp.1, hd]
    have hj : j < d'.size := by have := (List.getElem?_eq_some_iff.1 hb').1; simpa using this
    have h1 := hs i j (Nat.zero_le _) hij (by rw [← hsz]; exact hj)
    have ea : d'[i]! = a := by rw [getElem!_pos d' i (by omega)]; rw [List.getElem?_eq_getElem (by simpa using (show i < d'.size by omega))] at ha; simpa using ha
    have eb : d'[j]! = b := by rw [getElem!_pos d' j hj]; rw [List.getElem?_eq_getElem (by simpa using hj)] at hb'; simpa using hb'
    rw [ea, eb, ltLo] at h1
    have := of_decide_eq_false h1
    omega
  · have h1 := holdsK_sortWorldK encRg 2 w g 0 m xs.toArray d' os hg hH hp.1
    rw [hw]
    have h2 := rd_holdsK encRg_len h1 (by rw [hp.1, hd]; exact hn)
    have : d'.size = n := by rw [hp.1, hd]
    rwa [this] at h2
  · rw [hw]
    exact sortWorldK_below hb hg
end Go.Proofs.YtfeofhinpgodoaaGreatDoor

namespace Go.Proofs.YtfeofhinpgodoaaGreatDoor

def InR (c : Int) (l : List Rg) : Prop := ∃ r ∈ l, r.lo ≤ c ∧ c ≤ r.hi
def OkR (r : Rg) : Prop := 0 ≤ r.lo ∧ r.lo ≤ r.hi ∧ r.hi ≤ 1114111
/-- Valid ranges that ascend with gaps. -/
def Canon : List Rg → Prop
  | [] => True
  | r :: t => OkR r ∧ (∀ s ∈ t, r.hi + 1 < s.lo) ∧ Canon t
theorem Canon.ext : ∀ (a b : List Rg), Canon a → Canon b → (∀ c, InR c a ↔ InR c b) → a = b
  | [], [], _, _, _ => rfl
  | [], y :: b, _, hb, h => by
    obtain ⟨r, hr, _⟩ := (h y.lo).2 ⟨y, by simp, by omega, hb.1.2.1⟩
    cases hr
  | x :: a, [], ha, _, h => by
    obtain ⟨r, hr, _⟩ := (h x.lo).1 ⟨x, by simp, by omega, ha.1.2.1⟩
    cases hr
  | x :: a, y :: b, ha, hb, h => by
    obtain ⟨a1, a2, a3⟩ := ha
    obtain ⟨b1, b2, b3⟩ := hb
    unfold OkR at a1 b1
    have lo1 : y.lo ≤ x.lo := by
      obtain ⟨r, hr, h1, _⟩ := (h x.lo).1 ⟨x, by simp, by omega, a1.2.1⟩
      rcases List.mem_cons.1 hr with rfl | hr
      · exact h1
      · have := b2 r hr; omega
    have lo2 : x.lo ≤ y.lo := by
      obtain ⟨r, hr, h1, _⟩ := (h y.lo).2 ⟨y, by simp, by omega, b1.2.1⟩
      rcases List.mem_cons.1 hr with rfl | hr
      · exact h1
      · have := a2 r hr; omega
    have hi1 : y.hi ≤ x.hi := by
      rcases Int.lt_or_le x.hi y.hi with h1 | h1
      · obtain ⟨r, hr, h2, h3⟩ := (h (x.hi + 1)).2 ⟨y, by simp, by omega, by omega⟩
        rcases List.mem_cons.1 hr with rfl | hr
        · omega
        · have := a2 r hr; omega
      · exact h1
    have hi2 : x.hi ≤ y.hi := by
      rcases Int.lt_or_le y.hi x.hi with h1 | h1
      · obtain ⟨r, hr, h2, h3⟩ := (h (y.hi + 1)).1 ⟨x, by simp, by omega, by omega⟩
        rcases List.mem_cons.1 hr with rfl | hr
        · omega
        · have := b2 r hr; omega
      · exact h1
    have e : x = y := by
      obtain ⟨xl, xh⟩ := x
      obtain ⟨yl, yh⟩ := y
      simp at lo1 lo2 hi1 hi2
      rw [show xl = yl by omega, show xh = yh by omega]
    subst e
    rw [Canon.ext a b a3 b3 fun c => ?_]
    constructor
    · rintro ⟨r, hr, h1, h2⟩
      obtain ⟨s, hs, h3, h4⟩ := (h c).1 ⟨r, by simp [hr], h1, h2⟩
      rcases List.mem_cons.1 hs with rfl | hs
      · have := a2 r hr; omega
      · exact ⟨s, hs, h3, h4⟩
    · rintro ⟨r, hr, h1, h2⟩
      obtain ⟨s, hs, h3, h4⟩ := (h c).2 ⟨r, by simp [hr], h1, h2⟩
      rcases List.mem_cons.1 hs with rfl | hs
      · have := b2 r hr; omega
      · exact ⟨s, hs, h3, h4⟩

def clip1 (r : Rg) : List Rg := if max r.lo 0 ≤ min r.hi 1114111 then [⟨max r.lo 0, min r.hi 1114111⟩] else []
def clip (l : List Rg) : List Rg := l.flatMap clip1
theorem clip_ok {l : List Rg} : ∀ r ∈ clip l, OkR r := by
  intro r hr
  obtain ⟨s, _, h⟩ := List.mem_flatMap.1 hr
  unfold clip1 at h
  split at h
  · simp at h; subst h; unfold OkR; simp; omega
  · cases h
theorem clip_id : ∀ {l : List Rg}, Canon l → clip l = l
  | [], _ => rfl
  | r :: t, h => by
    have h1 := h.1
    unfold OkR at h1
    have e1 : max r.lo 0 = r.lo := by omega
    have e2 : min r.hi 1114111 = r.hi := by omega
    show clip1 r ++ clip t = _
    rw [clip_id h.2.2, clip1, e1, e2, if_pos h1.2.1]; rfl
theorem clip_step {l : List Rg} {k : Nat} {r : Rg} (h : l[k]? = some r) : clip (l.take (k + 1)) = clip (l.take k) ++ clip1 r := by
  rw [List.take_add_one, h]
  simp [clip, List.flatMap_append]

/-- One range more, behind those that start no later: joined to the last one, or new. -/
def mrg (o : List Rg) (r : Rg) : List Rg :=
  match o.getLast? with
  | some z => if r.lo ≤ z.hi + 1 then o.dropLast ++ [⟨z.lo, max z.hi r.hi⟩] else o ++ [r]
  | none => [r]
theorem Canon.snoc : ∀ {o : List Rg} {z : Rg}, Canon (o ++ [z]) ↔ Canon o ∧ OkR z ∧ ∀ s ∈ o, s.hi + 1 < z.lo
  | [], z => by simp [Canon]
  | r :: t, z => by
    have ih := @Canon.snoc t z
    simp only [List.cons_append, Canon, ih, List.mem_append, List.mem_cons, List.not_mem_nil, or_false]
    constructor
    · rintro ⟨h1, h2, h3, h4, h5⟩
      exact ⟨⟨h1, fun s hs => h2 s (.inl hs), h3⟩, h4, fun s hs => hs.elim (fun e => by subst e; exact h2 z (.inr rfl)) (h5 s)⟩
    · rintro ⟨⟨h1, h2, h3⟩, h4, h5⟩
      exact ⟨h1, fun s hs => hs.elim (h2 s) (fun e => by subst e; exact h5 r (.inl rfl)), h3, h4, fun s hs => h5 s (.inr hs)⟩
theorem inR_snoc {c : Int} {o : List Rg} {z : Rg} : InR c (o ++ [z]) ↔ InR c o ∨ (z.lo ≤ c ∧ c ≤ z.hi) := by
  constructor
  · rintro ⟨r, hr, h⟩
    rcases List.mem_append.1 hr with hr | hr
    · exact .inl ⟨r, hr, h⟩
    · simp at hr; subst hr; exact .inr h
  · rintro (⟨r, hr, h⟩ | h)
    · exact ⟨r, by simp [hr], h⟩
    · exact ⟨z, by simp, h⟩
theorem mrg_spec {o : List Rg} {r : Rg} (hc : Canon o) (hr : OkR r) (hl : ∀ s ∈ o, s.lo ≤ r.lo) : Canon (mrg o r) ∧ (∀ c, InR c (mrg o r) ↔ InR c o ∨ (r.lo ≤ c ∧ c ≤ r.hi)) ∧ ∀ s ∈ mrg o r, s.lo ≤ r.lo := by
  unfold mrg
  rcases List.eq_nil_or_concat o with rfl | ⟨o', z, rfl⟩
  · refine ⟨by simp [Canon, hr], fun c => ?_, by simp⟩
    simp [InR]
  · have hz := hl z (by simp)
    rw [List.concat_eq_append] at *
    have hcz := (Canon.snoc.1 hc)
    simp only [List.getLast?_append, List.getLast?_singleton, Option.some_or, List.dropLast_concat]
    have ho := hcz.2.1
    unfold OkR at ho hr
    by_cases h1 : r.lo ≤ z.hi + 1
    · rw [if_pos h1]
      refine ⟨Canon.snoc.2 ⟨hcz.1, by unfold OkR; simp; omega, hcz.2.2⟩, fun c => ?_, fun s hs => ?_⟩
      · rw [inR_snoc, inR_snoc]
        constructor
        · rintro (h | ⟨h2, h3⟩)
          · exact .inl (.inl h)
          · have h2 : z.lo ≤ c := h2
            have h3 : c ≤ max z.hi r.hi := h3
            rcases Int.lt_or_le z.hi c with h4 | h4
            · exact .inr ⟨by omega, by omega⟩
            · exact .inl (.inr ⟨h2, h4⟩)
        · rintro ((h | ⟨h2, h3⟩) | ⟨h2, h3⟩)
          · exact .inl h
          · exact .inr ⟨h2, by show c ≤ max z.hi r.hi; omega⟩
          · exact .inr ⟨by show z.lo ≤ c; omega, by show c ≤ max z.hi r.hi; omega⟩
      · rcases List.mem_append.1 hs with hs | hs
        · exact hl s (by simp [hs])
        · simp at hs; subst hs; exact hz
    · rw [if_neg h1]
      refine ⟨Canon.snoc.2 ⟨hc, hr, fun s hs => ?_⟩, fun c => inR_snoc, fun s hs => ?_⟩
      · rcases List.mem_append.1 hs with hs | hs
        · have := hcz.2.2 s hs; omega
        · simp at hs; subst hs; omega
      · rcases List.mem_append.1 hs with hs | hs
        · exact hl s hs
        · simp at hs; subst hs; exact Int.le_refl _
/-- What the merging loop keeps. -/
def Mrgd (ys : List Rg) (k : Nat) (o : List Rg) : Prop := Canon o ∧ (∀ c, InR c o ↔ InR c (ys.take k)) ∧ ∀ s ∈ o, ∀ (j : Nat) (r : Rg), k ≤ j → ys[j]? = some r → s.lo ≤ r.lo
theorem Mrgd.start (ys : List Rg) : Mrgd ys 0 [] := ⟨trivial, fun c => by simp [InR], fun s hs => by cases hs⟩
theorem Mrgd.step {ys o : List Rg} {k : Nat} {r : Rg} (h : Mrgd ys k o) (hr : ys[k]? = some r) (hok : ∀ s ∈ ys, OkR s) (ha : LoAsc ys) : Mrgd ys (k + 1) (mrg o r) := by
  obtain ⟨h1, h2, h3⟩ := h
  obtain ⟨k1, k2, k3⟩ := mrg_spec h1 (hok r (List.mem_of_getElem? hr)) fun s hs => h3 s hs k r (Nat.le_refl _) hr
  refine ⟨k1, fun c => ?_, fun s hs j x hj hx => ?_⟩
  · rw [k2, h2, List.take_add_one, hr]
    exact inR_snoc.symm
  · exact Int.le_trans (k3 s hs) (ha k j r x (by omega) hr hx)
/-- What cpset.Make gives for a list of ranges: the one canonical list with the same elements. -/
def IsSet (l o : List Rg) : Prop := Canon o ∧ ∀ c, InR c o ↔ InR c (clip l)
theorem IsSet.uniq {l o o' : List Rg} (h : IsSet l o) (h' : IsSet l o') : o = o' := Canon.ext o o' h.1 h'.1 fun c => (h.2 c).trans (h'.2 c).symm
theorem IsSet.self {l : List Rg} (h : Canon l) : IsSet l l := ⟨h, fun c => by rw [clip_id h]⟩
theorem Mrgd.set {l ys o : List Rg} {k : Nat} (h : Mrgd ys k o) (hk : ys.length = k) (hp : ys.Perm (clip l)) : IsSet l o := by
  refine ⟨h.1, fun c => ?_⟩
  rw [h.2.1 c, List.take_of_length_le (by omega)]
  constructor
  · rintro ⟨r, hr, h1⟩; exact ⟨r, hp.mem_iff.1 hr, h1⟩
  · rintro ⟨r, hr, h1⟩; exact ⟨r, hp.mem_iff.2 hr, h1⟩
end Go.Proofs.YtfeofhinpgodoaaGreatDoor

namespace Go.Proofs.YtfeofhinpgodoaaGreatDoor
open Go.RowKit Go.Shelf

/-- A set in memory. -/
def SetPost (Q : List Rg → Prop) (w : World) (e : Ending) (w' : World) : Prop := ∃ A n c o, RdRg w' A n o ∧ Q o ∧ e = .returned (.agg #[.slice A n c]) ∧ RowKit.Below w.heap.size w w'

set_option maxRecDepth 100000 in
set_option maxHeartbeats 2000000 in
theorem sortNil_any (g : FuncId) (w : World) :
    Calls Tryz.prog 73 #[.slice none 0 0, .func (.func g) #[] #[]] w fun e w' => e = .returned (.tuple #[]) ∧ RowKit.Below w.heap.size w w' := by
  have pdq : ∀ (l : Int) (W : World), Calls Tryz.prog 102 #[.slice none 0 0, .int .i64 0, .int .i64 0, .int .i64 l, .func (.func g) #[] #[]] W fun e w' => e = .returned (.tuple #[]) ∧ RowKit.Below W.heap.size W w' := by
    intro l W
    have ins : ∀ W : World, Calls Tryz.prog 128 #[.slice none 0 0, .int .i64 0, .int .i64 0, .func (.func g) #[] #[]] W fun e w' => e = .returned (.tuple #[]) ∧ RowKit.Below W.heap.size W w' := by
      intro W
      go_enter Tryz.func128, Tryz.ntmps128
      go_wp2_with fail
      refine wp_loop_rounds 2 ?_; rw [rounds_succ]
      go_wp2_with fail
      go_end0
      exact ⟨rfl, RowKit.Below.refl _ _⟩
    go_enter Tryz.func102, Tryz.ntmps102
    go_wp2_with fail
    refine wp_loop_rounds 2 ?_; rw [rounds_succ]
    go_wp2_with fail
    refine (ins _).mono ?_
    rintro e w1 ⟨rfl, hb⟩
    go_wp2_with fail
    refine bodyPost_ret (results_none rfl _ _ _) rfl ?_
    exact ⟨rfl, hb⟩
  go_enter Tryz.func73, Tryz.ntmps73
  go_wp2_with (go_at_call 61; refine (Tryz.bits_Len 0 _ (by omega) (by omega)).mono ?_; rintro e w' ⟨rfl, rfl⟩)
  refine (pdq _ _).mono ?_
  rintro e w1 ⟨rfl, hb⟩
  go_wp2_with fail
  go_end0
  exact ⟨rfl, hb⟩

/-- Sorting what has been gathered, nothing too. -/
theorem sortGot_any (base m : Nat) (s : Value) (xs : List Rg) (w : World) (h : w.ownsRow base 77 2 s m (xs.flatMap encRg)) (hl : xs.length = m) (hz : m = 0 → s = .slice none 0 0) (hbase : base ≤ w.heap.size) (hn : m ≤ 17592186044416) :
    Calls Tryz.prog 73 #[s, .func (.func 74) #[] #[]] w fun e w' =>
      e = .returned (.tuple #[]) ∧ ∃ A2 c2 ys, s = .slice A2 m c2 ∧ ys.Perm xs ∧ LoAsc ys ∧ RdRg w' A2 m ys ∧ RowKit.Below base w w' := by
  cases m with
  | zero =>
    obtain rfl := hz rfl
    obtain rfl := List.eq_nil_of_length_eq_zero hl
    exact (sortNil_any _ w).mono fun e w' ⟨he, hb⟩ => ⟨he, none, 0, [], rfl, List.Perm.refl _, fun i j a b _ h => by simp at h, Rd.nil, hb.mono hbase⟩
  | succ m =>
    obtain ⟨g, cap, rfl, hg1, hg2⟩ := h.form (by omega)
    exact (sortRg_any base g (m + 1) cap xs w h hl hg1 hg2 hn).mono fun e w' ⟨he, ys, h1, h2, h3, h4⟩ => ⟨he, _, cap, ys, rfl, h1, h2, h3, h4⟩

set_option maxRecDepth 100000 in
set_option maxHeartbeats 8000000 in
theorem makeSet_any (A : Option Addr) (n c : Nat) (l : List Rg) (w : World) (hR : RdRg w A n l) (hbig : n ≤ 1000000) :
    Calls Tryz.prog 53 #[.slice A n c] w (SetPost (IsSet l) w) := by
  have HR := Lib.hid hR
  have HL := Lib.hid hR.len
  clear hR
  obtain ⟨W0, hW0⟩ : ∃ W0, W0 = w.alloc (.cells #[.slice none 0 0] 26) := ⟨_, rfl⟩
  have HW0 := Lib.hid hW0
  have HBW := Lib.hid (show RowKit.Below w.heap.size w W0 by rw [hW0]; exact (RowKit.Below.refl _ _).alloc (Nat.le_refl _) _)
  have hsz0 : W0.heap.size = w.heap.size + 1 := by rw [hW0]; simp
  have HS0 := Lib.hid hsz0
  clear hsz0
  go_enter Tryz.func53, Tryz.ntmps53
  go_wp2_with fail
  rw [← hW0]
  clear hW0
  go_loopw [3, 12] (fun s r wr => ∃ (k m : Nat) (o : List Rg), k ≤ n ∧ m ≤ k ∧ r = .int .i64 (k : Int) ∧ Hid (wr.ownsRow W0.heap.size 77 2 s m (o.flatMap encRg)) ∧ Hid (o.length = m) ∧ Hid (o = clip (l.take k)) ∧ Hid (m = 0 → s = .slice none 0 0) ∧ Hid (RowKit.Below W0.heap.size W0 wr))
    (fun _ r _ => n - (intOf r).toNat)
  case atStart => exact ⟨0, 0, [], by omega, by omega, by go_num, World.ownsRow_nil _ _ _ _, rfl, rfl, fun _ => rfl, RowKit.Below.refl _ _⟩
  case round =>
    obtain ⟨k, m, o, hk, hmk, rfl, HO, HOl, HP, HZ, HB⟩ := hrel
    obtain ⟨wo, rfl⟩ : ∃ wo : World, wo = wr := ⟨_, rfl⟩
    have HBw := Lib.hid (HBW.out.trans (HB.out.mono HBW.out.size))
    by_cases hlt : k < n
    · obtain ⟨b, off, rfl⟩ := HR.out.addr (by omega)
      obtain ⟨lo, hi, hx, c0, c1⟩ := RdRg.elt (HR.out.below HBw.out) hlt
      have HX := Lib.hid (show l[k]? = some ⟨lo, hi⟩ from hx.out)
      clear hx
      have hlt' : (k : Int) < (n : Int) := by omega
      by_cases hc : max lo 0 ≤ min hi 1114111
      · have HC := Lib.hid (show clip1 ⟨lo, hi⟩ = [⟨max lo 0, min hi 1114111⟩] by rw [clip1, if_pos hc])
        have hgl := HB.out.size
        go_wp2_with (at_builtin; refine wpList_append_rgs rfl _ _ rfl W0.heap.size _ m o rfl ((HO.out.alloc _).alloc _) (some ⟨wo.heap.size + 1, 0, none⟩) 1 1 [⟨max lo 0, min hi 1114111⟩] rfl (by exact litRg _ _ _ _ _ _ (by simp) rfl (by omega) rfl) (by omega) (by simp; omega) ?_; intro v2 w2 hown hbel; have HO2 := Lib.hid hown; have HB2 := Lib.hid ((HB.out.trans (show RowKit.Below W0.heap.size wo _ from (RowKit.Below.mono (by repeat (first | exact RowKit.Below.refl _ _ | refine RowKit.Below.alloc ?_ (by first | exact Nat.le_refl _ | (simp; done) | (simp; omega)) _ | refine RowKit.Below.drew ?_)) hgl))).trans hbel); clear hown hbel)
        go_roundw
        case rel => exact ⟨k + 1, m + 1, o ++ [Rg.mk (max lo 0) (min hi 1114111)], by omega, by omega, by go_num, HO2.out, by show (o ++ [_]).length = _; rw [List.length_append, HOl.out]; rfl, by show o ++ _ = _; rw [clip_step HX.out, HC.out, HP.out], fun h => by omega, HB2.out⟩
        case measure => simp [intOf]; omega
      · have HC := Lib.hid (show clip1 ⟨lo, hi⟩ = [] by rw [clip1, if_neg hc])
        have hgl := HB.out.size
        go_wp2_with fail
        go_roundw
        case rel => exact ⟨k + 1, m, o, by omega, by omega, by go_num, HO.out.alloc _, HOl.out, by show o = _; rw [clip_step HX.out, HC.out, HP.out, List.append_nil], HZ.out, HB.out.trans (RowKit.Below.mono (by repeat (first | exact RowKit.Below.refl _ _ | refine RowKit.Below.alloc ?_ (by first | exact Nat.le_refl _ | (simp; done) | (simp; omega)) _ | refine RowKit.Below.drew ?_)) hgl)⟩
        case measure => simp [intOf]; omega
    · have e : k = n := by omega
      subst e
      have hlt' : ¬ (k : Int) < (k : Int) := by omega
      have HCl := Lib.hid (show o = clip l by rw [HP.out, List.take_of_length_le (by rw [HL.out]; exact Nat.le_refl _)])
      clear HP
      go_wp2_with fail
      refine (sortGot_any W0.heap.size m u3 o wo HO.out HOl.out HZ.out HB.out.size (by omega)).mono ?_
      rintro e w2 ⟨rfl, A2, c2, ys, rfl, hp, has, hrd, hb⟩
      have HYp := Lib.hid (show ys.Perm (clip l) by rw [← HCl.out]; exact hp)
      have HYa := Lib.hid has
      have HYr := Lib.hid hrd
      have HYl := Lib.hid hrd.len
      have HYo := Lib.hid (show ∀ s ∈ ys, OkR s from fun s hs => clip_ok s ((HYp.out.mem_iff).1 hs))
      have HB2 := Lib.hid (HB.out.trans hb)
      clear hp has hrd hb HO HOl HZ
      go_wp2_with fail
      go_loopw [6, 38] (fun s r wr => ∃ (k p : Nat) (o : List Rg), k ≤ m ∧ p ≤ k ∧ r = .int .i64 (k : Int) ∧ Hid (wr.ownsRow w2.heap.size 77 2 s p (o.flatMap encRg)) ∧ Hid (o.length = p) ∧ Hid (Mrgd ys k o) ∧ Hid (RowKit.Below w2.heap.size w2 wr))
        (fun _ r _ => m - (intOf r).toNat)
      case atStart => exact ⟨0, 0, [], by omega, by omega, by go_num, World.ownsRow_nil _ _ _ _, rfl, Mrgd.start ys, RowKit.Below.refl _ _⟩
      case round =>
        obtain ⟨q, p, o2, hq, hpq, rfl, HO, HOl, HM, HBq⟩ := hrel
        obtain ⟨m, rfl⟩ : ∃ m' : Nat, m' = m := ⟨_, rfl⟩
        obtain ⟨wq, rfl⟩ : ∃ wq : World, wq = wr := ⟨_, rfl⟩
        by_cases hlt2 : q < m
        · obtain ⟨b2, off2, rfl⟩ := HYr.out.addr (by omega)
          obtain ⟨lo, hi, hx, c0, c1⟩ := RdRg.elt (HYr.out.below HBq.out) hlt2
          have HX := Lib.hid (show ys[q]? = some ⟨lo, hi⟩ from hx.out)
          clear hx
          have hlt2' : (q : Int) < (m : Int) := by omega
          have hgl := HBq.out.size
          have HST := Lib.hid (HM.out.step HX.out HYo.out HYa.out)
          cases p with
          | zero =>
            have ho2 := List.eq_nil_of_length_eq_zero HOl.out
            have HMR := Lib.hid (show Mrgd ys (q + 1) (o2 ++ [⟨lo, hi⟩]) by have := HST.out; rw [ho2] at this ⊢; exact this)
            clear ho2
            obtain ⟨A3, c3, rfl, _⟩ := own_rd encRg_len (by omega) HO.out (by omega)
            go_wp2_with fail
            go_quiet (fail)
            obtain ⟨w5, hw5⟩ : ∃ w5, w5 = (wq.alloc (.cells #[.int .i64 lo, .int .i64 hi] 77)).drewN nq := ⟨_, rfl⟩
            rw [← hw5]
            have hb5 : RowKit.Below wq.heap.size wq w5 := by rw [hw5]; exact bdrewN ((RowKit.Below.refl _ _).alloc (Nat.le_refl _) _) _
            have d0 : w5.cell? ⟨wq.heap.size, 0, none⟩ = some (.int .i64 lo) := by rw [hw5]; go_simp
            have d1 : w5.cell? ⟨wq.heap.size, 1, none⟩ = some (.int .i64 hi) := by rw [hw5]; go_simp
            have HB5 := Lib.hid (bthen HBq.out hb5)
            have HO5 := Lib.hid (own_below HO.out hb5)
            have hgl5 := HB5.out.size
            clear hb5 hw5
            go_wp2_with (at_builtin; refine wpList_append_rgs rfl _ _ rfl w2.heap.size _ 0 o2 rfl (HO5.out.alloc _) (some ⟨w5.heap.size, 0, none⟩) 1 1 [Rg.mk lo hi] rfl (by exact litRg _ _ _ _ _ _ rfl rfl (by omega) rfl) (by omega) (by simp; omega) ?_; intro v6 w6 hown hbel; have HO6 := Lib.hid hown; have HB6 := Lib.hid ((HB5.out.trans (RowKit.Below.mono ((RowKit.Below.refl w5.heap.size w5).alloc (Nat.le_refl _) _) hgl5)).trans hbel); clear hown hbel)
            go_roundw
            case rel => exact ⟨q + 1, 0 + 1, o2 ++ [Rg.mk lo hi], by omega, by omega, by go_num, HO6.out, by show (o2 ++ [_]).length = _; rw [List.length_append, HOl.out]; rfl, HMR.out, HB6.out⟩
            case measure => simp [intOf]; omega
          | succ p =>
            obtain ⟨R, z, ho2⟩ : ∃ R z, o2 = R ++ [z] := by
              rcases List.eq_nil_or_concat o2 with h | ⟨R, z, h⟩
              · have := HOl.out; rw [h] at this; simp at this
              · exact ⟨R, z, by rw [h, List.concat_eq_append]⟩
            subst ho2
            obtain ⟨zl, zh⟩ := z
            have hRl : R.length = p := by have := HOl.out; simp at this; exact this
            subst hRl
            have hok := (Canon.snoc.1 HM.out.1).2.1
            have hz1 : 0 ≤ zh := by have h1 := hok.1; have h2 := hok.2.1; simp at h1 h2; omega
            have hz2 : zh ≤ 1114111 := hok.2.2
            have hmr : mrg (R ++ [⟨zl, zh⟩]) ⟨lo, hi⟩ = if lo ≤ zh + 1 then R ++ [⟨zl, max zh hi⟩] else (R ++ [⟨zl, zh⟩]) ++ [⟨lo, hi⟩] := by simp [mrg]
            obtain ⟨g, cap', rfl, hg1, hg2⟩ := HO.out.form (by omega)
            have cz : wq.cell? ⟨g, R.length * 2 + 1, none⟩ = some (.int .i64 zh) := by
              rw [HO.out.cellAt (R.length * 2 + 1) (by omega), flat_at encRg_len _ R.length 1 (by simp) (by omega)]
              simp [encRg]
            have gm : (R.length : Int) + 1 - 1 = (R.length : Int) := by omega
            have gm2 : (R.length : Int) < (R.length : Int) + 1 := by omega
            have gm3 : (0 : Int) < (R.length : Int) + 1 := by omega
            have gw : IntKind.i64.wrap (R.length : Int) = (R.length : Int) := IntWalk.i64_in _ (by omega)
            clear hok
            by_cases hj : lo ≤ zh + 1
            · rw [if_pos hj] at hmr
              have HMR := Lib.hid (show Mrgd ys (q + 1) (R ++ [⟨zl, max zh hi⟩]) by rw [← hmr]; exact HST.out)
              clear hmr
              go_wp2_with fail
              go_quiet (fail)
              obtain ⟨w5, hw5⟩ : ∃ w5, w5 = (wq.alloc (.cells #[.int .i64 lo, .int .i64 hi] 77)).drewN nq := ⟨_, rfl⟩
              rw [← hw5]
              have hb5 : RowKit.Below wq.heap.size wq w5 := by rw [hw5]; exact bdrewN ((RowKit.Below.refl _ _).alloc (Nat.le_refl _) _) _
              have d0 : w5.cell? ⟨wq.heap.size, 0, none⟩ = some (.int .i64 lo) := by rw [hw5]; go_simp
              have d1 : w5.cell? ⟨wq.heap.size, 1, none⟩ = some (.int .i64 hi) := by rw [hw5]; go_simp
              have HB5 := Lib.hid (bthen HBq.out hb5)
              have HO5 := Lib.hid (own_below HO.out hb5)
              have hgl5 := HB5.out.size
              clear hb5 hw5
              have cz5 : w5.cell? ⟨g, R.length * 2 + 1, none⟩ = some (.int .i64 zh) := by
                rw [HO5.out.cellAt (R.length * 2 + 1) (by omega), flat_at encRg_len _ R.length 1 (by simp) (by omega)]
                simp [encRg]
              have fz5 := HO5.out.frozenAt (R.length * 2 + 1)
              have hst := (own_below HO5.out (RowKit.Below.refl w5.heap.size w5).drew).stored (R.length * 2 + 1) (.int .i64 (max zh hi))
              rw [rg_hi] at hst
              have HS := Lib.hid hst.1
              have HB6 := Lib.hid (HB5.out.drew.grown hst.2 (by simp; omega) (fun r e => by cases e; exact hg1))
              clear hst
              go_wp2_with fail
              refine still_tail_drew 14 (by kernel_rfl) (by kernel_rfl) ?_
              simp only [List.take_succ_cons, List.take_zero, List.drop_succ_cons, List.drop_zero]
              repeat still_step
              try refine wpStill_nil ?_
              go_wp2_with fail
              go_roundw
              case rel => exact ⟨q + 1, R.length + 1, R ++ [Rg.mk zl (max zh hi)], by omega, by omega, by go_num, HS.out, by show (R ++ [_]).length = _; simp, HMR.out, HB6.out⟩
              case measure => simp [intOf]; omega
            · rw [if_neg hj] at hmr
              have HMR := Lib.hid (show Mrgd ys (q + 1) ((R ++ [Rg.mk zl zh]) ++ [⟨lo, hi⟩]) by rw [← hmr]; exact HST.out)
              clear hmr
              go_wp2_with fail
              go_quiet (fail)
              obtain ⟨w5, hw5⟩ : ∃ w5, w5 = (wq.alloc (.cells #[.int .i64 lo, .int .i64 hi] 77)).drewN nq := ⟨_, rfl⟩
              rw [← hw5]
              have hb5 : RowKit.Below wq.heap.size wq w5 := by rw [hw5]; exact bdrewN ((RowKit.Below.refl _ _).alloc (Nat.le_refl _) _) _
              have d0 : w5.cell? ⟨wq.heap.size, 0, none⟩ = some (.int .i64 lo) := by rw [hw5]; go_simp
              have d1 : w5.cell? ⟨wq.heap.size, 1, none⟩ = some (.int .i64 hi) := by rw [hw5]; go_simp
              have HB5 := Lib.hid (bthen HBq.out hb5)
              have HO5 := Lib.hid (own_below HO.out hb5)
              have hgl5 := HB5.out.size
              clear hb5 hw5
              go_wp2_with (at_builtin; refine wpList_append_rgs rfl _ _ rfl w2.heap.size _ (R.length + 1) (R ++ [Rg.mk zl zh]) rfl (HO5.out.alloc _) (some ⟨w5.heap.size, 0, none⟩) 1 1 [Rg.mk lo hi] rfl (by exact litRg _ _ _ _ _ _ rfl rfl (by omega) rfl) (by omega) (by simp; omega) ?_; intro v6 w6 hown hbel; have HO6 := Lib.hid hown; have HB6 := Lib.hid ((HB5.out.trans (RowKit.Below.mono ((RowKit.Below.refl w5.heap.size w5).alloc (Nat.le_refl _) _) hgl5)).trans hbel); clear hown hbel)
              go_roundw
              case rel => exact ⟨q + 1, R.length + 1 + 1, (R ++ [Rg.mk zl zh]) ++ [Rg.mk lo hi], by omega, by omega, by go_num, HO6.out, by show ((R ++ [Rg.mk zl zh]) ++ [_]).length = _; rw [List.length_append, HOl.out]; rfl, HMR.out, HB6.out⟩
              case measure => simp [intOf]; omega
        · have e : q = m := by omega
          subst e
          have hlt2' : ¬ (q : Int) < (q : Int) := by omega
          have HIS := Lib.hid (HM.out.set HYl.out HYp.out)
          have hbf := HB2.out.trans (HBq.out.mono HB2.out.size)
          have hcr : wq.cell? ⟨w.heap.size, 0, none⟩ = some (.slice none 0 0) := by
            rw [hbf.cell (p := ⟨w.heap.size, 0, none⟩) (by rw [HS0.out]; exact Nat.lt_succ_self _), HW0.out]; go_simp
          have hfr : wq.frozen? ⟨w.heap.size, 0, none⟩ = false := by
            rw [hbf.frozen (p := ⟨w.heap.size, 0, none⟩) (by rw [HS0.out]; exact Nat.lt_succ_self _), HW0.out]; go_simp
          have HBF := Lib.hid (HBW.out.trans (hbf.mono HBW.out.size))
          obtain ⟨A3, c3, rfl, hrd3⟩ := own_rd encRg_len (by omega) HO.out (by omega)
          have HR3 := Lib.hid hrd3
          clear hbf hrd3
          go_wp2_with fail
          have hlt0 : w.heap.size < w2.heap.size := by have := HB2.out.size; have := HS0.out; omega
          have hO7 := HO.out.kept (row := some w.heap.size) (grownBy_setCell' wq w.heap.size (.slice A3 p c3)) (.inr (fun e => by have := (HO.out.lt _ e).1; omega))
          have hc7 : (wq.setCell ⟨w.heap.size, 0, none⟩ (.slice A3 p c3)).cell? ⟨w.heap.size, 0, none⟩ = some (.slice A3 p c3) := by go_simp
          have hB7 : RowKit.Below w.heap.size w (wq.setCell ⟨w.heap.size, 0, none⟩ (.slice A3 p c3)) := RowKit.Below.setCell HBF.out (Nat.le_refl _) _
          generalize wq.setCell ⟨w.heap.size, 0, none⟩ (.slice A3 p c3) = w7 at *
          refine bodyPost_ret (v := .agg #[.slice A3 p c3]) (by simp [results, Tryz.results53, go_sem, hc7]) rfl ?_
          obtain ⟨A4, c4, e4, hrd4⟩ := own_rd encRg_len (by omega) hO7 (by omega)
          cases e4
          exact ⟨A3, p, c3, o2, hrd4, HIS.out, rfl, hB7⟩
end Go.Proofs.YtfeofhinpgodoaaGreatDoor

namespace Go.Proofs.YtfeofhinpgodoaaGreatDoor
open Go.RowKit Go.Shelf

theorem eqRg (d : Nat) (w : World) (x0 y0 : Int) (x1 y1 : Int) :
    (Op.equalIn (d + 2) 77 (.agg #[.int .i64 x0, .int .i64 x1]) (.agg #[.int .i64 y0, .int .i64 y1])).run Tryz.prog w = .ok (x0 == y0 && (x1 == y1)) w := by
  refine fld_of Tryz.underlying77 (by kernel_rfl) ?_
  refine fld_cons (by rfl) (by go_simp; rfl) (by go_simp; rfl) (by go_simp) ?_
  exact fld_last (by rfl) (by go_simp; rfl) (by go_simp; rfl) (by go_simp)

attribute [local go_sem high] eqRg

theorem same_step {α : Type} {xs ys : List α} {k : Nat} {x y : α} (h : xs.take k = ys.take k) (hx : xs[k]? = some x) (hy : ys[k]? = some y) (e : x = y) : xs.take (k + 1) = ys.take (k + 1) := by
  rw [List.take_add_one, List.take_add_one, h, hx, hy, e]
theorem same_not {α : Type} {xs ys : List α} {k : Nat} {x y : α} (hx : xs[k]? = some x) (hy : ys[k]? = some y) (e : x ≠ y) : xs ≠ ys := by
  rintro rfl
  rw [hx] at hy
  exact e (Option.some.inj hy)
theorem canon_of {l o : List Rg} (h : IsSet l o) : Canon l ↔ o = l := ⟨fun hc => h.uniq (IsSet.self hc), fun e => e ▸ h.1⟩

set_option maxRecDepth 100000 in
set_option maxHeartbeats 4000000 in
theorem validSet_any (A : Option Addr) (n c : Nat) (l : List Rg) (w : World) (hR : RdRg w A n l) (hbig : n ≤ 1000000) :
    Calls Tryz.prog 78 #[.agg #[.slice A n c]] w (YesPost (Canon l) w) := by
  have hn := hR.bd
  have HL := Lib.hid hR.len
  have HR := Lib.hid hR
  clear hR
  have hfld : ∀ (A : Option Addr) (n c : Nat) (W : World), (Instr.field 26 (.agg #[.slice A n c]) 0).run Tryz.prog W = .ok (.slice A n c) W := fun A n c W => by kernel_rfl
  go_enter Tryz.func78, Tryz.ntmps78
  go_wp2_with fail
  refine (makeSet_any A n c l _ (by exact HR.out.below ((Below.refl _ _).alloc (Nat.le_refl _) _)) hbig).mono ?_
  rintro e w1 ⟨A2, n2, c2, o, h1, h2, rfl, hb⟩
  have HB1 := Lib.hid (bthen ((Below.refl w.heap.size w).alloc (Nat.le_refl _) _) hb)
  have HO := Lib.hid h1
  have HI := Lib.hid (canon_of h2)
  have bx : w1.cell? ⟨w.heap.size, 0, none⟩ = some (.slice A n c) := bcel hb (by go_simp)
  have hno := h1.bd
  have HOl := Lib.hid h1.len
  clear h1 h2 hb
  by_cases e : n2 = n
  · subst e
    have dn : ((n2 : Int) != (n2 : Int)) = false := by simp
    go_wp2_with fail
    go_loopw [18] (fun r wr => ∃ k : Nat, k ≤ n2 ∧ r = .int .i64 (k : Int) ∧ Hid (o.take k = l.take k) ∧ Hid (Below w1.heap.size w1 wr)) (fun r _ => n2 - (intOf r).toNat)
    case atStart => exact ⟨0, by omega, by go_num, rfl, Below.refl _ _⟩
    case round =>
      obtain ⟨k, hk, rfl, HK, HB⟩ := hrel
      obtain ⟨wo, rfl⟩ : ∃ wo : World, wo = wr := ⟨_, rfl⟩
      have HBw := Lib.hid (bthen HB1.out HB.out)
      by_cases hlt : k < n2
      · obtain ⟨b, of1, rfl⟩ := HO.out.addr (by omega)
        obtain ⟨b2, of2, rfl⟩ := HR.out.addr (by omega)
        obtain ⟨lo, hi, hx, c0, c1⟩ := RdRg.elt (HO.out.below HB.out) hlt
        obtain ⟨lo', hi', hy, d0, d1⟩ := RdRg.elt (HR.out.below HBw.out) hlt
        have hlt' : (k : Int) < (n2 : Int) := by omega
        have bx1 : wo.cell? ⟨w.heap.size, 0, none⟩ = some (.slice (some ⟨b2, of2, none⟩) n2 c) := bcel HB.out bx
        by_cases h1 : lo = lo'
        · by_cases h2 : hi = hi'
          · have hs := Lib.hid (same_step HK.out hx.out hy.out (by rw [h1, h2]))
            have e1 := beq_iff_eq.2 h1
            have e2 := beq_iff_eq.2 h2
            clear h1 h2
            go_wp2_with fail
            obtain ⟨w5, hw5⟩ : ∃ w5, w5 = wo.alloc (.cells #[.int .i64 lo, .int .i64 hi] 77) := ⟨_, rfl⟩
            rw [← hw5]
            have hb5 : Below wo.heap.size wo w5 := by rw [hw5]; exact (Below.refl _ _).alloc (Nat.le_refl _) _
            have f0 : w5.cell? ⟨wo.heap.size, 0, none⟩ = some (.int .i64 lo) := by rw [hw5]; go_simp
            have f1 : w5.cell? ⟨wo.heap.size, 1, none⟩ = some (.int .i64 hi) := by rw [hw5]; go_simp
            have bx5 := bcel hb5 bx1
            have d5 := bcel hb5 d0
            have d6 := bcel hb5 d1
            have HB5 := Lib.hid hb5
            clear hb5 hw5 bx1 d0 d1
            go_quiet (fail)
            go_wp2_with fail
            go_roundw
            case rel => exact ⟨k + 1, by omega, by go_num, hs.out, bdrewN (bthen HB.out HB5.out) _⟩
            case measure => simp [intOf]; omega
          · have hs := Lib.hid (same_not hx.out hy.out (by intro e; injection e; exact h2 ‹_›))
            have e2 := beq_eq_false_iff_ne.2 h2
            clear h1 h2
            go_wp2_with fail
            obtain ⟨w5, hw5⟩ : ∃ w5, w5 = wo.alloc (.cells #[.int .i64 lo, .int .i64 hi] 77) := ⟨_, rfl⟩
            rw [← hw5]
            have hb5 : Below wo.heap.size wo w5 := by rw [hw5]; exact (Below.refl _ _).alloc (Nat.le_refl _) _
            have f0 : w5.cell? ⟨wo.heap.size, 0, none⟩ = some (.int .i64 lo) := by rw [hw5]; go_simp
            have f1 : w5.cell? ⟨wo.heap.size, 1, none⟩ = some (.int .i64 hi) := by rw [hw5]; go_simp
            have bx5 := bcel hb5 bx1
            have d5 := bcel hb5 d0
            have d6 := bcel hb5 d1
            have HB5 := Lib.hid hb5
            clear hb5 hw5 bx1 d0 d1
            go_quiet (fail)
            go_wp2_with fail
            go_ret
            exact ⟨false, rfl, ⟨nofun, fun h => absurd (HI.out.1 h) hs.out⟩, bdrewN (bthen HBw.out HB5.out) _⟩
        · have hs := Lib.hid (same_not hx.out hy.out (by intro e; injection e; exact h1 ‹_›))
          have e1 := beq_eq_false_iff_ne.2 h1
          clear h1
          go_wp2_with fail
          obtain ⟨w5, hw5⟩ : ∃ w5, w5 = wo.alloc (.cells #[.int .i64 lo, .int .i64 hi] 77) := ⟨_, rfl⟩
          rw [← hw5]
          have hb5 : Below wo.heap.size wo w5 := by rw [hw5]; exact (Below.refl _ _).alloc (Nat.le_refl _) _
          have f0 : w5.cell? ⟨wo.heap.size, 0, none⟩ = some (.int .i64 lo) := by rw [hw5]; go_simp
          have f1 : w5.cell? ⟨wo.heap.size, 1, none⟩ = some (.int .i64 hi) := by rw [hw5]; go_simp
          have bx5 := bcel hb5 bx1
          have d5 := bcel hb5 d0
          have d6 := bcel hb5 d1
          have HB5 := Lib.hid hb5
          clear hb5 hw5 bx1 d0 d1
          go_quiet (fail)
          go_wp2_with fail
          go_ret
          exact ⟨false, rfl, ⟨nofun, fun h => absurd (HI.out.1 h) hs.out⟩, bdrewN (bthen HBw.out HB5.out) _⟩
      · have e : k = n2 := by omega
        subst e
        have hlt' : ¬ (k : Int) < (k : Int) := by omega
        have hf : o = l := by
          have := HK.out
          rwa [List.take_of_length_le (by rw [HOl.out]; exact Nat.le_refl _), List.take_of_length_le (by rw [HL.out]; exact Nat.le_refl _)] at this
        have HF := Lib.hid (HI.out.2 hf)
        clear hf
        go_wp2_with fail
        go_ret
        exact ⟨true, rfl, ⟨fun _ => HF.out, fun _ => rfl⟩, HBw.out⟩
  · have hs : Hid (¬ Canon l) := fun h => e (by rw [← HOl.out, ← HL.out, HI.out.1 h])
    have dn : ((n2 : Int) != (n : Int)) = true := bne_iff_ne.2 (by omega)
    clear e
    go_wp2_with fail
    go_ret
    exact ⟨false, rfl, ⟨nofun, fun h => absurd h hs.out⟩, HB1.out⟩
end Go.Proofs.YtfeofhinpgodoaaGreatDoor

