import Derived.Test.YtamekpldmplenaaDoorSymD
namespace Go.Proofs.YtamekpldmplenaaDoor
open Go.RowKit Go.Shelf

theorem sym_upto (q off len cap Bc : Nat) (key : Int → Int) (cin : World → Prop) (hc : CmpOk q Bc key cin) (hbd : len < 17592186044417) : ∀ d, SymUpto q off len cap Bc key cin d := by
  intro d
  induction d with
  | zero => intro xs P X Y S va vm vb w h; omega
  | succ d ih =>
    intro xs P X Y S va vm vb w h hcin hH hl hx hX hY h1 h2 ha hm hb
    by_cases e1 : X.length = 1
    · obtain ⟨x, rfl⟩ := List.length_eq_one_iff.1 e1
      exact sym_one_left q off len cap Bc key cin hc xs P Y S x va vm vb w hcin hH hl hbd hx hY ha (by simpa using hm) (by simpa using hb)
    · by_cases e2 : Y.length = 1
      · obtain ⟨y, rfl⟩ := List.length_eq_one_iff.1 e2
        exact sym_one_right q off len cap Bc key cin hc xs P X S y va vm vb w hcin hH hl hbd hx hX e1 ha hm (by simpa using hb)
      · exact sym_more q off len cap Bc key cin hc d ih xs P X Y S va vm vb w (by omega) hcin hH hl hbd hx hX hY (by omega) (by omega) ha hm hb

theorem sym_any (q off len cap Bc : Nat) (key : Int → Int) (cin : World → Prop) (hc : CmpOk q Bc key cin) (xs P X Y S : List Int) (va vm vb : Int) (w : World) (hcin : cin w) (hH : Holds w q off xs) (hl : xs.length = len) (hbd : len < 17592186044417) (hx : xs = P ++ X ++ Y ++ S)
    (hX : Srt key X) (hY : Srt key Y) (h1 : 0 < X.length) (h2 : 0 < Y.length) (ha : va = P.length) (hm : vm = P.length + X.length) (hb : vb = P.length + X.length + Y.length) :
    Calls Tryd.prog 56 #[.slice (some ⟨q, off, none⟩) len cap, .int .i64 va, .int .i64 vm, .int .i64 vb, .func (.func 41) #[] #[.pointer (some ⟨Bc, 0, none⟩)]] w (SymPost key cin q off len P (X ++ Y) S w) :=
  sym_upto q off len cap Bc key cin hc hbd (X.length + Y.length + 1) xs P X Y S va vm vb w (by omega) hcin hH hl hx hX hY h1 h2 ha hm hb
end Go.Proofs.YtamekpldmplenaaDoor
