/- MirrorOrder answers true. -/
import Derived.Test.YtmlhecfhhhebnaaOr1
import Derived.Test.YtmlhecfhhhebnaaOr2
import Derived.Test.YtmlhecfhhhebnaaOr3
import Derived.Test.YtmlhecfhhhebnaaOr4
import Derived.Test.YtmlhecfhhhebnaaPp
namespace Go.Proofs.Ytmlhecfhhhebnaa

theorem mirrorOrder_true (K : Nat) (n : Int) (vu : Value) (xs : List Int) (vv : Value) (ys : List Int) (vw : Value) (zs : List Int) (w : World) (hK : K < 256) (hx : Ints w vu xs) (hy : Ints w vv ys) (hz : Ints w vw zs) :
    Calls Try.prog 5 #[grpI K n, vu, vv, vw] w (TrueM w) := by
  cases hok : okI K n [xs, ys, zs] with
  | false => exact OrderL_no K n vu vv vw xs ys zs w hK hx hy hz hok
  | true =>
    obtain ⟨m, rfl, hv, hall⟩ := okI_nat hok
    simp only [List.all_cons, List.all_nil, Bool.and_true, Bool.and_eq_true] at hall
    obtain ⟨q1, q2, q3⟩ := hall
    have T := tabW hv
    obtain ⟨iU, iW, cU, cW, P⟩ := ordP hv q1 q2 q3
    unfold grpI
    cases his : belG (wordsG K m) (nextG K m) (ix K m xs) (ix K m zs) with
    | false => rw [his] at P; exact OrderL_f K m vu vv vw xs ys zs iU iW cU cW w hv hx hy hz q1 q2 q3 P T his
    | true =>
      rw [his] at P
      by_cases hlt : lenX (wordsG K m) (ix K m xs) < lenX (wordsG K m) (ix K m zs)
      · cases e30 : belG (wordsG K m) (nextG K m) (ix K m ys) (ix K m xs) with
        | true =>
          cases e32 : belG (wordsG K m) (nextG K m) (ix K m zs) (ix K m xs) with
          | true => exact OrderL_tttl K m vu vv vw xs ys zs iU iW cU cW w hv hx hy hz q1 q2 q3 P T his e30 e32 hlt
          | false => exact OrderL_ttfl K m vu vv vw xs ys zs iU iW cU cW w hv hx hy hz q1 q2 q3 P T his e30 e32 hlt
        | false =>
          cases e32 : belG (wordsG K m) (nextG K m) (ix K m zs) (ix K m xs) with
          | true => exact OrderL_tftl K m vu vv vw xs ys zs iU iW cU cW w hv hx hy hz q1 q2 q3 P T his e30 e32 hlt
          | false => exact OrderL_tffl K m vu vv vw xs ys zs iU iW cU cW w hv hx hy hz q1 q2 q3 P T his e30 e32 hlt
      · cases e30 : belG (wordsG K m) (nextG K m) (ix K m ys) (ix K m xs) with
        | true =>
          cases e32 : belG (wordsG K m) (nextG K m) (ix K m zs) (ix K m xs) with
          | true => exact OrderL_ttte K m vu vv vw xs ys zs iU iW cU cW w hv hx hy hz q1 q2 q3 P T his e30 e32 hlt
          | false => exact OrderL_ttfe K m vu vv vw xs ys zs iU iW cU cW w hv hx hy hz q1 q2 q3 P T his e30 e32 hlt
        | false =>
          cases e32 : belG (wordsG K m) (nextG K m) (ix K m zs) (ix K m xs) with
          | true => exact OrderL_tfte K m vu vv vw xs ys zs iU iW cU cW w hv hx hy hz q1 q2 q3 P T his e30 e32 hlt
          | false => exact OrderL_tffe K m vu vv vw xs ys zs iU iW cU cW w hv hx hy hz q1 q2 q3 P T his e30 e32 hlt
end Go.Proofs.Ytmlhecfhhhebnaa
