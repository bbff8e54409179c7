/-
  The laws on cases, all of one form.
-/
import Derived.Test.YtkgckfcekokieaaS9
import Derived.Test.YtkgckfcekokieaaS11
import Derived.Test.YtkgckfcekokieaaS12
namespace Go.Proofs.Ytkgckfcekokieaa
open Go Go.Lf

section
variable (v : Tv) (t : Ty) (sx sy sz : Sv) (xs ys zs : List Int) (b0 b1 b2 b3 b4 b5 b6 b7 fi : Int)
theorem through_walkL (h : Heap) (hv : TyAt (fun b => b < h.size) h t v) (hx : IntsAt h sx xs) (hy : IntsAt h sy ys) (hz : IntsAt h sz zs) (hf : 0 ≤ fi ∧ fi ≤ 18446744073709551615) :
    CallsH Try.prog 4 #[.agg (caseC v sx sy sz b0 b1 b2 b3 b4 b5 b6 b7 fi)] h (fun x h' => x = .bool true ∧ Grow h h') :=
  through_walk v t sx sy sz xs ys zs b0 b1 b2 b3 b4 b5 b6 b7 fi h hv hx hy hz hf fun f => through_law _ f t xs ys zs
theorem both_walkL (h : Heap) (hv : TyAt (fun b => b < h.size) h t v) (hx : IntsAt h sx xs) (hy : IntsAt h sy ys) (_ : IntsAt h sz zs) (hf : 0 ≤ fi ∧ fi ≤ 18446744073709551615) :
    CallsH Try.prog 6 #[.agg (caseC v sx sy sz b0 b1 b2 b3 b4 b5 b6 b7 fi)] h (fun x h' => x = .bool true ∧ Grow h h') :=
  both_walk v t sx sy sz xs ys b0 b1 b2 b3 b4 b5 b6 b7 fi h hv hx hy hf fun f => both_law _ f t xs ys
theorem more_walkL (mi : Int) (h : Heap) (hv : TyAt (fun b => b < h.size) h t v) (hx : IntsAt h sx xs) (hy : IntsAt h sy ys) (_ : IntsAt h sz zs) (hf : 0 ≤ fi ∧ fi ≤ 18446744073709551615) (hm : 0 ≤ mi ∧ mi ≤ 18446744073709551615) :
    CallsH Try.prog 5 #[.agg (caseC v sx sy sz b0 b1 b2 b3 b4 b5 b6 b7 fi), .int .u64 mi] h (fun x h' => x = .bool true ∧ Grow h h') :=
  more_walk v t sx sy sz xs ys b0 b1 b2 b3 b4 b5 b6 b7 fi mi h hv hx hy hf hm
end
end Go.Proofs.Ytkgckfcekokieaa
