/- The law CnfSplits, whole. -/
import Derived.Test.YtnmkdhoijdoccaaLSpa
import Derived.Test.YtnmkdhoijdoccaaLSpl
set_option linter.unusedVariables false
set_option linter.unusedSimpArgs false
namespace Go.Proofs.Ytnmkdhoijdoccaa
open Go Go.RowKit Go.Sort SL

theorem splits_walk (W : World) (n : Int) (vf : Value) (cls : List (List Int)) (li : Int) (vm : Value) (m : List Int) (hn : I64 n) (hr : Ent [Old W] (Rd2 (cInt .i64) vf cls)) (hI : ∀ c ∈ cls, ∀ x ∈ c, I64 x) (hli : I64 li) (hm : Ent [Old W] (Rd (cInt .i8) vm m)) (hmb : ∀ x ∈ m, -128 ≤ x ∧ x ≤ 127) (hsz : (cls.map fun c => c.length + 1).sum + m.length ≤ 1048576) :
    Calls Try.prog 11 #[.agg #[.int .i64 n, vf], .int .i64 li, vm] W fun e w' => e = .returned (.bool true) ∧ SL.St W [Old W] w' := by
  by_cases hok : (checkM n cls).2 = 0 ∧ litOk li = true ∧ varM li ≤ n
  · exact splits_good W n vf cls li vm m hn hr hI hli hm hmb hsz hok.1 hok.2.1 hok.2.2
  · exact splits_bad W n vf cls li vm m hn hr hI hli hm hmb hok
end Go.Proofs.Ytnmkdhoijdoccaa
