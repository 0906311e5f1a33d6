/-
  Arguments that are addresses, prefixes: opened as pairs of words. No condition.
-/
import Derived.Test.YtpjjijhojcfmnaaOpen
import Derived.Test.YtpjjijhojcfmnaaAddr
namespace Go.Proofs.Ytpjjijhojcfmnaa
open Go.RowKit
set_option linter.unusedVariables false

def adEn (a : Ad) : List Value := [.int .u64 (a.1 : Int), .int .u64 (a.2 : Int)]
def pfEn (p : Pf) : List Value := [.int .u64 (p.1.1 : Int), .int .u64 (p.1.2 : Int), .int .i64 p.2]
def Pf.fit (p : Pf) : Prop := p.1.ok ∧ (Lit.int .i64 p.2).wf = true
theorem wf_u64 {n : Int} (h : (Lit.int .u64 n).wf = true) : 0 ≤ n ∧ n < 2 ^ 64 := by
  simp [Lit.wf, IntKind.min, IntKind.max, IntKind.signed, IntKind.bits] at h; omega
theorem wf_i64 {n : Int} (h : (Lit.int .i64 n).wf = true) : -9223372036854775808 ≤ n ∧ n ≤ 9223372036854775807 := by
  simp [Lit.wf, IntKind.min, IntKind.max, IntKind.signed, IntKind.bits] at h; omega
theorem open_ad : Opens Try.prog 32 Ad adEn Ad.ok :=
  (Opens.struct2 Try.underlying32 (Opens.int Try.underlying22 (by kernel_rfl)) (Opens.int Try.underlying22 (by kernel_rfl)) ⟨rfl, by kernel_rfl, by kernel_rfl⟩).map (fun x => (x.1.toNat, x.2.toNat))
    (fun a h => by
      have h1 := wf_u64 h.1
      have h2 := wf_u64 h.2
      simp [adEn]; omega)
    (fun _ => (show 2 = Try.prog.cellsOf 32 by kernel_rfl))
    (fun a h => by
      have h1 := wf_u64 h.1
      have h2 := wf_u64 h.2
      constructor <;> simp <;> omega)
theorem open_pf : Opens Try.prog 34 Pf pfEn Pf.fit :=
  (Opens.struct2 Try.underlying34 open_ad (Opens.int Try.underlying3 (by kernel_rfl)) ⟨rfl, by kernel_rfl, by kernel_rfl⟩).map (fun x => (x.1, x.2))
    (fun a h => rfl) (fun _ => (show 3 = Try.prog.cellsOf 34 by kernel_rfl)) (fun a h => h)

end Go.Proofs.Ytpjjijhojcfmnaa
