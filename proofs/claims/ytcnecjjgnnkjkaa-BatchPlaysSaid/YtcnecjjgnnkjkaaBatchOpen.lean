/-
  Arguments that are commands, or rows of rows of commands. No condition.
-/
import Derived.Test.YtcnecjjgnnkjkaaBatchM
import Derived.Test.YtcnecjjgnnkjkaaOpenW
namespace Go.Proofs.Ytcnecjjgnnkjkaa
open Go.RowKit
set_option linter.unusedVariables false
set_option linter.unusedSimpArgs false

theorem list10 {α : Type} {l : List α} (h : l.length = 10) : ∃ c0 c1 c2 c3 c4 c5 c6 c7 c8 c9, l = [c0, c1, c2, c3, c4, c5, c6, c7, c8, c9] := by
  match l, h with
  | [c0, c1, c2, c3, c4, c5, c6, c7, c8, c9], _ => exact ⟨c0, c1, c2, c3, c4, c5, c6, c7, c8, c9, rfl⟩
theorem cm_cells : Try.prog.cellsOf 53 = 10 := by kernel_rfl
theorem open_s : Opens Try.prog 47 Int (fun n => [.int .u64 n]) (fun n => (Lit.int .u64 n).wf = true) := Opens.int Try.underlying47 (by kernel_rfl)
theorem open_cm : Opens Try.prog 53 Cm cmEn Cm.ok := by
  refine ⟨fun {H enc w base spare held fuel cs x} h => ?_, fun a => by rw [cm_cells]; rfl⟩
  obtain ⟨xs, n, _, _, hl, hxl, hf⟩ := DataW.trod_struct Try.underlying53 h
  rw [cm_cells] at hl
  match xs, hxl with
  | [y0, y1, y2, y3, y4, y5, y6], _ =>
    have z1 : Try.prog.cellsOf 3 = 1 := by kernel_rfl
    have z3 : Try.prog.cellsOf 51 = 3 := by kernel_rfl
    have z4 : Try.prog.cellsOf 49 = 2 := by kernel_rfl
    have z5 : Try.prog.cellsOf 47 = 1 := by kernel_rfl
    have z6 : Try.prog.cellsOf 45 = 1 := by kernel_rfl
    have g0 : DataW.trod enc Try.prog w base spare held n 3 ((cs.drop 0).take (Try.prog.cellsOf 3)) = some y0 := hf 0 _ rfl
    have g1 : DataW.trod enc Try.prog w base spare held n 3 ((cs.drop 1).take (Try.prog.cellsOf 3)) = some y1 := hf 1 _ rfl
    have g2 : DataW.trod enc Try.prog w base spare held n 3 ((cs.drop 2).take (Try.prog.cellsOf 3)) = some y2 := hf 2 _ rfl
    have g3 : DataW.trod enc Try.prog w base spare held n 51 ((cs.drop 3).take (Try.prog.cellsOf 51)) = some y3 := hf 3 _ rfl
    have g4 : DataW.trod enc Try.prog w base spare held n 49 ((cs.drop 6).take (Try.prog.cellsOf 49)) = some y4 := hf 4 _ rfl
    have g5 : DataW.trod enc Try.prog w base spare held n 47 ((cs.drop 8).take (Try.prog.cellsOf 47)) = some y5 := hf 5 _ rfl
    have g6 : DataW.trod enc Try.prog w base spare held n 45 ((cs.drop 9).take (Try.prog.cellsOf 45)) = some y6 := hf 6 _ rfl
    rw [z1] at g0 g1 g2
    rw [z3] at g3
    rw [z4] at g4
    rw [z5] at g5
    rw [z6] at g6
    obtain ⟨k, hk, ok⟩ := open_i.open_ g0
    obtain ⟨hp, hhp, ohp⟩ := open_i.open_ g1
    obtain ⟨nn, hn, on⟩ := open_i.open_ g2
    obtain ⟨p, hp3, op⟩ := open_pf.open_ g3
    obtain ⟨a, ha, oa⟩ := open_ad.open_ g4
    obtain ⟨s, hs, os⟩ := open_s.open_ g5
    have hb' : ∃ A m cap, (cs.drop 9).take 1 = [.slice A m cap] := by
      rcases DataW.trod_slice Try.underlying45 g6 with ⟨h1, _⟩ | ⟨a, len, cap, _, _, _, _, h1, _⟩
      · exact ⟨_, _, _, h1⟩
      · exact ⟨_, _, _, h1⟩
    obtain ⟨A, m, cap, hb⟩ := hb'
    obtain ⟨c0, c1, c2, c3, c4, c5, c6, c7, c8, c9, hcs⟩ := list10 hl
    · rw [hcs] at hk hhp hn hp3 ha hs hb
      have e0 : c0 = .int .i64 k := by injection hk
      have e1 : c1 = .int .i64 hp := by injection hhp
      have e2 : c2 = .int .i64 nn := by injection hn
      have e3 : [c3, c4, c5] = pfEn p := hp3
      have e4 : [c6, c7] = adEn a := ha
      have e5 : c8 = .int .u64 s := by injection hs
      have e6 : c9 = .slice A m cap := by injection hb
      have hs' := wf_u64 os
      simp [pfEn, adEn] at e3 e4
      obtain ⟨rfl, rfl, rfl⟩ := e3
      obtain ⟨rfl, rfl⟩ := e4
      subst e0 e1 e2 e5 e6
      rw [hcs]
      refine ⟨⟨k, hp, nn, p, a, s.toNat, .slice A m cap⟩, ?_, ok, ohp, on, op.1, op.2, oa, by simp only; omega, A, m, cap, rfl⟩
      have : ((s.toNat : Nat) : Int) = s := by omega
      simp [cmEn, this]
end Go.Proofs.Ytcnecjjgnnkjkaa
