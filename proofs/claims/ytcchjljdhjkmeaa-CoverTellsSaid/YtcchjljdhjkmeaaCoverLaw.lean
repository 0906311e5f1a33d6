/-
  What the laws of chapter 18 share: the example of the document. No condition.
-/
import Derived.Test.YtcchjljdhjkmeaaCoverSet
import Derived.Test.YtcchjljdhjkmeaaCoverLawM
namespace Go.Proofs.Ytcchjljdhjkmeaa
open Go.RowKit
set_option linter.unusedVariables false
set_option linter.unusedSimpArgs false
set_option maxRecDepth 100000

theorem cover_alive (W : World) : Calls Try.prog 24 #[] W fun e w' => e = .returned (.bool true) ∧ Below W.heap.size W w' := by
  have cX := hid (fun (w : World) (h : Blk w W.heap.size 39 [.int .u64 0, .int .u64 0, .int .i64 0, .int .i64 6]) =>
    cover_set w (.slice (some ⟨W.heap.size, 0, none⟩) 1 1) [(((0, 0), 0), 6)] (Rd.of_blk (l := [((((0, 0), 0), 6) : Rt)]) h rtEn_length (by unfold maxLen; simp)) (fun r hr => by rw [List.mem_singleton.1 hr]; exact ⟨by decide, by decide⟩) (by simp) (-1) 1)
  have cZ := hid (fun (w : World) => cover_set w (.slice none 0 0) [] (Rd.nil w) (fun r hr => by simp at hr) (by simp) 0 8)
  have e1 : setL [(((0, 0), 0), 6)] (-1) 1 = [(((0, 0), 1), 6), (((9223372036854775808, 0), 1), 6)] := by decide +kernel
  have e2 : setL [] 0 8 = [] := rfl
  rw [e1] at cX
  rw [e2] at cZ
  clear e1 e2
  have HK := hid (Blk.new W [.int .u64 0, .int .u64 0, .int .i64 0, .int .i64 6] 39)
  have HB0 := hid ((Below.refl W.heap.size W).alloc (Nat.le_refl _) (.cells #[.int .u64 0, .int .u64 0, .int .i64 0, .int .i64 6] 39))
  go_enter Try.func24, Try.ntmps24
  go_wp2_with fail
  refine (cX.out _ HK.out).mono ?_
  rintro _ w1 ⟨vx, rfl, hO, hb⟩
  have HB1 := hid (HB0.out.trans (hb.mono HB0.out.size))
  have HX := hid hO.rd
  clear hO hb cX
  go_wp2_with fail
  refine (cZ.out _).mono ?_
  rintro _ w2 ⟨vz, rfl, hOz, hbz⟩
  have HB2 := hid (held_next HB1.out hbz)
  obtain ⟨bx, ox, qx, hvx, _, _, lx, sx⟩ := (HX.out.below rtEn_length hbz).get rtEn_length (by decide) (k := 0) rfl
  have y3 : w2.cell? ⟨bx, ox + 3, none⟩ = some (.int .i64 6) := by simpa using sx 3 _ rfl
  subst hvx
  obtain ⟨Az, cz, rfl⟩ := hOz.form
  clear hOz hbz sx lx cZ HX
  go_wp2_with fail
  go_ret
  exact ⟨rfl, HB2.out⟩

end Go.Proofs.Ytcchjljdhjkmeaa
