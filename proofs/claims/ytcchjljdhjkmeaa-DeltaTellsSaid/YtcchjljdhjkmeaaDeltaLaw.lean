/-
  What the laws of chapter 19 share: the example of the document; a change's cells. No condition.
-/
import Derived.Test.YtcchjljdhjkmeaaDeltaOf
import Derived.Test.YtcchjljdhjkmeaaDeltaM2
namespace Go.Proofs.Ytcchjljdhjkmeaa
open Go.RowKit
set_option linter.unusedVariables false
set_option linter.unusedSimpArgs false
set_option maxRecDepth 100000

theorem cell5 {w w' : World} {b o j : Nat} {c : Ch} (lb : b < w.heap.size) (sa : ∀ i u, (chgEn c)[i]? = some u → w.cell? ⟨b, o + j * 5 + i, none⟩ = some u) (h : Below w.heap.size w w') :
    w'.cell? ⟨b, o + j * 5, none⟩ = some (.int .u64 (c.1.1.1 : Int)) ∧ w'.cell? ⟨b, o + j * 5 + 1, none⟩ = some (.int .u64 (c.1.1.2 : Int)) ∧ w'.cell? ⟨b, o + j * 5 + 2, none⟩ = some (.int .i64 c.1.2) ∧ w'.cell? ⟨b, o + j * 5 + 3, none⟩ = some (.int .i64 c.2.1) ∧ w'.cell? ⟨b, o + j * 5 + 4, none⟩ = some (.int .i64 c.2.2) :=
  ⟨(h.cell (p := ⟨b, o + j * 5, none⟩) lb).trans (sa 0 _ rfl), (h.cell (p := ⟨b, o + j * 5 + 1, none⟩) lb).trans (sa 1 _ rfl), (h.cell (p := ⟨b, o + j * 5 + 2, none⟩) lb).trans (sa 2 _ rfl), (h.cell (p := ⟨b, o + j * 5 + 3, none⟩) lb).trans (sa 3 _ rfl), (h.cell (p := ⟨b, o + j * 5 + 4, none⟩) lb).trans (sa 4 _ rfl)⟩

theorem delta_alive (W : World) : Calls Try.prog 18 #[] W fun e w' => e = .returned (.bool true) ∧ Below W.heap.size W w' := by
  have R1 := hid (fun (w : World) (h : Blk w W.heap.size 39 [.int .u64 0, .int .u64 0, .int .i64 0, .int .i64 6]) => (Rd.of_blk (l := [((((0, 0), 0), 6) : Rt)]) h rtEn_length (by unfold maxLen; simp) : Rd rtEn 4 w (.slice (some ⟨W.heap.size, 0, none⟩) 1 1) [(((0, 0), 0), 6)]))
  have cX := hid (fun (w : World) h => delta_of w (.slice none 0 0) (.slice (some ⟨W.heap.size, 0, none⟩) 1 1) [] [(((0, 0), 0), 6)] (Rd.nil w) (R1.out w h) (by simp) (by simp))
  have cZ := hid (fun (w : World) h => delta_of w (.slice (some ⟨W.heap.size, 0, none⟩) 1 1) (.slice (some ⟨W.heap.size, 0, none⟩) 1 1) [(((0, 0), 0), 6)] [(((0, 0), 0), 6)] (R1.out w h) (R1.out w h) (by simp) (by simp))
  have e1 : mergeD (sortedL []) (sortedL [(((0, 0), 0), 6)]) = [((((0, 0), 0) : Pf), -1, 6)] := rfl
  have e2 : mergeD (sortedL [(((0, 0), 0), 6)]) (sortedL [(((0, 0), 0), 6)]) = [] := merge_self _
  rw [e1] at cX
  rw [e2] at cZ
  have HK := hid (Blk.new W [.int .u64 0, .int .u64 0, .int .i64 0, .int .i64 6] 39)
  have HB0 := hid ((Below.refl W.heap.size W).alloc (Nat.le_refl _) (.cells #[.int .u64 0, .int .u64 0, .int .i64 0, .int .i64 6] 39))
  clear R1 e1 e2
  go_enter Try.func18, Try.ntmps18
  go_wp2_with fail
  refine (cX.out _ HK.out).mono ?_
  rintro _ w1 ⟨vx, rfl, hO, hb⟩
  have HB1 := hid (HB0.out.trans (hb.mono HB0.out.size))
  have cZ1 := hid (cZ.out w1 (HK.out.below' hb))
  have HX := hid (Rd.of_owns (l := [((((0, 0), 0) : Pf), -1, 6)]) hO chgEn_len)
  clear hO hb cX cZ
  go_wp2_with fail
  refine cZ1.out.mono ?_
  rintro _ w2 ⟨vz, rfl, hOz, hbz⟩
  have HB2 := hid (held_next HB1.out hbz)
  obtain ⟨bx, ox, qx, hvx, _, _, lx, sx⟩ := HX.out.get chgEn_len (by decide) (k := 0) rfl
  have HC := cell5 lx sx hbz
  simp only [Nat.zero_mul, Nat.add_zero] at HC
  obtain ⟨_, _, _, y3, y4⟩ := HC
  subst hvx
  obtain ⟨Az, cz, rfl, _⟩ := hOz.form
  clear hOz hbz sx lx cZ1 HX
  go_wp2_with fail
  go_ret
  exact ⟨rfl, HB2.out⟩

end Go.Proofs.Ytcchjljdhjkmeaa
