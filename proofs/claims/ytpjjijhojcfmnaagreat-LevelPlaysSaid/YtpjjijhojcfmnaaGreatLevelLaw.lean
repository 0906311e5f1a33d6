/-
  What the laws of chapter 21 share: the document's example, arguments that are changes. No condition but that words are words.
-/
import Derived.Test.YtpjjijhojcfmnaaGreatLevel2
namespace Go.Proofs.YtpjjijhojcfmnaaGreat
open Go.RowKit
set_option linter.unusedVariables false
set_option linter.unusedSimpArgs false
set_option maxRecDepth 100000

def Ch.fit (x : Ch) : Prop := x.1.fit ∧ (Lit.int .i64 x.2.1).wf = true ∧ (Lit.int .i64 x.2.2).wf = true
theorem open_ch : Opens Tryz.prog 41 Ch chgEn Ch.fit :=
  (Opens.struct3 Tryz.underlying41 open_pf open_i open_i ⟨rfl, by kernel_rfl, by kernel_rfl, by kernel_rfl⟩).map (fun x => x)
    (fun a h => rfl) (fun _ => (show 5 = Tryz.prog.cellsOf 41 by kernel_rfl)) (fun a h => h)
theorem ch_cells : Tryz.prog.cellsOf 41 = 5 := by kernel_rfl
theorem findI_hasL (l : List Rt) (p : Pf) : decide (0 ≤ findI l p) = decide (∃ r ∈ l, r.1 = p) := by
  rw [decide_eq_decide]
  unfold findI
  cases h : l.findIdx? (fun r => decide (r.1 = p)) with
  | none =>
    rw [List.findIdx?_eq_none_iff] at h
    simp only
    constructor
    · intro h; omega
    · rintro ⟨r, hr, e⟩; have := h r hr; simp [e] at this
  | some k =>
    simp only
    constructor
    · intro _
      rw [List.findIdx?_eq_some_iff_getElem] at h
      obtain ⟨hk, h1, _⟩ := h
      exact ⟨l[k], List.getElem_mem _, by simpa using h1⟩
    · intro _; omega
theorem lvNew_ok {s : Nat} (k : Int) (m nb : Nat) (h5 : 1 ≤ nb) (h6 : nb ≤ 65536) : LvOk s k m (List.replicate m 0) (newT (mixN s) nb) [] :=
  ⟨newT_ok (mixN_lt _) h5 h6, newT_rep _ _, Trk.zero m⟩
theorem lvLs_mem {n : Int} {l : List Rt} {x : Ch} (h : ∀ r ∈ l, r.1.2 = n) : ∀ r ∈ lvLs n l x, r.1.2 = n := by
  unfold lvLs
  split
  · rename_i e
    unfold lvL
    split
    · intro r hr
      rcases into_mem hr with rfl | hr
      · exact e
      · exact h r hr
    · intro r hr; exact h r (without_has.1 hr).1
  · exact h
theorem lvRunL_mem {n : Int} : ∀ (xs : List Ch) (l : List Rt), (∀ r ∈ l, r.1.2 = n) → ∀ r ∈ lvRunL n l xs, r.1.2 = n
  | [], _, h => h
  | x :: xs, l, h => lvRunL_mem xs _ (lvLs_mem h)

theorem law21_num (n : Int) (w : World) : Calls Tryz.prog 7 #[.int .i64 n] w fun e w' => e = .returned (.int .i64 n) ∧ w = w' := by
  go_enter Tryz.func7, Tryz.ntmps7
  go_wp2_with fail
  go_ret
  exact ⟨rfl, rfl⟩
theorem level_alive (w : World) : Calls Tryz.prog 4 #[] w fun e w' => e = .returned (.bool true) ∧ Below w.heap.size w w' := by
  have ok0 : Ad.ok (0, 0) := ⟨by decide, by decide⟩
  have ok7 : Ad.ok (0, 7) := ⟨by decide, by decide⟩
  have c0 := hid (fun w => lv_new_no w 0 1 2 9 1 (.inl (by decide)))
  have c1 := hid (fun w => lv_new w 3 1 (by decide) 2 9 1 (by decide) (by decide) (by decide) (by decide) (by decide) (by decide) (by decide) (by decide))
  have hI0 := lvNew_ok (s := 1) 2 9 1 (by decide) (by decide)
  have cn := hid law21_num
  have hI1 := hI0.turn ((0, 0), 3) ok0 6
  have hmem : (((0, 0), 3), (6 : Int)) ∈ lvL [] ((0, 0), 3) 6 := by simp [lvL, intoL]
  have hval := hI1.rep.val hI1.ok (p := ((0, 0), 3)) (u := 6) hmem
  have hmay := hI1.may (by decide) hval.1
  have hrun : lvRun 1 2 3 (List.replicate 9 0, newT (mixN 1) 1) [(((0, 0), 3), -1, 6)] = (lvC 1 2 (List.replicate 9 0) (newT (mixN 1) 1) ((0, 0), 3) 6, lvT (newT (mixN 1) 1) ((0, 0), 3) 6) := rfl
  have hcut : Ad.cut (0, 7) 3 = (0, 0) := by decide
  have cT := hid (fun (w' : World) (b : Nat) (F : Nat → Prop) (H : Lv w' b F 3 1 2 (List.replicate 9 0) (newT (mixN 1) 1)) (v : Value) (hR : Rd chgEn 5 w' v [(((0, 0), 3), -1, 6)]) (hv : ∀ z, v.ownBlock = some z → ¬ F z ∧ z < w'.heap.size) =>
    lv_Turn (a := (List.replicate 9 0, newT (mixN 1) 1)) H hI0 v [(((0, 0), 3), -1, 6)] hR (by intro x hx; simp at hx; subst hx; exact ok0) hv (by decide))
  unfold LvTPost at cT
  rw [hrun] at cT
  have hll : (lvL [] ((0, 0), 3) 6).length < 50000000 := by simp [lvL, intoL]
  have cL := hid (fun (w' : World) (b : Nat) (F : Nat → Prop) (H : Lv w' b F ((3 : Nat) : Int) 1 2 (lvC 1 2 (List.replicate 9 0) (newT (mixN 1) 1) ((0, 0), 3) 6) (lvT (newT (mixN 1) 1) ((0, 0), 3) 6)) => lv_look H hI1 (by decide) (by decide) hll (0, 7) ok7)
  rw [hcut] at cL
  rw [show (((0, 0), ((3 : Nat) : Int)) : Pf) = ((0, 0), 3) from rfl] at cL
  rw [hval.1, hval.2, hmay] at cL
  clear hI0 hI1 hmem hval hmay hrun hcut hll
  unfold LvNew at c1
  generalize lvC 1 2 (List.replicate 9 0) (newT (mixN 1) 1) ((0, 0), 3) 6 = c' at *
  generalize lvT (newT (mixN 1) 1) ((0, 0), 3) 6 = t' at *
  generalize newT (mixN 1) 1 = t0 at *
  generalize List.replicate 9 0 = cc at *
  go_enter Tryz.func4, Tryz.ntmps4
  go_wp2_with fail
  refine (c0.out _).mono ?_
  rintro _ w1 ⟨rfl, hb1⟩
  have HB1 := hid hb1
  clear hb1 c0
  go_wp2_with fail
  refine (c1.out _).mono ?_
  rintro _ w2 ⟨b, F, rfl, hL, hF, hb2⟩
  have HL := hid hL
  have HF := hid hF
  have HB2 := hid (held_next HB1.out hb2)
  have hs1 := HB1.out.size
  clear hL hF hb2 c1
  go_wp2_with fail
  refine (cn.out _ _).mono ?_
  rintro _ w3 ⟨rfl, rfl⟩
  go_wp2_with fail
  refine (cn.out _ _).mono ?_
  rintro _ w3 ⟨rfl, rfl⟩
  go_wp2_with fail
  have hbk := (Below.refl w2.heap.size w2).alloc (Nat.le_refl _) (.cells #[.int .u64 0, .int .u64 0, .int .i64 3, .int .i64 (-1), .int .i64 6] 40)
  have hblk := Blk.new w2 [.int .u64 0, .int .u64 0, .int .i64 3, .int .i64 (-1), .int .i64 6] 40
  have HB3 := hid (held_next HB2.out hbk)
  have hLr := (HL.out.mono (G := fun z => F z ∧ z < w2.heap.size) (fun z hz h => ⟨h, hz⟩)).below hbk
  refine (cT.out _ _ _ hLr _ (Rd.of_blk (en := chgEn) (l := [(((0, 0), 3), -1, 6)]) hblk chgEn_len (by unfold maxLen; simp)) (fun z hz => ?_)).mono ?_
  · injection hz with hz
    have h1 : z = w2.heap.size := hz.symm
    subst h1
    refine ⟨fun h => by have := h.2; omega, by simp⟩
  rintro _ w4 ⟨rfl, hL4, hC4⟩
  have HL4 := hid hL4
  have hs2 := HB3.out.size
  have HB4 := hid (HB3.out.trans (hC4.below HB3.out.size (fun z hz h => by have := HF.out z h.1; omega)))
  clear hbk hblk hLr hL4 hC4 cT HL HB2 HB3
  go_wp2_with fail
  refine (cL.out _ _ _ HL4.out).mono ?_
  rintro _ w5 ⟨rfl, hb5⟩
  have HB5 := hid (held_next HB4.out hb5)
  have HL5 := hid (HL4.out.below hb5)
  have cBt := hid (lv_bits HL5.out)
  clear hb5 cL
  go_wp2_with fail
  refine cBt.out.mono ?_
  rintro _ w6 ⟨rfl, rfl⟩
  go_wp2_with fail
  go_ret
  exact ⟨rfl, HB5.out⟩

end Go.Proofs.YtpjjijhojcfmnaaGreat
