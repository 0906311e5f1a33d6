/-
  The contract of the document's Of. No condition but that there are no more than fifty thousand routes of each.
-/
import Derived.Test.YtcchjljdhjkmeaaRefOfM
namespace Go.Proofs.Ytcchjljdhjkmeaa
open Go.RowKit
set_option linter.unusedVariables false
set_option linter.unusedSimpArgs false
set_option maxRecDepth 100000

theorem rch_row : (Try.prog.info? 81).map (fun i => (i.zero, i.size, i.bytes)) = some (some (.agg #[.int .u64 0, .int .u64 0, .int .i64 0, .int .i64 0, .int .i64 0]), 5, 40) := by kernel_rfl
def RetRChs (w : World) (l : List Ch) (e : Ending) (w' : World) : Prop := ∃ v, e = .returned v ∧ Owns w' w.heap.size 81 5 v l.length (chsV l) ∧ Below w.heap.size w w'
def RoRel (w3 : World) (F T L : List Rt) (v i : Value) (wr : World) : Prop :=
  ∃ j : Nat, j ≤ L.length ∧ i = .int .i64 j ∧ Owns wr w3.heap.size 81 5 v (refD F T (L.take j)).length (chsV (refD F T (L.take j))) ∧ Below w3.heap.size w3 wr
theorem cell3 {w w' : World} {b o j : Nat} {r : Rt} (lb : b < w.heap.size) (sa : ∀ i u, (rtEn r)[i]? = some u → w.cell? ⟨b, o + j * 4 + i, none⟩ = some u) (h : Below w.heap.size w w') :
    w'.cell? ⟨b, o + j * 4, none⟩ = some (.int .u64 (r.1.1.1 : Int)) ∧ w'.cell? ⟨b, o + j * 4 + 1, none⟩ = some (.int .u64 (r.1.1.2 : Int)) ∧ w'.cell? ⟨b, o + j * 4 + 2, none⟩ = some (.int .i64 r.1.2) ∧ w'.cell? ⟨b, o + j * 4 + 3, none⟩ = some (.int .i64 r.2) :=
  ⟨(h.cell (p := ⟨b, o + j * 4, none⟩) lb).trans (sa 0 _ rfl), (h.cell (p := ⟨b, o + j * 4 + 1, none⟩) lb).trans (sa 1 _ rfl), (h.cell (p := ⟨b, o + j * 4 + 2, none⟩) lb).trans (sa 2 _ rfl), (h.cell (p := ⟨b, o + j * 4 + 3, none⟩) lb).trans (sa 3 _ rfl)⟩
/-- Where a key's hop lies. -/
theorem find_cell {w : World} {A : Option Addr} {n cap : Nat} {l : List Rt} (R : Rd rtEn 4 w (.slice A n cap) l) (hn : l.length = n) {p : Pf} {v : Int} (h : lookR l p = some v) :
    ∃ b o k, A = some ⟨b, o, none⟩ ∧ findI l p = ((k : Nat) : Int) ∧ k < n ∧ ∀ w', Below w.heap.size w w' → w'.cell? ⟨b, o + k * 4 + 3, none⟩ = some (.int .i64 v) := by
  obtain ⟨k, hk, hg⟩ := (find_look p).2 v h
  obtain ⟨b, o, q, hv, _, _, lb, sa⟩ := R.get rtEn_length (by decide) hg
  injection hv with h1 h2 h3
  have hkl := (List.getElem?_eq_some_iff.1 hg).1
  exact ⟨b, o, k, h1, hk, by omega, fun w' hb => (cell3 lb sa hb).2.2.2⟩

set_option maxHeartbeats 8000000 in
theorem ref_of (w : World) (v1 v2 : Value) (l1 l2 : List Rt) (R1 : Rd rtEn 4 w v1 l1) (R2 : Rd rtEn 4 w v2 l2) (h1 : l1.length ≤ 50000) (h2 : l2.length ≤ 50000) :
    Calls Try.prog 33 #[v1, v2] w (RetRChs w (mergeD (sortedL l1) (sortedL l2))) := by
  have c1 := hid (ref_sorted w v1 l1 R1 (by omega))
  have c2 := hid (fun (w' : World) (h : Below w.heap.size w w') => ref_sorted w' v2 l2 (R2.below rtEn_length h) (by omega))
  have HL := hid (show (sortedL l1).length ≤ 50000 ∧ (sortedL l2).length ≤ 50000 from by have := sorted_le l1; have := sorted_le l2; omega)
  have HM := hid (refD_is (sorted_ord l1) (sorted_ord l2))
  generalize sortedL l1 = F at c1 HL HM ⊢
  generalize sortedL l2 = T at c2 HL HM ⊢
  have c3 := hid (fun (w' : World) (v : Value) (h : Rd rtEn 4 w' v (F ++ T)) => ref_sorted w' v (F ++ T) h (by rw [List.length_append]; have := HL.out; omega))
  have HLL := hid (show (sortedL (F ++ T)).length ≤ 100000 from by have := sorted_le (F ++ T); rw [List.length_append] at this; have := HL.out; omega)
  have HIN0 := hid (show ∀ r ∈ sortedL (F ++ T), ¬ (lookR F r.1 = none ∧ lookR T r.1 = none) from fun r hr ⟨a, b⟩ => by
    rcases List.mem_append.1 (sorted_mem hr) with h | h
    · exact lookR_none.1 a r h rfl
    · exact lookR_none.1 b r h rfl)
  generalize sortedL (F ++ T) = L at c3 HM HLL HIN0
  clear R1 R2 h1 h2
  go_enter Try.func33, Try.ntmps33
  go_wp2_with fail
  refine c1.out.mono ?_
  rintro _ w1 ⟨u1, rfl, hO1, hb1⟩
  have HB1 := hid hb1
  have HR1 := hid hO1.rd
  clear hb1 hO1 c1
  go_wp2_with fail
  refine (c2.out _ HB1.out).mono ?_
  rintro _ w2 ⟨u2, rfl, hO2, hb2⟩
  have HB2 := hid (held_next HB1.out hb2)
  have HF2 := hid (HR1.out.below rtEn_length hb2)
  have HT2 := hid hO2.rd
  clear hb2 hO2 c2 HR1 HB1
  obtain ⟨Af, cf, rfl, f1, f2⟩ := HF2.out.form
  obtain ⟨At, ct, rfl, t1, t2⟩ := HT2.out.form
  go_wp2_with (at_builtin; refine wpList_append_rd rfl (.const (.slice none 0 0)) _ 22 rfl 39 _ 4 32 Try.underlying22 rt_row rfl (by decide) w2.heap.size _ 0 [] rfl (Owns.nil _ _ _ _) _ rfl F HF2.out rtEn_length cells_rt ?c1 ?c2 ?c3 ?_)
  case c1 => have := HL.out; unfold maxLen; omega
  case c2 => have := HL.out; omega
  case c3 => exact Nat.le_refl _
  intro v3 w3 hO3 hC3
  have HB23 := hid (hC3.below (B := w2.heap.size) (Nat.le_refl _) (fun i hi h => by cases h))
  have HT3 := hid (HT2.out.below rtEn_length HB23.out)
  have HS3 := hid HB23.out.size
  have HO3 := hid hO3
  clear hO3 hC3
  go_wp2_with (at_builtin; refine wpList_append_rd rfl _ _ 22 rfl 39 _ 4 32 Try.underlying22 rt_row rfl (by decide) w2.heap.size _ F.length _ rfl HO3.out _ rfl T HT3.out rtEn_length cells_rt ?d1 ?d2 ?d3 ?_)
  case d1 => have := HL.out; unfold maxLen; omega
  case d2 => have := HL.out; omega
  case d3 => exact HS3.out
  intro v4 w4 hO4 hC4
  have HB24 := hid (HB23.out.trans (hC4.below (B := w2.heap.size) HS3.out (fun i hi h => by have := (Owns.base_le HO3.out i h).1; omega)))
  have HR4 := hid (show Rd rtEn 4 w4 v4 (F ++ T) from Rd.of_owns (l := F ++ T) (by rw [List.length_append, List.flatMap_append]; simpa using hO4) rtEn_length)
  clear hO4 hC4 HT3 HO3 HB23 HS3
  go_wp2_with fail
  refine (c3.out _ _ HR4.out).mono ?_
  rintro _ w5 ⟨u5, rfl, hO5, hb5⟩
  have HB25 := hid (held_next HB24.out hb5)
  have HB5 := hid (held_next HB2.out HB25.out)
  have HF5 := hid (HF2.out.below rtEn_length HB25.out)
  have HT5 := hid (HT2.out.below rtEn_length HB25.out)
  have HR5 := hid hO5.rd
  clear hO5 hb5 c3 HR4 HB24 HF2 HT2 HB2 HB25
  obtain ⟨Al, cl, rfl, _, _⟩ := HR5.out.form
  obtain ⟨nf, hnf⟩ : ∃ n, F.length = n := ⟨_, rfl⟩
  obtain ⟨nt, hnt⟩ : ∃ n, T.length = n := ⟨_, rfl⟩
  obtain ⟨nl, hnl⟩ : ∃ n, L.length = n := ⟨_, rfl⟩
  have hf5 := HF5.out
  have ht5 := HT5.out
  have hr5 := HR5.out
  have hLL := HLL.out
  have hL := HL.out
  rw [hnf] at hf5 f1 ⊢
  rw [hnt] at ht5 t1 ⊢
  rw [hnl] at hr5 hLL ⊢
  rw [hnf, hnt] at hL
  have HF := hid hf5
  have HT := hid ht5
  have HR := hid hr5
  have HNF := hid hnf
  have HNT := hid hnt
  have HNL := hid hnl
  unfold maxLen at f2 t2
  clear hf5 ht5 hr5 HF5 HT5 HR5 HL HLL hnf hnt hnl
  go_wp2_with fail
  go_loopw [6, 7] (fun v i wr => RoRel w5 F T L v i wr) (fun _ i _ => nl - (intOf i).toNat)
  case atStart => exact ⟨0, Nat.zero_le _, rfl, Owns.nil _ _ _ _, Below.refl _ _⟩
  case round =>
    obtain ⟨j, hj, rfl, hO, hB⟩ := hrel
    rw [HNL.out] at hj
    have HB := hid hB
    by_cases hjn : j < nl
    · obtain ⟨x, hx⟩ : ∃ x, L[j]? = some x := ⟨_, List.getElem?_eq_getElem (by rw [HNL.out]; exact hjn)⟩
      obtain ⟨bx, ox, qx, hvx, _, _, lx, sx⟩ := HR.out.get rtEn_length (by decide) hx
      injection hvx with a1 a2 a3
      subst a1 a3
      obtain ⟨y0, y1, y2, _⟩ := cell3 lx sx HB.out
      have HIN := hid (HIN0.out x (List.mem_of_getElem? hx))
      have HSN := hid (refD_snoc (F := F) (T := T) hx)
      have hlen := refD_len F T (L.take j)
      rw [List.length_take] at hlen
      generalize refD F T (L.take j) = D at hO HSN hlen
      obtain ⟨Ao, co, rfl, o1, o2⟩ := (Rd.of_owns (l := D) hO chgEn_len).form
      obtain ⟨nd, hnd⟩ : ∃ n, D.length = n := ⟨_, rfl⟩
      rw [hnd] at hO hlen o1 ⊢
      have hndb : nd ≤ 100000 := by omega
      have HO := hid hO
      have HND := hid hnd
      unfold maxLen at o2
      have cF := hid (fun (w' : World) (h : Below w5.heap.size w5 w') => ref_find w' _ F (HF.out.below rtEn_length h) x.1)
      have cT := hid (fun (w' : World) (h : Below w5.heap.size w5 w') => ref_find w' _ T (HT.out.below rtEn_length h) x.1)
      have hCH : refD F T (L.take (j + 1)) = D ++ (if lookR F x.1 = lookR T x.1 then [] else [(x.1, (lookR F x.1).getD (-1), (lookR T x.1).getD (-1))]) := HSN.out
      have j0 : (0 : Int) ≤ (j : Int) := by omega
      have j1 : (j : Int) < (nl : Int) := by omega
      have e3 : IntKind.i64.wrap ((j : Int) + 1) = (j : Int) + 1 := by rw [IntKind.wrap_i64]; omega
      have HJN := hid hjn
      clear hO hB hnd hx sx lx a2 hjn HSN hlen
      obtain ⟨⟨⟨x1, x2⟩, x3⟩, x4⟩ := x
      simp only at y0 y1 y2 cF cT hCH
      have HBA := hid (HB.out.alloc HB.out.size (.cells #[.int .u64 (x1 : Int), .int .u64 (x2 : Int), .int .i64 x3, .int .i64 (-1), .int .i64 (-1)] 81))
      have HBW := hid ((Below.refl wr.heap.size wr).alloc (Nat.le_refl _) (.cells #[.int .u64 (x1 : Int), .int .u64 (x2 : Int), .int .i64 x3, .int .i64 (-1), .int .i64 (-1)] 81))
      have BC := hid (Blk.new wr [.int .u64 (x1 : Int), .int .u64 (x2 : Int), .int .i64 x3, .int .i64 (-1), .int .i64 (-1)] 81)
      have hsz5 := hid HB.out.size
      cases eF : lookR F ((x1, x2), x3) with
      | none =>
        cases eT : lookR T ((x1, x2), x3) with
        | none =>
          exact absurd ⟨eF, eT⟩ HIN.out
        | some vt =>
          rw [eF, eT] at hCH
          have iF := (find_look (l := F) ((x1, x2), x3)).1 eF
          obtain ⟨bt, ot, kt, hAt, iT, hkt, zT⟩ := find_cell HT.out HNT.out eT
          subst hAt
          have m0 : (kt : Int) ≥ 0 := by omega
          have m00 : (0 : Int) ≤ (kt : Int) := by omega
          have m1 : (kt : Int) < (nt : Int) := by omega
          have m2 : ¬ (kt : Int) < 0 := by omega
          have m3 : decide ((kt : Int) < 0) = false := decide_eq_false m2
          have ZT := hid zT
          have HCH := hid hCH
          rw [iF] at cF
          rw [iT] at cT
          clear hCH iF iT eF eT zT hkt
          go_wp2_with fail
          refine (cF.out _ HBA.out).mono ?_
          rintro _ w6 ⟨rfl, hb6⟩
          have HB6 := hid (held_next HBA.out hb6)
          have BC6 := hid (BC.out.below' hb6)
          have HW6 := hid (held_next HBW.out hb6)
          clear hb6 BC y0 y1 y2
          have q0 := BC6.out.cellv (i := 0) rfl
          have q1 := BC6.out.cellv (i := 1) rfl
          have q2 := BC6.out.cellv (i := 2) rfl
          go_wp2_with fail
          refine (cT.out _ HB6.out).mono ?_
          rintro _ w7 ⟨rfl, hb7⟩
          have HB7 := hid (held_next HB6.out hb7)
          have BC7 := hid (BC6.out.below' hb7)
          have HW7 := hid (held_next HW6.out hb7)
          clear hb7 BC6 q0 q1 q2
          have q0 := BC7.out.cellv (i := 0) rfl
          have q1 := BC7.out.cellv (i := 1) rfl
          have q2 := BC7.out.cellv (i := 2) rfl
          have q3 := BC7.out.cellv (i := 3) rfl
          have q4 := BC7.out.cellv (i := 4) rfl
          have f3 := BC7.out.frozen 3
          have f4 := BC7.out.frozen 4
          have zt := ZT.out w7 HB7.out
          have HBX := hid (show Below wr.heap.size wr ((w7).setCell ⟨wr.heap.size, 4, none⟩ (.int .i64 vt)) from ((HW7.out).setCell (p := ⟨wr.heap.size, 4, none⟩) (Nat.le_refl _) (.int .i64 vt)))
          have HB5X := hid (show Below w5.heap.size w5 ((w7).setCell ⟨wr.heap.size, 4, none⟩ (.int .i64 vt)) from ((HB7.out).setCell (p := ⟨wr.heap.size, 4, none⟩) hsz5.out (.int .i64 vt)))
          have HOX := hid (Owns.below HO.out HBX.out)
          have HSX := hid HB5X.out.size
          go_wp2_with (at_builtin; refine wpList_pushm rfl _ _ 57 rfl 81 _ 5 40 Try.underlying57 rch_row rfl (by decide) w5.heap.size _ nd _ rfl HOX.out w7.heap.size (by simp) 1 [.int .u64 _, .int .u64 _, .int .i64 _, .int .i64 _, .int .i64 _] rfl rfl ?k1a ?k1b ?k1c ?k1d ?_)
          case k1a => intro u hu; simp at hu; rcases hu with rfl | rfl | rfl | rfl | rfl <;> rfl
          case k1b => unfold maxLen; omega
          case k1c => omega
          case k1d => exact HSX.out
          intro v8 w8 hO8 hC8
          have HB8 := hid (HB5X.out.trans (hC8.below HSX.out (fun i hi h => by have := (Owns.base_le HOX.out i h).1; omega)))
          have HO8 := hid hO8
          clear hO8 hC8
          go_wp2_with fail
          go_roundw
          case rel => exact ⟨j + 1, by have := HJN.out; have := HNL.out; omega, by go_num, by rw [HCH.out, if_neg (by simp), List.length_append, HND.out, chsV, List.flatMap_append]; exact HO8.out, HB8.out⟩
          case measure => have := HJN.out; simp [intOf]; omega
      | some vf =>
        cases eT : lookR T ((x1, x2), x3) with
        | none =>
          rw [eF, eT] at hCH
          obtain ⟨bf, of, kf, hAf, iF, hkf, zF⟩ := find_cell HF.out HNF.out eF
          subst hAf
          have k0 : (kf : Int) ≥ 0 := by omega
          have k00 : (0 : Int) ≤ (kf : Int) := by omega
          have k1 : (kf : Int) < (nf : Int) := by omega
          have k2 : ¬ (kf : Int) < 0 := by omega
          have k3 : decide ((kf : Int) < 0) = false := decide_eq_false k2
          have ZF := hid zF
          have iT := (find_look (l := T) ((x1, x2), x3)).1 eT
          have HCH := hid hCH
          rw [iF] at cF
          rw [iT] at cT
          clear hCH iF iT eF eT zF hkf
          go_wp2_with fail
          refine (cF.out _ HBA.out).mono ?_
          rintro _ w6 ⟨rfl, hb6⟩
          have HB6 := hid (held_next HBA.out hb6)
          have BC6 := hid (BC.out.below' hb6)
          have HW6 := hid (held_next HBW.out hb6)
          clear hb6 BC y0 y1 y2
          have q0 := BC6.out.cellv (i := 0) rfl
          have q1 := BC6.out.cellv (i := 1) rfl
          have q2 := BC6.out.cellv (i := 2) rfl
          go_wp2_with fail
          refine (cT.out _ HB6.out).mono ?_
          rintro _ w7 ⟨rfl, hb7⟩
          have HB7 := hid (held_next HB6.out hb7)
          have BC7 := hid (BC6.out.below' hb7)
          have HW7 := hid (held_next HW6.out hb7)
          clear hb7 BC6 q0 q1 q2
          have q0 := BC7.out.cellv (i := 0) rfl
          have q1 := BC7.out.cellv (i := 1) rfl
          have q2 := BC7.out.cellv (i := 2) rfl
          have q3 := BC7.out.cellv (i := 3) rfl
          have q4 := BC7.out.cellv (i := 4) rfl
          have f3 := BC7.out.frozen 3
          have f4 := BC7.out.frozen 4
          have zf := ZF.out w7 HB7.out
          have HBX := hid (show Below wr.heap.size wr ((w7).setCell ⟨wr.heap.size, 3, none⟩ (.int .i64 vf)) from ((HW7.out).setCell (p := ⟨wr.heap.size, 3, none⟩) (Nat.le_refl _) (.int .i64 vf)))
          have HB5X := hid (show Below w5.heap.size w5 ((w7).setCell ⟨wr.heap.size, 3, none⟩ (.int .i64 vf)) from ((HB7.out).setCell (p := ⟨wr.heap.size, 3, none⟩) hsz5.out (.int .i64 vf)))
          have HOX := hid (Owns.below HO.out HBX.out)
          have HSX := hid HB5X.out.size
          go_wp2_with (at_builtin; refine wpList_pushm rfl _ _ 57 rfl 81 _ 5 40 Try.underlying57 rch_row rfl (by decide) w5.heap.size _ nd _ rfl HOX.out w7.heap.size (by simp) 1 [.int .u64 _, .int .u64 _, .int .i64 _, .int .i64 _, .int .i64 _] rfl rfl ?k2a ?k2b ?k2c ?k2d ?_)
          case k2a => intro u hu; simp at hu; rcases hu with rfl | rfl | rfl | rfl | rfl <;> rfl
          case k2b => unfold maxLen; omega
          case k2c => omega
          case k2d => exact HSX.out
          intro v8 w8 hO8 hC8
          have HB8 := hid (HB5X.out.trans (hC8.below HSX.out (fun i hi h => by have := (Owns.base_le HOX.out i h).1; omega)))
          have HO8 := hid hO8
          clear hO8 hC8
          go_wp2_with fail
          go_roundw
          case rel => exact ⟨j + 1, by have := HJN.out; have := HNL.out; omega, by go_num, by rw [HCH.out, if_neg (by simp), List.length_append, HND.out, chsV, List.flatMap_append]; exact HO8.out, HB8.out⟩
          case measure => have := HJN.out; simp [intOf]; omega
        | some vt =>
          rw [eF, eT] at hCH
          by_cases hv : vf = vt
          · have hvv := hid hv
            have s1 : (vf != vt) = false := by simp [hv]
            have s2 : decide (vf = vt) = true := by simp [hv]
            have s3 : (vf == vt) = true := by simp [hv]
            clear hv
            obtain ⟨bf, of, kf, hAf, iF, hkf, zF⟩ := find_cell HF.out HNF.out eF
            subst hAf
            have k0 : (kf : Int) ≥ 0 := by omega
            have k00 : (0 : Int) ≤ (kf : Int) := by omega
            have k1 : (kf : Int) < (nf : Int) := by omega
            have k2 : ¬ (kf : Int) < 0 := by omega
            have k3 : decide ((kf : Int) < 0) = false := decide_eq_false k2
            have ZF := hid zF
            obtain ⟨bt, ot, kt, hAt, iT, hkt, zT⟩ := find_cell HT.out HNT.out eT
            subst hAt
            have m0 : (kt : Int) ≥ 0 := by omega
            have m00 : (0 : Int) ≤ (kt : Int) := by omega
            have m1 : (kt : Int) < (nt : Int) := by omega
            have m2 : ¬ (kt : Int) < 0 := by omega
            have m3 : decide ((kt : Int) < 0) = false := decide_eq_false m2
            have ZT := hid zT
            have HCH := hid hCH
            rw [iF] at cF
            rw [iT] at cT
            clear hCH iF iT eF eT zF hkf zT hkt
            go_wp2_with fail
            refine (cF.out _ HBA.out).mono ?_
            rintro _ w6 ⟨rfl, hb6⟩
            have HB6 := hid (held_next HBA.out hb6)
            have BC6 := hid (BC.out.below' hb6)
            have HW6 := hid (held_next HBW.out hb6)
            clear hb6 BC y0 y1 y2
            have q0 := BC6.out.cellv (i := 0) rfl
            have q1 := BC6.out.cellv (i := 1) rfl
            have q2 := BC6.out.cellv (i := 2) rfl
            go_wp2_with fail
            refine (cT.out _ HB6.out).mono ?_
            rintro _ w7 ⟨rfl, hb7⟩
            have HB7 := hid (held_next HB6.out hb7)
            have BC7 := hid (BC6.out.below' hb7)
            have HW7 := hid (held_next HW6.out hb7)
            clear hb7 BC6 q0 q1 q2
            have q0 := BC7.out.cellv (i := 0) rfl
            have q1 := BC7.out.cellv (i := 1) rfl
            have q2 := BC7.out.cellv (i := 2) rfl
            have q3 := BC7.out.cellv (i := 3) rfl
            have q4 := BC7.out.cellv (i := 4) rfl
            have f3 := BC7.out.frozen 3
            have f4 := BC7.out.frozen 4
            have zf := ZF.out w7 HB7.out
            have zt := ZT.out w7 HB7.out
            have zt2 : ((w7).setCell ⟨wr.heap.size, 3, none⟩ (.int .i64 vf)).cell? ⟨bt, ot + kt * 4 + 3, none⟩ = some (.int .i64 vt) := ZT.out _ ((HB7.out).setCell (p := ⟨wr.heap.size, 3, none⟩) hsz5.out (.int .i64 vf))
            have HBX := hid (show Below wr.heap.size wr ((((w7).setCell ⟨wr.heap.size, 3, none⟩ (.int .i64 vf))).setCell ⟨wr.heap.size, 4, none⟩ (.int .i64 vt)) from ((((HW7.out).setCell (p := ⟨wr.heap.size, 3, none⟩) (Nat.le_refl _) (.int .i64 vf))).setCell (p := ⟨wr.heap.size, 4, none⟩) (Nat.le_refl _) (.int .i64 vt)))
            have HB5X := hid (show Below w5.heap.size w5 ((((w7).setCell ⟨wr.heap.size, 3, none⟩ (.int .i64 vf))).setCell ⟨wr.heap.size, 4, none⟩ (.int .i64 vt)) from ((((HB7.out).setCell (p := ⟨wr.heap.size, 3, none⟩) hsz5.out (.int .i64 vf))).setCell (p := ⟨wr.heap.size, 4, none⟩) hsz5.out (.int .i64 vt)))
            have HOX := hid (Owns.below HO.out HBX.out)
            go_wp2_with fail
            go_roundw
            case rel => exact ⟨j + 1, by have := HJN.out; have := HNL.out; omega, by go_num, by rw [HCH.out, if_pos (by rw [hvv.out]), List.append_nil, HND.out]; exact HOX.out, HB5X.out⟩
            case measure => have := HJN.out; simp [intOf]; omega
          · have hvv := hid hv
            have s1 : (vf != vt) = true := by simp [hv]
            have s2 : decide (vf = vt) = false := by simp [hv]
            have s3 : (vf == vt) = false := by simp [hv]
            obtain ⟨bf, of, kf, hAf, iF, hkf, zF⟩ := find_cell HF.out HNF.out eF
            subst hAf
            have k0 : (kf : Int) ≥ 0 := by omega
            have k00 : (0 : Int) ≤ (kf : Int) := by omega
            have k1 : (kf : Int) < (nf : Int) := by omega
            have k2 : ¬ (kf : Int) < 0 := by omega
            have k3 : decide ((kf : Int) < 0) = false := decide_eq_false k2
            have ZF := hid zF
            obtain ⟨bt, ot, kt, hAt, iT, hkt, zT⟩ := find_cell HT.out HNT.out eT
            subst hAt
            have m0 : (kt : Int) ≥ 0 := by omega
            have m00 : (0 : Int) ≤ (kt : Int) := by omega
            have m1 : (kt : Int) < (nt : Int) := by omega
            have m2 : ¬ (kt : Int) < 0 := by omega
            have m3 : decide ((kt : Int) < 0) = false := decide_eq_false m2
            have ZT := hid zT
            have HCH := hid hCH
            rw [iF] at cF
            rw [iT] at cT
            clear hCH iF iT eF eT zF hkf zT hkt
            go_wp2_with fail
            refine (cF.out _ HBA.out).mono ?_
            rintro _ w6 ⟨rfl, hb6⟩
            have HB6 := hid (held_next HBA.out hb6)
            have BC6 := hid (BC.out.below' hb6)
            have HW6 := hid (held_next HBW.out hb6)
            clear hb6 BC y0 y1 y2
            have q0 := BC6.out.cellv (i := 0) rfl
            have q1 := BC6.out.cellv (i := 1) rfl
            have q2 := BC6.out.cellv (i := 2) rfl
            go_wp2_with fail
            refine (cT.out _ HB6.out).mono ?_
            rintro _ w7 ⟨rfl, hb7⟩
            have HB7 := hid (held_next HB6.out hb7)
            have BC7 := hid (BC6.out.below' hb7)
            have HW7 := hid (held_next HW6.out hb7)
            clear hb7 BC6 q0 q1 q2
            have q0 := BC7.out.cellv (i := 0) rfl
            have q1 := BC7.out.cellv (i := 1) rfl
            have q2 := BC7.out.cellv (i := 2) rfl
            have q3 := BC7.out.cellv (i := 3) rfl
            have q4 := BC7.out.cellv (i := 4) rfl
            have f3 := BC7.out.frozen 3
            have f4 := BC7.out.frozen 4
            have zf := ZF.out w7 HB7.out
            have zt := ZT.out w7 HB7.out
            have zt2 : ((w7).setCell ⟨wr.heap.size, 3, none⟩ (.int .i64 vf)).cell? ⟨bt, ot + kt * 4 + 3, none⟩ = some (.int .i64 vt) := ZT.out _ ((HB7.out).setCell (p := ⟨wr.heap.size, 3, none⟩) hsz5.out (.int .i64 vf))
            have HBX := hid (show Below wr.heap.size wr ((((w7).setCell ⟨wr.heap.size, 3, none⟩ (.int .i64 vf))).setCell ⟨wr.heap.size, 4, none⟩ (.int .i64 vt)) from ((((HW7.out).setCell (p := ⟨wr.heap.size, 3, none⟩) (Nat.le_refl _) (.int .i64 vf))).setCell (p := ⟨wr.heap.size, 4, none⟩) (Nat.le_refl _) (.int .i64 vt)))
            have HB5X := hid (show Below w5.heap.size w5 ((((w7).setCell ⟨wr.heap.size, 3, none⟩ (.int .i64 vf))).setCell ⟨wr.heap.size, 4, none⟩ (.int .i64 vt)) from ((((HB7.out).setCell (p := ⟨wr.heap.size, 3, none⟩) hsz5.out (.int .i64 vf))).setCell (p := ⟨wr.heap.size, 4, none⟩) hsz5.out (.int .i64 vt)))
            have HOX := hid (Owns.below HO.out HBX.out)
            have HSX := hid HB5X.out.size
            go_wp2_with (at_builtin; refine wpList_pushm rfl _ _ 57 rfl 81 _ 5 40 Try.underlying57 rch_row rfl (by decide) w5.heap.size _ nd _ rfl HOX.out w7.heap.size (by simp) 1 [.int .u64 _, .int .u64 _, .int .i64 _, .int .i64 _, .int .i64 _] rfl rfl ?k4a ?k4b ?k4c ?k4d ?_)
            case k4a => intro u hu; simp at hu; rcases hu with rfl | rfl | rfl | rfl | rfl <;> rfl
            case k4b => unfold maxLen; omega
            case k4c => omega
            case k4d => exact HSX.out
            intro v8 w8 hO8 hC8
            have HB8 := hid (HB5X.out.trans (hC8.below HSX.out (fun i hi h => by have := (Owns.base_le HOX.out i h).1; omega)))
            have HO8 := hid hO8
            clear hO8 hC8
            go_wp2_with fail
            go_roundw
            case rel => exact ⟨j + 1, by have := HJN.out; have := HNL.out; omega, by go_num, by rw [HCH.out, if_neg (by intro h; injection h with h; exact hvv.out h), List.length_append, HND.out, chsV, List.flatMap_append]; exact HO8.out, HB8.out⟩
            case measure => have := HJN.out; simp [intOf]; omega
    · have hjj : L.take j = L := List.take_of_length_le (by rw [HNL.out]; omega)
      have HF2 := hid (show Owns wr w.heap.size 81 5 _ (mergeD F T).length (chsV (mergeD F T)) from by
        rw [hjj, HM.out] at hO
        exact hO.lower HB5.out.size)
      have HBW := hid (HB5.out.trans (hB.mono HB5.out.size))
      have c3 : ¬ (j : Int) < (nl : Int) := by omega
      obtain ⟨Ao, co, rfl, _, _⟩ := (Rd.of_owns (l := refD F T (L.take j)) hO chgEn_len).form
      rw [hjj, HM.out] at HF2 ⊢
      clear hO
      go_wp2_with fail
      go_ret
      exact ⟨_, rfl, HF2.out, HBW.out⟩
end Go.Proofs.Ytcchjljdhjkmeaa
