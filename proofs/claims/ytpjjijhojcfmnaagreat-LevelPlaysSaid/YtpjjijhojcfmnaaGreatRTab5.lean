/-
  The document's table: made, growing, putting for every depth, all keys in order. No condition but that there are fewer than a hundred thousand keys.
-/
import Derived.Test.YtpjjijhojcfmnaaGreatRTab4
namespace Go.Proofs.YtpjjijhojcfmnaaGreat
open Go.RowKit
set_option linter.unusedVariables false
set_option linter.unusedSimpArgs false
set_option maxRecDepth 100000

theorem rbk_row : (Tryz.prog.info? 84).map (fun i => (i.zero, i.size, i.bytes)) = some (some (.agg (rbV emptyB).toArray), 20, 136) := by kernel_rfl
/-- The made row, in any world. -/
theorem made_rbks (w : World) (n : Nat) : Blk (w.alloc (.cells (madeCells (rbV emptyB).toArray (n * 20)) 84)) w.heap.size 84 (rbksV (List.replicate n emptyB)) := by
  have h : ∀ n : Nat, madeCells (rbV emptyB).toArray (n * 20) = (rbksV (List.replicate n emptyB)).toArray := fun n => by
    apply Array.ext
    · rw [size_madeCells, List.size_toArray, rbksV_len (fun b hb => by rw [List.eq_of_mem_replicate hb]; rfl), List.length_replicate]
    · intro i h1 h2
      have hi : i < n * 20 := by rw [size_madeCells] at h1; exact h1
      have h3 : ∀ (n i : Nat), i < n * 20 → (rbksV (List.replicate n emptyB))[i]? = (rbV emptyB)[i % 20]? := by
        intro n
        induction n with
        | zero => intro i h; omega
        | succ n ih =>
          intro i h
          show (rbV emptyB ++ rbksV (List.replicate n emptyB))[i]? = _
          by_cases hi : i < 20
          · rw [List.getElem?_append_left (by exact hi), Nat.mod_eq_of_lt hi]
          · have e20 : (rbV emptyB).length = 20 := rfl
            rw [List.getElem?_append_right (by rw [e20]; omega), e20, ih (i - 20) (by omega)]
            congr 1; omega
      have h4 := h3 n i hi
      have h5 : i < (rbksV (List.replicate n emptyB)).length := by simpa using h2
      have hm : i % 20 < (rbV emptyB).length := Nat.mod_lt _ (by decide)
      rw [List.getElem?_eq_getElem h5, List.getElem?_eq_getElem hm] at h4
      injection h4 with h4
      simp only [madeCells, Array.getElem_map, Array.getElem_range, List.getElem_toArray, List.size_toArray]
      rw [h4]
      have e20 : (rbV emptyB).length = 20 := rfl
      simp only [e20]
      first
        | (rw [List.getElem?_eq_getElem hm]; rfl)
        | (simp [hm])
        | skip
  rw [h]; exact Blk.new w _ _


theorem rk_new (w : World) (s : Nat) (n : Nat) (h1 : 1 ≤ n) (h2 : n ≤ 65536) :
    Calls Tryz.prog 20 #[.int .u64 (s : Int), .int .i64 (n : Int)] w fun e w' => ∃ g, e = .returned (.tuple #[.pointer (some ⟨g, 0, none⟩), .int .i64 0]) ∧ w.heap.size ≤ g ∧ Below w.heap.size w w' ∧ ∃ q, RwQ w' g q (.slice none 0 0) (newT s n) ∧ w.heap.size ≤ q := by
  have hmk := fun w => make_atk (P := Tryz.prog) 78 84 _ 20 136 Tryz.underlying78 rbk_row .i64 .i64 (n : Int) n rfl (by omega) (by omega) w
  simp only [Value.cells] at hmk
  have HMB := hid (made_rbks w n)
  generalize madeCells (rbV emptyB).toArray (n * 20) = row at hmk HMB
  have c1 : ¬ ((n : Int) < 1) := by omega
  have c2 : ¬ ((n : Int) > 65536) := by omega
  have c3 : (n : Int) ≤ 65536 := by omega
  have c4 : (1 : Int) ≤ n := by omega
  go_enter Tryz.func20, Tryz.ntmps20
  go_wp2_with fail
  go_ret2
  refine ⟨w.heap.size + 1, rfl, by omega, ((Below.refl _ _).alloc (Nat.le_refl _) _).alloc (by simp) _, w.heap.size, ⟨?_, ?_, Owns.nil _ _ _ _, by omega, by simp [Value.ownBlock], by simp [Value.ownBlock]⟩, Nat.le_refl _⟩
  · rw [newT_n]; exact Blk.new_at _ _ _ _ (by simp)
  · exact HMB.out.alloc _
theorem rk_new_no (w : World) (s : Nat) (n : Int) (h : n < 1 ∨ 65536 < n) :
    Calls Tryz.prog 20 #[.int .u64 (s : Int), .int .i64 n] w fun e w' => e = .returned (.tuple #[.pointer none, .int .i64 1]) ∧ Below w.heap.size w w' := by
  by_cases h1 : n < 1
  · go_enter Tryz.func20, Tryz.ntmps20
    go_wp2_with fail
    go_ret2
    exact ⟨rfl, Below.refl _ _⟩
  · have h2 : 65536 < n := by omega
    go_enter Tryz.func20, Tryz.ntmps20
    go_wp2_with fail
    go_ret2
    exact ⟨rfl, Below.refl _ _⟩

theorem rkeys_all (t : Tb) : (keysT t).length = tc (fun _ => true) t := by rw [← keysT_cnt]; simp
def RGrowRel (w3 : World) (g qb : Nat) (put : Tb → Pf → Int → Tb) (t0 : Tb) (l : List Rt) (i : Value) (wr : World) : Prop :=
  ∃ k : Nat, k ≤ l.length ∧ i = .int .i64 k ∧ RwF wr g (fun z => z = g ∨ z = qb ∨ w3.heap.size ≤ z) ((l.take k).foldl (fun t r => put t r.1 r.2) t0) ∧ Chg (fun z => z = g ∨ z = qb) w3 wr

set_option maxHeartbeats 8000000 in
theorem rk_grow {put : Tb → Pf → Int → Tb} {d : Nat} (hput : RPutAt put d) (hpo : ∀ t p v, t.Ok → p.1.ok → PutOk t p v (put t p v)) {w : World} {g : Nat} {F : Nat → Prop} {t : Tb} (H : RwF w g F t) (hok : t.Ok) (hlen : (keysT t).length ≤ 99000) (hd : 65536 ≤ min (2 * t.n) 65536 * 2 ^ d) :
    Calls Tryz.prog 48 #[.pointer (some ⟨g, 0, none⟩)] w fun e w' => e = .returned (.tuple #[]) ∧ RwF w' g (fun z => F z ∨ w.heap.size ≤ z) (growStep put t) ∧ Chg F w w' := by
  obtain ⟨q, v, H, hFg, hFq, hFv⟩ := H
  obtain ⟨A0, cap0, rfl, hmc, hcm0, hA0⟩ := Owns.form H.st
  unfold maxLen at hcm0
  have hn2 := hok.n2
  have hn1 := hok.n1
  have hw : IntKind.i64.wrap (2 * (t.n : Int)) = 2 * (t.n : Int) := by rw [IntKind.wrap_i64]; omega
  obtain ⟨N, hN⟩ : ∃ N, min (2 * t.n) 65536 = N := ⟨_, rfl⟩
  have hmin : (if 2 * (t.n : Int) < 1 then (1 : Int) else if 65536 < 2 * (t.n : Int) then 65536 else 2 * (t.n : Int)) = (N : Int) := by
    rw [if_neg (by omega)]; split <;> omega
  have hmk := fun w => make_atk (P := Tryz.prog) 78 84 _ 20 136 Tryz.underlying78 rbk_row .i64 .i64 (N : Int) N rfl (by omega) (by omega) w
  simp only [Value.cells] at hmk
  have HMB := hid (fun w => made_rbks w N)
  generalize madeCells (rbV emptyB).toArray (N * 20) = row at hmk HMB
  have cM := hid (fun w => ref_mix t.s w)
  have cC := hid (fun w => ref_cap (2 * (t.n : Int)) 1 65536 w)
  rw [hmin] at cC
  have HLEN := hid hok.len
  have HH := hid H
  have HK := hid hlen
  have HF := hid (show F g from hFg)
  have HGQ := hid H.gq
  have hgw := H.top.lt
  have hfr := fresh_ok hok
  have hstart : fresh t = newT (mixN t.s) N := by unfold fresh newT emptyB; rw [hN]
  have HPO := hid (fun k => puts_ok hpo ((keysT t).take k) hfr (fun r hr => hok.ok r (List.mem_of_mem_take hr)) (fun p => by
    rw [fresh_tc, Nat.zero_add]
    have h1 := hok.one p
    rw [← keysT_cnt] at h1
    have h2 := (List.take_sublist k (keysT t)).countP_le (p := keyIs p)
    omega))
  have HKO := hid (fun (r : Rt) (h : r ∈ keysT t) => hok.ok r h)
  have hfn := fresh_n t
  rw [hN] at hfn hd
  have HG := hid (show growStep put t = ((keysT t).take (keysT t).length).foldl (fun t r => put t r.1 r.2) (newT (mixN t.s) N) by unfold growStep; rw [List.take_length, hstart])
  have HFT := hid (fun q => fresh_tc q t)
  rw [hstart] at hfn HPO HFT
  have HALL := hid (show (t.bs.flatMap entB) ++ t.st = keysT t from rfl)
  obtain ⟨n, hn⟩ : ∃ n, t.n = n := ⟨_, rfl⟩
  have HN := hid hn
  obtain ⟨m0, hm0⟩ : ∃ m0, t.st.length = m0 := ⟨_, rfl⟩
  have HM0 := hid hm0
  rw [hn] at hw hmin hn1 hn2 cC
  rw [hm0] at HH hmc
  have HSE := hid (show ∃ s, t.s = s from ⟨_, rfl⟩)
  obtain ⟨s, hs⟩ := HSE.out
  have HS0 := hid hs
  rw [hs] at cM HPO HG HFT hfn
  have y1 := HH.out.top.cellv (i := 1) rfl
  rw [hn] at y1
  clear H hok hFq hFv hN hfr hstart hn hm0 hs HSE hA0 hlen
  generalize growStep put t = RES at *
  obtain ⟨t0, ht0⟩ : ∃ t0, newT (mixN s) N = t0 := ⟨_, rfl⟩
  have H0 := hid ht0
  rw [ht0] at hfn HPO HG HFT
  clear ht0
  go_enter Tryz.func48, Tryz.ntmps48
  go_wp2_with fail
  go_loopw [2, 3] (fun v i wr => KeysRel w t n v i wr) (fun _ i _ => n - (intOf i).toNat)
  case atStart => exact ⟨0, Nat.zero_le _, rfl, Owns.nil _ _ _ _, Below.refl _ _⟩
  case round =>
    obtain ⟨k, hk, rfl, hO, hb⟩ := hrel
    have HB := hid hb
    have HHr := hid (HH.out.below hb)
    have y1 := HHr.out.top.cellv (i := 1) rfl
    have y2 := HHr.out.top.cellv (i := 2) rfl
    rw [HN.out] at y1
    by_cases hkn : k < n
    · have cA := hid (rk_ball HHr.out (i := k) (by rw [HN.out]; exact hkn) HLEN.out)
      have hkp := keys_part (t := t) k (by rw [HN.out]; exact hkn)
      have HSN := hid (keys_snoc (t := t) (k := k) (by rw [HN.out]; exact hkn))
      have hO2 := hO
      obtain ⟨A2, cap2, rfl, _, _, _⟩ := Owns.form hO
      have HO := hid hO2
      have HKP := hid hkp
      generalize hL : (t.bs.take k).flatMap entB = L at *
      generalize hE : entB (t.at k) = E at *
      obtain ⟨ln, hln⟩ : ∃ z, L.length = z := ⟨_, rfl⟩
      have HLN := hid hln
      have hk0 : (0 : Int) ≤ (k : Int) := by omega
      have hk1 : (k : Int) < (n : Int) := by omega
      clear hO hO2 hb hkp hL hE
      rw [hln] at HO HKP ⊢
      clear hln
      go_wp2_with fail
      refine cA.out.mono ?_
      rintro _ w1 ⟨u, rfl, hU, hb1⟩
      have HO1 := hid (HO.out.below hb1)
      have HRu := hid hU.rd
      obtain ⟨A3, cap3, hu⟩ := hU.form
      subst hu
      have hsz := HB.out.size
      have hs1 := hb1.size
      have HB1 := hid (held_next HB.out hb1)
      clear hU hb1 cA
      go_wp2_with (at_builtin; refine wpList_append_rdb rfl _ _ 47 rfl 77 _ 4 32 Tryz.underlying47 rt_row rfl (by decide) w.heap.size _ ln _ rfl HO1.out _ rfl E HRu.out rtEn_length cells_rt ?_ ?_ ?_ ?_)
      all_goals first
        | (intro v' w' hO' hI hC
           have HO' := hid hO'
           have HB2 := hid (HB1.out.trans (hC.below HB1.out.size (fun z hz e => by have := (Owns.base_le HO1.out z e).1; omega)))
           clear hO' hI hC
           go_wp2_with fail
           go_roundw
           case rel => exact ⟨k + 1, by omega, by go_num, by rw [HSN.out, List.length_append, HLN.out]; simpa [rtsV] using HO'.out, HB2.out⟩
           case measure => simp [intOf]; omega)
        | (have := HKP.out; have := HK.out; unfold maxLen; omega)
        | (have := HKP.out; have := HK.out; omega)
        | (have := HB1.out.size; omega)
    · have hkn : k = n := by omega
      subst hkn
      have hall : (t.bs.take k).flatMap entB = t.bs.flatMap entB := by rw [← HN.out]; unfold Tb.n; rw [List.take_length]
      rw [hall] at hO
      have HO := hid hO
      have hS := HHr.out.st
      have HRs := hid (Rd.of_owns (en := rtEn) (l := t.st) (by rw [HM0.out]; exact (by rw [HM0.out] at hS; exact hS)) rtEn_length)
      obtain ⟨A2, cap2, rfl, _, _, _⟩ := Owns.form hO
      have hkl : (t.bs.flatMap entB).length + t.st.length = (keysT t).length := by unfold keysT; rw [List.length_append]
      have HKL := hid hkl
      obtain ⟨ln, hln⟩ : ∃ z, (t.bs.flatMap entB).length = z := ⟨_, rfl⟩
      have HLN := hid hln
      rw [hln] at HO HKL ⊢
      clear hO hb hS hall hkl hln
      go_wp2_with (at_builtin; refine wpList_append_rdb rfl _ _ 47 rfl 77 _ 4 32 Tryz.underlying47 rt_row rfl (by decide) w.heap.size _ ln _ rfl HO.out _ rfl t.st HRs.out rtEn_length cells_rt ?_ ?_ ?_ ?_)
      all_goals first
        | (have := HKL.out; have := HK.out; unfold maxLen; omega)
        | (have := HKL.out; have := HK.out; omega)
        | exact HB.out.size
        | skip
      intro v' w1 hO' hI hC
      have hOk : Owns w1 w.heap.size 77 4 v' (keysT t).length (rtsV (keysT t)) := by
        rw [← HALL.out, List.length_append, HLN.out]; simpa [rtsV] using hO'
      have HOK1 := hid hOk
      have hB1 := HB.out.trans (hC.below HB.out.size (fun z hz e => by have := (Owns.base_le HO.out z e).1; omega))
      have HB1 := hid hB1
      have hgA : ¬ Value.ownBlock (.slice A2 ln cap2) = some g := fun e => by have := (Owns.base_le HO.out g e).1; omega
      have hqw := HH.out.bk.lt
      have hqA : ¬ Value.ownBlock (.slice A2 ln cap2) = some q := fun e => by have := (Owns.base_le HO.out q e).1; omega
      have hT1 := HHr.out.top.chg hC hgA
      have HT1 := hid hT1
      obtain ⟨A3, cap3, hv3, hl3, hc3, _⟩ := Owns.form hOk
      unfold maxLen at hc3
      subst hv3
      clear hO' hI hC hOk y2 HO HRs
      have y0 := hT1.cellv (i := 0) rfl
      have y1 := hT1.cellv (i := 1) rfl
      have y2 := hT1.cellv (i := 2) rfl
      rw [HN.out] at y1
      rw [HS0.out] at y0
      have y3 := hT1.frozen 0
      have y4 := hT1.frozen 1
      have y5 := hT1.frozen 2
      have hs1 := hB1.size
      have hAl := hT1.alloc (.cells row 84)
      have y6 := hAl.frozen 0
      have y7 := hAl.frozen 1
      have y8 := hAl.frozen 2
      have z0 := hAl.cellv (i := 0) rfl
      have z1 := hAl.cellv (i := 1) rfl
      have z2 := hAl.cellv (i := 2) rfl
      rw [HS0.out] at z0
      have hBQ := HMB.out w1
      have hA3 := ((hAl.set 1 (.slice (some ⟨w1.heap.size, 0, none⟩) N N)).set 0 (.int .u64 (mixN s : Int))).set 2 (.slice none 0 0)
      have hcw := ((Chg.refl (· = g) w1).alloc (.cells row 84)).trans' (Chg.store _ g 1 (.slice (some ⟨w1.heap.size, 0, none⟩) N N))
      have hcw2 := hcw.trans' (Chg.store _ g 0 (.int .u64 (mixN s : Int)))
      have hcw3 := hcw2.trans' (Chg.store _ g 2 (.slice none 0 0))
      have hbq1 := hBQ.chg (Chg.store _ g 1 (.slice (some ⟨w1.heap.size, 0, none⟩) N N)) (by omega)
      have hbq2 := hbq1.chg (Chg.store _ g 0 (.int .u64 (mixN s : Int))) (by omega)
      have hbq3 := hbq2.chg (Chg.store _ g 2 (.slice none 0 0)) (by omega)
      have HBQ3 := hid hbq3
      have HA3 := hid hA3
      have HCW := hid hcw3
      clear hB1 hT1 hAl hBQ hA3 hcw hcw2 hcw3 hbq1 hbq2 hbq3
      go_wp2_with fail
      refine (cC.out _).mono ?_
      rintro _ w2 ⟨rfl, rfl⟩
      go_wp2_with fail
      refine (cM.out _).mono ?_
      rintro _ w2 ⟨rfl, rfl⟩
      go_wp2_with fail
      generalize hw3 : (((w1.alloc (.cells row 84)).setCell ⟨g, 1, none⟩ (.slice (some ⟨w1.heap.size, 0, none⟩) N N)).setCell ⟨g, 0, none⟩ (.int .u64 (mixN s : Int))).setCell ⟨g, 2, none⟩ (.slice none 0 0) = w3 at *
      obtain ⟨qb, hqb⟩ : ∃ qb, w1.heap.size = qb := ⟨_, rfl⟩
      rw [hqb] at HBQ3 HA3 ⊢
      obtain ⟨L, hL⟩ : ∃ L, keysT t = L := ⟨_, rfl⟩
      have HL := hid hL
      rw [hL] at HOK1 HG hl3 ⊢
      have hT3 : RwQ w3 g qb (.slice none 0 0) t0 := by
        rw [← H0.out]
        refine ⟨by rw [newT_n]; exact HA3.out, HBQ3.out, Owns.nil _ _ _ _, by omega, by simp [Value.ownBlock], by simp [Value.ownBlock]⟩
      have HF3 := hid (show RwF w3 g (fun z => z = g ∨ z = qb ∨ w3.heap.size ≤ z) t0 from ⟨qb, _, hT3, .inl rfl, .inr (.inl rfl), fun z hz => by simp [Value.ownBlock] at hz⟩)
      have HU3 := hid (Owns.chg HOK1.out HCW.out (fun z hz e => by have := (Owns.base_le HOK1.out z hz).1; omega))
      have hq3 : qb < w3.heap.size := hT3.bk.lt
      have HRD := hid (Rd.of_owns (en := rtEn) HU3.out rtEn_length)
      have HUB := hid (fun z hz => Owns.base_le HOK1.out z hz)
      clear y0 y1 y2 y3 y4 y5 y6 y7 y8 z0 z1 z2 HBQ3 HA3 hT3 HMB hmk hw3
      obtain ⟨m, hm⟩ : ∃ m, L.length = m := ⟨_, rfl⟩
      have HM := hid hm
      have HKm := HK.out
      rw [hL, hm] at HKm
      rw [hm] at hl3 ⊢
      clear hm hL
      go_loopw [4] (fun i wr => RGrowRel w3 g qb put t0 L i wr) (fun i _ => m - (intOf i).toNat)
      case atStart => exact ⟨0, Nat.zero_le _, rfl, HF3.out, Chg.refl _ _⟩
      case round =>
        obtain ⟨k, hk, rfl, hF, hC⟩ := hrel
        rw [HM.out] at hk
        have HFr := hid hF
        have HCr := hid hC
        clear hF hC
        by_cases hkm : k < m
        · obtain ⟨x, hx⟩ : ∃ x, L[k]? = some x := ⟨_, List.getElem?_eq_getElem (by rw [HM.out]; exact hkm)⟩
          have hob : ∀ z, Value.ownBlock (.slice A3 m cap3) = some z → ¬ (z = g ∨ z = qb) := fun z hz e => by have := HUB.out z (by rw [HM.out]; exact hz); omega
          obtain ⟨ba, oa, ca, hv, _, _, la, sa⟩ := (HRD.out.chg rtEn_length HCr.out (fun z hz => hob z (by rw [HM.out] at hz; exact hz))).get rtEn_length (by decide) hx
          rw [HM.out] at hv
          injection hv with hA' hxx hc
          subst hA' hc
          have z0 : wr.cell? ⟨ba, oa + k * 4, none⟩ = some (.int .u64 (x.1.1.1 : Int)) := sa 0 _ rfl
          have z1 : wr.cell? ⟨ba, oa + k * 4 + 1, none⟩ = some (.int .u64 (x.1.1.2 : Int)) := sa 1 _ rfl
          have z2 : wr.cell? ⟨ba, oa + k * 4 + 2, none⟩ = some (.int .i64 x.1.2) := sa 2 _ rfl
          have z3 : wr.cell? ⟨ba, oa + k * 4 + 3, none⟩ = some (.int .i64 x.2) := sa 3 _ rfl
          have HX := hid hx
          have hk0 : (0 : Int) ≤ (k : Int) := by omega
          have hk1 : (k : Int) < (m : Int) := by omega
          clear sa hx hxx hob
          obtain ⟨q1, q2, q3⟩ := HPO.out k
          have hsr := HCr.out.size
          have hkl : ((keysT t).take k).length = k := by rw [HL.out, List.length_take, HM.out]; omega
          have cPt := hid (hput wr.drew g _ _ x.1 x.2 (HFr.out.below (Below.refl _ _).drew) (by rw [HL.out] at q1; exact q1) (HKO.out x (by rw [HL.out]; exact List.mem_of_getElem? HX.out)) (by
              rw [HL.out] at q3 hkl
              rw [rkeys_all, q3, HFT.out]
              have : (L.take k).countP (fun _ => true) ≤ k := Nat.le_trans List.countP_le_length (Nat.le_of_eq hkl)
              omega) (by
              rw [HL.out] at q2
              rw [hfn] at q2
              exact Nat.le_trans hd (Nat.mul_le_mul_right _ q2)))
          have HSN := hid (show (L.take (k + 1)).foldl (fun t r => put t r.1 r.2) t0 = put ((L.take k).foldl (fun t r => put t r.1 r.2) t0) x.1 x.2 by
            obtain ⟨hk', e⟩ := List.getElem?_eq_some_iff.1 HX.out
            rw [List.take_succ_eq_append_getElem hk', List.foldl_append, e]; rfl)
          clear q1 q2 q3 hkl
          go_wp2_with fail
          refine wp_region_tail 11 (by kernel_rfl) (by kernel_rfl) ?_
          simp only [List.take_succ_cons, List.take_zero, List.drop_succ_cons, List.drop_zero]
          repeat still_step
          refine wpStill_nil ?_
          go_wp2_with fail
          refine cPt.out.mono ?_
          rintro _ w5 ⟨rfl, hF5, hC5⟩
          have HF5 := hid (hF5.mono (G := fun z => z = g ∨ z = qb ∨ w3.heap.size ≤ z) (fun z _ h => by
            rcases h with h | h
            · exact h
            · exact .inr (.inr (Nat.le_trans hsr h))))
          have HC5 := hid (HCr.out.drew.trans hC5 (fun z hz h => by
            rcases h with h | h | h
            · exact .inl h
            · exact .inr h
            · omega))
          clear hF5 hC5 cPt z0 z1 z2 z3
          go_wp2_with fail
          go_roundw
          case rel =>
            exact ⟨k + 1, by rw [HM.out]; omega, by go_num, by rw [HSN.out]; exact HF5.out, HC5.out⟩
          case measure => simp [intOf]; omega
        · have hkm : k = m := by omega
          subst hkm
          go_wp2_with fail
          go_returns
          have h1 := HB1.out.size
          have h3 := HCW.out.size
          have hqw2 : w.heap.size ≤ qb := by omega
          refine ⟨rfl, ?_, ?_⟩
          · rw [HG.out, HM.out]
            refine HFr.out.mono fun z _ h => ?_
            rcases h with h | h | h
            · exact .inl (by rw [h]; exact HF.out)
            · exact .inr (by omega)
            · exact .inr (by omega)
          · refine ((Chg.of_below HB1.out F).trans' (HCW.out.mono fun z _ e => ?_)).trans HCr.out fun z hz h => ?_
            · rw [e]; exact HF.out
            · rcases h with h | h
              · rw [h]; exact HF.out
              · omega

theorem rput_at : ∀ d : Nat, RPutAt (putT d) d
  | 0 => rk_put (grow := id) (fun w g F t _ _ _ hd hn => by rw [Nat.pow_zero, Nat.mul_one] at hd; omega)
  | d + 1 => rk_put (grow := growStep (putT d)) (fun w g F t hF hok hl hd hn => rk_grow (rput_at d) (putT_ok d) hF hok hl (by
      rw [Nat.pow_succ] at hd
      have h2 : 1 ≤ 2 ^ d := Nat.one_le_two_pow
      by_cases h : 2 * t.n ≤ 65536
      · rw [Nat.min_eq_left h, Nat.mul_comm 2, Nat.mul_assoc, Nat.mul_comm 2]; exact hd
      · rw [Nat.min_eq_right (by omega)]
        exact Nat.le_mul_of_pos_right _ h2))
theorem rk_put16 {w : World} {g : Nat} {F : Nat → Prop} {t : Tb} (H : RwF w g F t) (hok : t.Ok) (hlen : (keysT t).length < 99000) (p : Pf) (hp : p.1.ok) (x : Int) :
    Calls Tryz.prog 24 #[.pointer (some ⟨g, 0, none⟩), .agg #[.int .u64 (p.1.1 : Int), .int .u64 (p.1.2 : Int), .int .i64 p.2], .int .i64 x] w fun e w' =>
      e = .returned (.tuple #[]) ∧ RwF w' g (fun z => F z ∨ w.heap.size ≤ z) (putT 16 t p x) ∧ Chg F w w' :=
  rput_at 16 w g F t p x H hok hp hlen (by have := hok.n1; omega)

end Go.Proofs.YtpjjijhojcfmnaaGreat
