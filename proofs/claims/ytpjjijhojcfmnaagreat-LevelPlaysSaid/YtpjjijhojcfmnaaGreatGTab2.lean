/-
  Putting a key into a table. No condition but that there are fewer than fifty million keys.
  Putting a key, growing and all. No condition but that there are fewer than fifty million keys.
  How many keys a table has, and its size. No condition but that there are no more than a hundred million keys.
  A table in plain lists: what a key has, what deleting makes, and how the table stands for a list in order. No condition.
  What a key of a table has, deleting a key, and all keys in order. No condition but that there are no more than fifty million keys.
  All keys of a table in order. No condition but that there are no more than fifty million keys.
  Deleting a key of a table. No condition but that there are no more than fifty million keys.
-/
import Derived.Test.YtpjjijhojcfmnaaGreatGTab
import Derived.Test.YtpjjijhojcfmnaaGreatGBase
import Derived.Deep.RegionLaw
namespace Go.Proofs.YtpjjijhojcfmnaaGreat
open Go.RowKit
set_option linter.unusedVariables false
set_option linter.unusedSimpArgs false
set_option maxRecDepth 100000

/-- What growing does, where there may be growing. -/
def GrowAt (grow : Tb → Tb) (d : Nat) : Prop := ∀ (w : World) (g : Nat) (F : Nat → Prop) (t : Tb), TwF w g F t → t.Ok → (keysT t).length ≤ 50000000 → 65536 ≤ t.n * 2 ^ d → t.n < 65536 →
  Calls Tryz.prog 71 #[.pointer (some ⟨g, 0, none⟩)] w fun e w' => e = .returned (.tuple #[]) ∧ TwF w' g (fun z => F z ∨ w.heap.size ≤ z) (grow t) ∧ Chg F w w'
theorem put_repl {grow : Tb → Tb} {t : Tb} {p : Pf} (x : Int) (h : replB t p = true) : putStep grow t p x = replT t p x := by
  unfold replB at h
  unfold putStep replT
  cases h1 : hasB (t.at (t.b1 p)) p
  · cases h2 : hasB (t.at (t.b2 p)) p
    · cases h3 : stHas t p
      · rw [h1, h2, h3] at h; cases h
      · rfl
    · rfl
  · rfl
theorem repl_no {t : Tb} {p : Pf} (x : Int) (h : replB t p = false) : replT t p x = t ∧ hasB (t.at (t.b1 p)) p = false ∧ hasB (t.at (t.b2 p)) p = false ∧ stHas t p = false := by
  unfold replB at h
  simp only [Bool.or_eq_false_iff] at h
  unfold replT
  rw [h.1.1, h.1.2, h.2]
  exact ⟨rfl, rfl, rfl, rfl⟩
/-- Behind the kicks. -/
def fin (grow : Tb → Tb) (r : Tb × Option Rt) : Tb :=
  match r with
  | (t', none) => t'
  | (t', some r) => if 8 < (intoL t'.st r).length ∧ t'.n < 65536 then grow { t' with st := intoL t'.st r } else { t' with st := intoL t'.st r }
theorem put_no {grow : Tb → Tb} {t : Tb} {p : Pf} (x : Int) (h : replB t p = false) : putStep grow t p x =
    if canB (t.at (t.b1 p)) p then t.set (t.b1 p) (putB (t.at (t.b1 p)) p x)
    else if canB (t.at (t.b2 p)) p then t.set (t.b2 p) (putB (t.at (t.b2 p)) p x)
    else fin grow (kick 16 0 t p x (t.b2 p)) := by
  obtain ⟨_, h1, h2, h3⟩ := repl_no x h
  unfold putStep
  rw [if_neg (by rw [h1]; decide), if_neg (by rw [h2]; decide), if_neg (by rw [h3]; decide)]
  generalize kick 16 0 t p x (t.b2 p) = r
  obtain ⟨t', o⟩ := r
  cases o <;> rfl
theorem putB_full {ps : List Plc} {p : Pf} (h : hasB ps p = false) (x : Int) (hc : canB ps p = false) : putB ps p x = ps ∧ ∀ y ∈ ps, y.1 = true := by
  rcases putB_cases ps p x with a | a | a
  · rw [a.2.1] at hc; cases hc
  · rw [a.2.1] at hc; cases hc
  · exact a.2.2
theorem set_at {t : Tb} {i : Nat} (h : i < t.n) : t.set i (t.at i) = t := by
  obtain ⟨s, bs, st⟩ := t
  unfold Tb.set
  simp only
  congr 1
  exact set_same_at (Tb.get_at (t := ⟨s, bs, st⟩) h)
structure KInv (w wr : World) (pb g q : Nat) (v : Value) (t : Tb) (R : Tb × Option Rt) (k : Nat) (t' : Tb) (p : Pf) (x : Int) (a : Nat) : Prop where
  res : kick (16 - k) k t' p x a = R
  ok : t'.Ok
  pok : p.1.ok
  zero : tc (keyIs p) t' = 0
  is : a = t'.b1 p ∨ a = t'.b2 p
  lt : a < t'.n
  full : ∀ y ∈ t'.at a, y.1 = true
  n : t'.n = t.n
  st : t'.st = t.st
  tw : TwQ wr g q v t'
  blk : Blk wr pb 38 [.int .u64 (p.1.1 : Int), .int .u64 (p.1.2 : Int), .int .i64 p.2]
  chg : Chg (fun z => z = q ∨ z = pb) w wr
def KRel (w : World) (pb g q : Nat) (v : Value) (t : Tb) (R : Tb × Option Rt) (xv av i : Value) (wr : World) : Prop :=
  ∃ (k : Nat) (x : Int) (a : Nat) (t' : Tb) (p : Pf), k ≤ 16 ∧ i = .int .i64 k ∧ xv = .int .i64 x ∧ av = .int .i64 (a : Int) ∧ KInv w wr pb g q v t R k t' p x a

set_option maxHeartbeats 4000000 in
theorem ck_put {grow : Tb → Tb} {d : Nat} (hg : GrowAt grow d) : PutAt (putStep grow) d := by
  intro w g F t p x hF hok hp hlen hd
  obtain ⟨q, v, H, hFg, hFq, hFv⟩ := hF
  have hb := (Below.refl w.heap.size w).alloc (Nat.le_refl _) (.cells #[.int .u64 (p.1.1 : Int), .int .u64 (p.1.2 : Int), .int .i64 p.2] 38)
  have H1 := H.below hb
  have hpb := Blk.new_at w #[.int .u64 (p.1.1 : Int), .int .u64 (p.1.2 : Int), .int .i64 p.2] 38 w.heap.size rfl
  have hstl : t.st.length ≤ 100000000 := by unfold keysT at hlen; rw [List.length_append] at hlen; omega
  have cR := hid (ck_replace H1 hok hstl p hp x)
  have HF := hid (show F g ∧ F q ∧ OwnIn F v from ⟨hFg, hFq, hFv⟩)
  have HOK := hid hok
  have HPOK := hid hp
  have HPB := hid hpb
  have HB := hid hb
  have HH1 := hid H1
  have hgw := H.top.lt
  have hqw := H.bk.lt
  have HVW := hid (fun z (hz : v.ownBlock = some z) => (Owns.base_le H.st z hz).2)
  have HLEN := hid hlen
  have HD := hid hd
  clear hFg hFq hFv hb H1 H hpb hok hp hlen hd
  obtain ⟨rb, hrb⟩ : ∃ z, replB t p = z := ⟨_, rfl⟩
  have HRB := hid hrb
  rw [hrb] at cR
  clear hrb
  cases rb
  · have hR := repl_no x HRB.out
    have HR := hid hR.1
    rw [hR.1] at cR
    have HE1 := hid hR.2.1
    have HE2 := hid hR.2.2.1
    have HE3 := hid hR.2.2.2
    have HPN := hid (put_no (grow := grow) x HRB.out)
    clear hR
    go_enter Tryz.func39, Tryz.ntmps39
    go_wp2_with fail
    refine cR.out.mono ?_
    rintro _ w1 ⟨rfl, hT1, hC1⟩
    have hC1' : Chg (fun z => z = q ∨ v.ownBlock = some z) w w1 := (Chg.of_below HB.out _).trans' hC1
    have cT := hid (ck_two hT1 HOK.out.s64 HOK.out.n2 p HPOK.out)
    have hP1 := HPB.out.chg hC1 (fun e => by rcases e with e | e; omega; have := HVW.out _ e; omega)
    have p0 := hP1.cellv (i := 0) rfl
    have p1 := hP1.cellv (i := 1) rfl
    have p2 := hP1.cellv (i := 2) rfl
    have HT1 := hid hT1
    have HC1 := hid hC1'
    have HP1 := hid hP1
    clear hT1 hC1 hC1' hP1 cR HPB HH1
    go_wp2_with fail
    refine cT.out.mono ?_
    rintro _ w2 ⟨rfl, hb2⟩
    have hl1 := b1_lt HOK.out.n1 p
    have hl2 := b2_lt HOK.out.n1 p
    have HB2' := hid hb2
    have hT2 := HT1.out.below hb2
    have hP2 := HP1.out.below' hb2
    have HP2 := hid hP2
    have HT2 := hid hT2
    have HC2 := hid (HC1.out.trans' (Chg.of_below hb2 _))
    have hn2 := HOK.out.n2
    have HL4 := hid HOK.out.len
    have HAL := hid (fun i (h : i < t.n) => set_at (t := t) h)
    generalize hx1 : t.b1 p = x1 at *
    generalize hx2 : t.b2 p = x2 at *
    have HX1 := hid hx1
    have HX2 := hid hx2
    obtain ⟨n, hn⟩ : ∃ n, t.n = n := ⟨_, rfl⟩
    have HN := hid hn
    have y0 : w2.drew.cell? ⟨g, 1, none⟩ = some (.slice (some ⟨q, 0, none⟩) n n) := by rw [← hn]; exact hT2.top.cellv rfl
    have z0 : w2.drew.cell? ⟨w.heap.size, 0, none⟩ = some (.int .u64 (p.1.1 : Int)) := hP2.cellv rfl
    have z1 : w2.drew.cell? ⟨w.heap.size, 1, none⟩ = some (.int .u64 (p.1.2 : Int)) := hP2.cellv rfl
    have z2 : w2.drew.cell? ⟨w.heap.size, 2, none⟩ = some (.int .i64 p.2) := hP2.cellv rfl
    have hTd : TwQ w2.drew g q v t := hT2.below (Below.refl _ _).drew
    have cP1 := ck_bput hTd (i := x1) (by rw [hn]; omega) HL4.out p x
    unfold Pf.v at cP1
    rw [hn] at hl1 hl2 hn2
    have hi0 : (0 : Int) ≤ (x1 : Int) := by omega
    have hi1 : (x1 : Int) < (n : Int) := by omega
    have hi2 : (0 : Int) ≤ (x2 : Int) := by omega
    have hi3 : (x2 : Int) < (n : Int) := by omega
    have hgq := hTd.gq
    have hpq : w.heap.size ≠ q := by omega
    have HTD := hid hTd
    have HP1' := hid cP1
    clear hx1 hx2 hn hT2 hP2 hb2 cT p0 p1 p2 HP1 HT1 HC1 hTd cP1
    obtain ⟨c1, hc1⟩ : ∃ z, canB (t.at x1) p = z := ⟨_, rfl⟩
    have HCB1 := hid hc1
    rw [hc1] at HP1'
    clear hc1
    cases c1
    · have e1 := putB_full HE1.out x HCB1.out
      rw [e1.1, HAL.out x1 (by rw [HN.out]; omega)] at HP1'
      obtain ⟨c2, hc2⟩ : ∃ z, canB (t.at x2) p = z := ⟨_, rfl⟩
      have HCB2 := hid hc2
      clear hc2 e1
      go_wp2_with fail
      have hS : w2.drew.cell? ⟨g, 1, none⟩ = some (.slice (some ⟨q, 0, none⟩) n n) ∧ w2.drew.cell? ⟨w.heap.size, 0, none⟩ = some (.int .u64 (p.1.1 : Int)) ∧ w2.drew.cell? ⟨w.heap.size, 1, none⟩ = some (.int .u64 (p.1.2 : Int)) ∧ w2.drew.cell? ⟨w.heap.size, 2, none⟩ = some (.int .i64 p.2) := ⟨y0, z0, z1, z2⟩
      refine wp_region_seq (fun w' => w'.cell? ⟨g, 1, none⟩ = some (.slice (some ⟨q, 0, none⟩) n n) ∧ w'.cell? ⟨w.heap.size, 0, none⟩ = some (.int .u64 (p.1.1 : Int)) ∧ w'.cell? ⟨w.heap.size, 1, none⟩ = some (.int .u64 (p.1.2 : Int)) ∧ w'.cell? ⟨w.heap.size, 2, none⟩ = some (.int .i64 p.2)) (by kernel_rfl) hS ?_
      repeat (first
        | (refine seq_still (v := ?_) (by kernel_rfl) (fun _ _ _ h => h) rfl (fun W hW => ?_) hS ?_
           rotate_left
           · try dsimp only at hW
             go_simp
             try with_reducible rfl
           simp only [Act.put, List.setIfInBounds_toArray, List.set_cons_zero, List.set_cons_succ])
)
      refine seq_alone (by kernel_rfl) rfl (fun K hK => ?_)
      go_simp
      refine HP1'.out.mono ?_
      rintro _ w4 ⟨rfl, hT4, hC4⟩
      clear hS
      have hP4 := HP2.out.drew.chg hC4 hpq
      have hS : w4.cell? ⟨g, 1, none⟩ = some (.slice (some ⟨q, 0, none⟩) n n) ∧ w4.cell? ⟨w.heap.size, 0, none⟩ = some (.int .u64 (p.1.1 : Int)) ∧ w4.cell? ⟨w.heap.size, 1, none⟩ = some (.int .u64 (p.1.2 : Int)) ∧ w4.cell? ⟨w.heap.size, 2, none⟩ = some (.int .i64 p.2) := ⟨(by rw [← HN.out]; exact hT4.top.cellv rfl), hP4.cellv rfl, hP4.cellv rfl, hP4.cellv rfl⟩
      have hP2' := ck_bput hT4 (i := x2) (by rw [HN.out]; omega) HL4.out p x
      rw [HCB2.out] at hP2'
      unfold Pf.v at hP2'
      have HC4 := hid hC4
      have HT4 := hid hT4
      have HP4 := hid hP4
      have HPC2 := hid hP2'
      clear hT4 hC4 HP1' y0 z0 z1 z2 hP4 hP2'
      refine hK.out _ _ hS ?_
      clear hK
      repeat (first
        | (refine seq_still (v := ?_) (by kernel_rfl) (fun _ _ _ h => h) rfl (fun W hW => ?_) hS ?_
           rotate_left
           · try dsimp only at hW
             go_simp
             try with_reducible rfl
           simp only [Act.put, List.setIfInBounds_toArray, List.set_cons_zero, List.set_cons_succ])
)
      refine seq_alone (by kernel_rfl) rfl (fun K hK => ?_)
      go_simp
      refine HPC2.out.mono ?_
      rintro _ w5 ⟨rfl, hT5, hC5⟩
      clear hS
      have hP5 := HP4.out.chg hC5 hpq
      have hS : w5.cell? ⟨g, 1, none⟩ = some (.slice (some ⟨q, 0, none⟩) n n) ∧ w5.cell? ⟨w.heap.size, 0, none⟩ = some (.int .u64 (p.1.1 : Int)) ∧ w5.cell? ⟨w.heap.size, 1, none⟩ = some (.int .u64 (p.1.2 : Int)) ∧ w5.cell? ⟨w.heap.size, 2, none⟩ = some (.int .i64 p.2) := ⟨(by rw [← HN.out, ← Tb.set_n t x2]; exact hT5.top.cellv rfl), hP5.cellv rfl, hP5.cellv rfl, hP5.cellv rfl⟩
      have HC5 := hid hC5
      have HT5 := hid hT5
      have HP5 := hid hP5
      clear hT5 hC5 hP5 HPC2 HP4 HT4
      refine hK.out _ _ hS ?_
      clear hK
      repeat (first
        | (refine seq_still (v := ?_) (by kernel_rfl) (fun _ _ _ h => h) rfl (fun W hW => ?_) hS ?_
           rotate_left
           · try dsimp only at hW
             go_simp
             try with_reducible rfl
           simp only [Act.put, List.setIfInBounds_toArray, List.set_cons_zero, List.set_cons_succ])
)
      refine seq_done (by kernel_rfl) ?_
      clear hS
      have hCq := (HC4.out.trans' HC5.out)
      have HCQ := hid (HC2.out.drew.trans' (hCq.mono fun z _ e => Or.inl e))
      clear hCq HC4 HC5 HC2
      cases c2
      · have e2 := putB_full HE2.out x HCB2.out
        have hT5 := HT5.out
        rw [e2.1, HAL.out x2 (by rw [HN.out]; omega)] at hT5
        have HZ := hid (absent_tc HOK.out (p := p) (by rw [HX1.out]; exact HE1.out) (by rw [HX2.out]; exact HE2.out) HE3.out)
        have HFULL := hid e2.2
        have HT5' := hid hT5
        obtain ⟨R, hR⟩ : ∃ R, kick 16 0 t p x x2 = R := ⟨_, rfl⟩
        have HR0 := hid hR
        have hpbw : w.heap.size < w5.heap.size := HP5.out.lt
        have HXL := hid hl2
        clear e2 hT5 HT5 hR hi0 hi1 hi2 hi3
        go_wp2_with fail
        go_loopw [2, 8, 47] (fun xv av i wr => KRel w5 w.heap.size g q v t R xv av i wr) (fun _ _ i _ => 16 - (intOf i).toNat)
        case atStart => exact ⟨0, x, x2, t, p, Nat.zero_le _, rfl, rfl, rfl, ⟨HR0.out, HOK.out, HPOK.out, HZ.out, .inr HX2.out.symm, by rw [HN.out]; exact HXL.out, HFULL.out, rfl, rfl, HT5'.out, HP5.out, Chg.refl _ _⟩⟩
        case round =>
          obtain ⟨k, x', a, t', p', hk, rfl, rfl, rfl, hI⟩ := hrel
          have HI := hid hI
          have htn : t'.n = n := by rw [hI.n, HN.out]
          have han := hI.lt
          rw [htn] at han
          have y1 : wr.cell? ⟨g, 1, none⟩ = some (.slice (some ⟨q, 0, none⟩) n n) := by rw [← htn]; exact hI.tw.top.cellv rfl
          have z0 := hI.blk.cellv (i := 0) rfl
          have z1 := hI.blk.cellv (i := 1) rfl
          have z2 := hI.blk.cellv (i := 2) rfl
          clear hI
          by_cases hk16 : k < 16
          · obtain ⟨p2, v2, hy, hg2, ht1, hp2, hz2, hc2⟩ := kick_step (i := k) (v := x') HI.out.ok HI.out.pok HI.out.zero HI.out.is HI.out.lt HI.out.full
            have hm4 : k % 4 < 4 := Nat.mod_lt _ (by decide)
            have cS := ck_bswap (HI.out.tw.below (Below.refl wr.heap.size wr).drew) HI.out.lt HI.out.ok.len (k % 4) hm4 (p2, v2) hy p' x'
            rw [show ((k % 4 : Nat) : Int) = (k : Int) % 4 by omega] at cS
            unfold Pf.v at cS
            have HCS := hid cS
            have HT1' := hid ht1
            have HP2' := hid hp2
            have HZ2 := hid hz2
            have HG2 := hid hg2
            clear hy hg2 ht1 hp2 hz2 hc2 cS
            have ha0 : (0 : Int) ≤ (a : Int) := by omega
            have ha1 : (a : Int) < (n : Int) := by omega
            go_wp2_with fail
            go_region_law? (first | (go_simp; go_at_call 68; refine HCS.out.mono ?_; rintro _ w6 ⟨rfl, hT6, hC6⟩; have hP6 := HI.out.blk.drew.chg hC6 hpq; have s0 := hP6.cellv (i := 0) rfl; have s1 := hP6.cellv (i := 1) rfl; have s2 := hP6.cellv (i := 2) rfl; have f0 := hP6.frozen 0; have f1 := hP6.frozen 1; have f2 := hP6.frozen 2))
            all_goals
              simp only [Act.put, List.setIfInBounds_toArray, List.set_cons_zero, List.set_cons_succ, List.getElem_toArray, List.getElem_cons_zero, List.getElem_cons_succ]
              have hP7 : Blk (((w6.setCell ⟨w.heap.size, 0, none⟩ (.int .u64 (p2.1.1 : Int))).setCell ⟨w.heap.size, 1, none⟩ (.int .u64 (p2.1.2 : Int))).setCell ⟨w.heap.size, 2, none⟩ (.int .i64 p2.2)) w.heap.size 38 [.int .u64 (p2.1.1 : Int), .int .u64 (p2.1.2 : Int), .int .i64 p2.2] :=
                ((hP6.set 0 (.int .u64 (p2.1.1 : Int))).set 1 (.int .u64 (p2.1.2 : Int))).set 2 (.int .i64 p2.2)
              have k1 := (Chg.store w6 w.heap.size 0 (.int .u64 (p2.1.1 : Int))).trans' (Chg.store _ w.heap.size 1 (.int .u64 (p2.1.2 : Int)))
              have hC7 := k1.trans' (Chg.store _ w.heap.size 2 (.int .i64 p2.2))
              have hT7 := hT6.chg hC7 (by omega) (by omega) (fun b hb e => by have := HVW.out b hb; omega)
              have hCh := ((HI.out.chg.drew).trans' (hC6.mono (S' := fun z => z = q ∨ z = w.heap.size) fun z _ e => .inl e)).trans' (hC7.mono (S' := fun z => z = q ∨ z = w.heap.size) fun z _ e => .inr e)
              generalize ((w6.setCell ⟨w.heap.size, 0, none⟩ (.int .u64 (p2.1.1 : Int))).setCell ⟨w.heap.size, 1, none⟩ (.int .u64 (p2.1.2 : Int))).setCell ⟨w.heap.size, 2, none⟩ (.int .i64 p2.2) = w7 at *
              have HRES := HI.out.res
              rw [show 16 - k = (16 - (k + 1)) + 1 by omega] at HRES
              unfold kick at HRES
              simp only [HG2.out] at HRES
              have hn1 : (t'.set a ((t'.at a).set (k % 4) (true, p', x'))).n = n := by rw [Tb.set_n]; exact htn
              have hs1 : (t'.set a ((t'.at a).set (k % 4) (true, p', x'))).st = t.st := HI.out.st
              have hnt : (t'.set a ((t'.at a).set (k % 4) (true, p', x'))).n = t.n := by rw [hn1, HN.out]
              generalize t'.set a ((t'.at a).set (k % 4) (true, p', x')) = t1 at *
              have cO := hid (ck_other hT7 HT1'.out.s64 HT1'.out.n2 p2 HP2'.out a)
              have hlt := other_lt HT1'.out.n1 p2 a
              have his := other_is t1 p2 a
              generalize t1.other p2 a = a' at *
              have HIS := hid his
              have HT7 := hid hT7
              have HP7 := hid hP7
              have HCH := hid hCh
              have HRES' := hid HRES
              have z0 := hP7.cellv (i := 0) rfl
              have z1 := hP7.cellv (i := 1) rfl
              have z2 := hP7.cellv (i := 2) rfl
              have hs0' := hC6.size
              have hs0 := hC7.size
              clear k1 hC7 hT7 hCh hP7 hP6 s0 s1 s2 f0 f1 f2 hT6 hC6 HCS his HRES y1
              go_wp2_with fail
              refine cO.out.mono ?_
              rintro _ w8 ⟨rfl, hb8⟩
              have HT8 := hid (HT7.out.below hb8)
              have HP8 := hid (HP7.out.below' hb8)
              have HC8 := hid (HCH.out.trans' (Chg.of_below hb8 _))
              have hT8 := HT8.out
              have hP8 := HP8.out
              clear hb8 cO HT7 HP7 HCH
              go_wp2_with fail
              have y1 : w8.drew.cell? ⟨g, 1, none⟩ = some (.slice (some ⟨q, 0, none⟩) n n) := by rw [← hn1]; exact hT8.top.drew.cellv rfl
              have z0 : w8.drew.cell? ⟨w.heap.size, 0, none⟩ = some (.int .u64 (p2.1.1 : Int)) := hP8.drew.cellv rfl
              have z1 : w8.drew.cell? ⟨w.heap.size, 1, none⟩ = some (.int .u64 (p2.1.2 : Int)) := hP8.drew.cellv rfl
              have z2 : w8.drew.cell? ⟨w.heap.size, 2, none⟩ = some (.int .i64 p2.2) := hP8.drew.cellv rfl
              have cB := ck_bput (hT8.below (Below.refl w8.heap.size w8).drew) hlt HT1'.out.len p2 v2
              unfold Pf.v at cB
              have hno := has_tc hlt HZ2.out
              obtain ⟨c3, hc3⟩ : ∃ z, canB (t1.at a') p2 = z := ⟨_, rfl⟩
              have HC3 := hid hc3
              rw [hc3] at cB
              have HCB := hid cB
              have HNO := hid hno
              have ha3 : (0 : Int) ≤ (a' : Int) := by omega
              have ha4 : (a' : Int) < (n : Int) := by omega
              clear hT8 hP8 hno hc3 cB
              refine wp_region_tail 8 (by kernel_rfl) (by kernel_rfl) ?_
              simp only [List.take_succ_cons, List.take_zero, List.drop_succ_cons, List.drop_zero]
              repeat still_step
              refine wpStill_nil ?_
              go_wp2_with fail
              refine HCB.out.mono ?_
              rintro _ w9 ⟨rfl, hT9, hC9⟩
              have HT9 := hid hT9
              have HP9 := hid (HP8.out.drew.chg hC9 (by omega))
              have HC9 := hid (HC8.out.drew.trans' (hC9.mono (S' := fun z => z = q ∨ z = w.heap.size) fun z _ e => .inl e))
              clear hT9 hC9 HCB y1 z0 z1 z2 HT8 HP8 HC8
              cases c3
              · have e1 := putB_full HNO.out v2 HC3.out
                have hT9 := HT9.out
                rw [e1.1, set_at hlt] at hT9
                have HT10 := hid hT9
                have HFU := hid e1.2
                have hr := HRES'.out
                rw [if_neg (by rw [HC3.out]; decide)] at hr
                have HRR := hid hr
                clear hT9 e1 hr HT9
                go_wp2_with fail
                go_roundw
                case rel => exact ⟨k + 1, v2, a', t1, p2, by omega, by go_num, rfl, rfl, ⟨HRR.out, HT1'.out, HP2'.out, HZ2.out, HIS.out, hlt, HFU.out, hnt, hs1, HT10.out, HP9.out, HC9.out⟩⟩
                case measure => simp [intOf]; omega
              · have hr := HRES'.out
                rw [if_pos HC3.out] at hr
                have HRR := hid hr
                clear hr
                go_wp2_with fail
                go_returns
                refine ⟨rfl, ⟨q, v, ?_, .inl HF.out.1, .inl HF.out.2.1, fun z hz => .inl (HF.out.2.2 z hz)⟩, (HCQ.out.trans HC9.out (S := fun z => z = q ∨ v.ownBlock = some z) fun z hz h => ?_).mono fun z _ h => ?_⟩
                · rw [HPN.out, if_neg (by rw [HCB1.out]; decide), if_neg (by rw [HCB2.out]; decide), HR0.out, ← HRR.out]; exact HT9.out
                · rcases h with h | h
                  · exact .inl h
                  · omega
                · rcases h with h | h
                  · rw [h]; exact HF.out.2.1
                  · exact HF.out.2.2 z h
          · have hk' : k = 16 := by omega
            subst hk'
            have hr := HI.out.res
            have hr2 : R = (t', some (p', x')) := hr.symm
            have hKO := kick_ok 16 0 (t := t) (p := p) (v := x) (a := x2) HOK.out HPOK.out HZ.out (.inr HX2.out.symm) (by rw [HN.out]; exact HXL.out) HFULL.out
            rw [HR0.out, hr2] at hKO
            have HRR := hid hr2
            have HKO := hid hKO
            have hsb : srchB t'.st p' = false := decide_eq_false fun ⟨r, hr, e⟩ => stash_no HI.out.zero r hr e
            have hlen' : t'.st.length ≤ 100000000 := by rw [HI.out.st]; exact hstl
            have cH := hid (ck_hidden HI.out.tw HI.out.ok.srt hlen' p')
            obtain ⟨si, hsi⟩ : ∃ z, srchI t'.st p' = z := ⟨_, rfl⟩
            have hsl : si ≤ t'.st.length := by rw [← hsi]; exact srchI_le _ _
            have HSI := hid hsi
            have HSB := hid hsb
            rw [hsb, hsi] at cH
            have hCr := HI.out.chg
            have HCr := hid hCr
            clear hr hr2 hKO hsb hsi hCr
            go_wp2_with fail
            refine cH.out.mono ?_
            rintro _ w6 ⟨rfl, hb6⟩
            have HT6 := hid (HI.out.tw.below hb6)
            have HP6 := hid (HI.out.blk.below' hb6)
            have HC6 := hid (HCr.out.trans' (Chg.of_below hb6 _))
            clear hb6 cH y1 z0 z1 z2
            obtain ⟨Av, capv, hvv, _, _, _⟩ := Owns.form HT6.out.st
            subst hvv
            have hT6 := HT6.out
            have hP6 := HP6.out
            have hAl := (Below.refl w6.heap.size w6).drew.alloc (Nat.le_refl _) (.cells #[.int .u64 (p'.1.1 : Int), .int .u64 (p'.1.2 : Int), .int .i64 p'.2, .int .i64 x'] 77)
            have hTA := hT6.below hAl
            have cI := slices_insert _ _ t'.st hTA.st hlen' si hsl w6.heap.size (p', x') (Blk.new_at w6.drew #[.int .u64 (p'.1.1 : Int), .int .u64 (p'.1.2 : Int), .int .i64 p'.2, .int .i64 x'] 77 w6.heap.size rfl) (fun e => by have := (Owns.base_le hT6.st _ e).2; omega)
            have e3 := srch_no HSB.out x'
            rw [HSI.out] at e3
            rw [e3] at cI
            have y2 := hT6.top.drew.cellv (i := 2) rfl
            have z0 : w6.drew.cell? ⟨w.heap.size, 0, none⟩ = some (.int .u64 (p'.1.1 : Int)) := hP6.drew.cellv rfl
            have z1 : w6.drew.cell? ⟨w.heap.size, 1, none⟩ = some (.int .u64 (p'.1.2 : Int)) := hP6.drew.cellv rfl
            have z2 : w6.drew.cell? ⟨w.heap.size, 2, none⟩ = some (.int .i64 p'.2) := hP6.drew.cellv rfl
            have y3 := hTA.top.cellv (i := 2) rfl
            have y4 := hT6.top.cellv (i := 2) rfl
            have z3 : w6.cell? ⟨w.heap.size, 0, none⟩ = some (.int .u64 (p'.1.1 : Int)) := hP6.cellv rfl
            have z4 : w6.cell? ⟨w.heap.size, 1, none⟩ = some (.int .u64 (p'.1.2 : Int)) := hP6.cellv rfl
            have z5 : w6.cell? ⟨w.heap.size, 2, none⟩ = some (.int .i64 p'.2) := hP6.cellv rfl
            have hz6 := hP6.lt
            have hg6 := hT6.top.lt
            have HCI := hid cI
            have HTA := hid hTA
            have HCA := hid (HC6.out.trans' (Chg.of_below hAl _))
            clear hT6 hP6 hAl hTA cI e3 hsl hlen' HT6 HP6 HC6
            go_wp2_with fail
            go_region_law? (first | (go_simp; go_at_call 70; refine HCI.out.mono ?_; rintro _ w10 ⟨v', rfl, hO, hI, hC⟩; have hT10 := HTA.out.top.chg hC (fun e => HTA.out.gv e); have f2 := hT10.frozen 2; have y5 := hT10.cellv (i := 2) rfl; obtain ⟨A', cap', rfl, _, _, _⟩ := Owns.form hO))
            all_goals
              obtain ⟨t3, ht3⟩ : ∃ t3 : Tb, t3 = { t' with st := intoL t'.st (p', x') } := ⟨_, rfl⟩
              have hq6 := HTA.out.bk.lt
              have hws := hC.size
              have hT11 : TwQ (w10.setCell ⟨g, 2, none⟩ (.slice A' (intoL t'.st (p', x')).length cap')) g q (.slice A' (intoL t'.st (p', x')).length cap') t3 := by
                have hs := Chg.store w10 g 2 (.slice A' (intoL t'.st (p', x')).length cap')
                have hng : Value.ownBlock (.slice A' (intoL t'.st (p', x')).length cap') ≠ some g := fun e => by
                  rcases hI g e with h | h
                  · exact HTA.out.gv h
                  · have := HTA.out.top.lt; omega
                have hnq : Value.ownBlock (.slice A' (intoL t'.st (p', x')).length cap') ≠ some q := fun e => by
                  rcases hI q e with h | h
                  · exact HTA.out.qv h
                  · omega
                rw [ht3]
                exact ⟨hT10.set 2 _, (HTA.out.bk.chg hC (fun e => HTA.out.qv e)).chg hs (fun e => hgq e.symm), Owns.chg hO hs (fun b hb e => hng (by rw [hb, e])), hgq, hng, hnq⟩
              have hF11 : TwF (w10.setCell ⟨g, 2, none⟩ (.slice A' (intoL t'.st (p', x')).length cap')) g (fun z => F z ∨ w.heap.size ≤ z) t3 := ⟨q, _, hT11, .inl HF.out.1, .inl HF.out.2.1, fun z hz => by
                rcases hI z hz with h | h
                · exact .inl (HF.out.2.2 z h)
                · refine .inr ?_
                  have := HCQ.out.size; have := HCA.out.size; omega⟩
              have hC11 : Chg F w (w10.setCell ⟨g, 2, none⟩ (.slice A' (intoL t'.st (p', x')).length cap')) := by
                have k1 : Chg F w w5 := HCQ.out.mono fun z _ h => by
                  rcases h with h | h
                  · rw [h]; exact HF.out.2.1
                  · exact HF.out.2.2 z h
                have k2 := k1.trans HCA.out fun z hz h => by
                  rcases h with h | h
                  · rw [h]; exact HF.out.2.1
                  · omega
                have k3 := k2.trans hC fun z hz h => HF.out.2.2 z h
                exact k3.trans (Chg.store w10 g 2 _) fun z hz h => by rw [h]; exact HF.out.1
              have hst := stash_in HI.out.ok (r := (p', x')) HI.out.pok HI.out.zero
              rw [← ht3] at hst
              generalize w10.setCell ⟨g, 2, none⟩ (.slice A' (intoL t'.st (p', x')).length cap') = w11 at *
              have HST := hid hst
              have HF11 := hid hF11
              have HC11 := hid hC11
              have hfin : fin grow R = if 8 < (intoL t'.st (p', x')).length ∧ t'.n < 65536 then grow t3 else t3 := by rw [HRR.out, ht3]; rfl
              have HFIN := hid hfin
              have HPF := hid (show putStep grow t p x = fin grow R by rw [HPN.out, if_neg (by rw [HCB1.out]; decide), if_neg (by rw [HCB2.out]; decide), HR0.out])
              have y6 : w11.cell? ⟨g, 1, none⟩ = some (.slice (some ⟨q, 0, none⟩) t'.n t'.n) := by
                have h := hT11.top
                rw [ht3] at h
                exact h.cellv rfl
              have y7 := hT11.top.cellv (i := 2) rfl
              have hn3 : t3.n = t'.n := by rw [ht3]; rfl
              have hnn : t'.n = t.n := HI.out.n
              obtain ⟨ln, hln⟩ : ∃ z, (intoL t'.st (p', x')).length = z := ⟨_, rfl⟩
              rw [hln] at HFIN y7 ⊢
              have hnn' : t'.n = n := htn
              rw [hnn'] at y6 HFIN
              have HN3 := hid hn3
              have HNN := hid hnn
              clear hn3 hnn hnn' htn
              clear hst hF11 hC11 hfin ht3 hT11 hO hI hC hT10 f2 y5 HCI HTA HCA y2 y3 y4 z0 z1 z2 z3 z4 z5 hln
              by_cases c8 : 8 < ln
              · have c8' : (8 : Int) < (ln : Int) := by omega
                by_cases cn : n < 65536
                · have cn' : (n : Int) < 65536 := by omega
                  have cG := hid (hg w11 g _ t3 HF11.out HST.out.1 (by
                    have h1 := HST.out.2 (fun _ => true)
                    have h2 := HKO.out.cnt (fun _ => true)
                    simp only [oc] at h2
                    have h3 := HLEN.out
                    rw [keys_all] at h3 ⊢
                    simp at h1 h2; omega) (by rw [HN3.out, HNN.out]; exact HD.out) (by rw [HN3.out, HNN.out, HN.out]; exact cn))
                  go_wp2_with fail
                  refine cG.out.mono ?_
                  rintro _ w12 ⟨rfl, hF12, hC12⟩
                  have HF12 := hid hF12
                  have HC12 := hid hC12
                  have hsz := HC11.out.size
                  clear hF12 hC12 cG
                  go_wp2_with fail
                  go_returns
                  refine ⟨rfl, ?_, HC11.out.trans HC12.out fun z hz h => ?_⟩
                  · rw [HPF.out, HFIN.out, if_pos ⟨c8, cn⟩]
                    exact HF12.out.mono fun z _ h => by
                      rcases h with h | h
                      · exact h
                      · exact .inr (by omega)
                  · rcases h with h | h
                    · exact h
                    · omega
                · have cn' : ¬ (n : Int) < 65536 := by omega
                  go_wp2_with fail
                  go_returns
                  exact ⟨rfl, by rw [HPF.out, HFIN.out, if_neg (fun h => cn h.2)]; exact HF11.out, HC11.out⟩
              · have c8' : ¬ (8 : Int) < (ln : Int) := by omega
                go_wp2_with fail
                go_returns
                exact ⟨rfl, by rw [HPF.out, HFIN.out, if_neg (fun h => c8 h.1)]; exact HF11.out, HC11.out⟩
      · go_wp2_with fail
        go_returns
        refine ⟨rfl, ⟨q, v, ?_, .inl HF.out.1, .inl HF.out.2.1, fun z hz => .inl (HF.out.2.2 z hz)⟩, HCQ.out.mono fun z _ h => ?_⟩
        · rw [HPN.out, if_neg (by rw [HCB1.out]; decide), if_pos HCB2.out]; exact HT5.out
        · rcases h with h | h
          · rw [h]; exact HF.out.2.1
          · exact HF.out.2.2 z h
    · go_wp2_with fail
      have hS : w2.drew.cell? ⟨g, 1, none⟩ = some (.slice (some ⟨q, 0, none⟩) n n) ∧ w2.drew.cell? ⟨w.heap.size, 0, none⟩ = some (.int .u64 (p.1.1 : Int)) ∧ w2.drew.cell? ⟨w.heap.size, 1, none⟩ = some (.int .u64 (p.1.2 : Int)) ∧ w2.drew.cell? ⟨w.heap.size, 2, none⟩ = some (.int .i64 p.2) := ⟨y0, z0, z1, z2⟩
      refine wp_region_seq (fun w' => w'.cell? ⟨g, 1, none⟩ = some (.slice (some ⟨q, 0, none⟩) n n) ∧ w'.cell? ⟨w.heap.size, 0, none⟩ = some (.int .u64 (p.1.1 : Int)) ∧ w'.cell? ⟨w.heap.size, 1, none⟩ = some (.int .u64 (p.1.2 : Int)) ∧ w'.cell? ⟨w.heap.size, 2, none⟩ = some (.int .i64 p.2)) (by kernel_rfl) hS ?_
      repeat (
        refine seq_still (v := ?_) (by kernel_rfl) (fun _ _ _ h => h) rfl (fun W hW => ?_) hS ?_
        rotate_left
        · try dsimp only at hW
          go_simp
          try with_reducible rfl
        simp only [Act.put, List.setIfInBounds_toArray, List.set_cons_zero, List.set_cons_succ])
      refine seq_alone (by kernel_rfl) rfl (fun K hK => ?_)
      go_simp
      refine HP1'.out.mono ?_
      rintro _ w4 ⟨rfl, hT4, hC4⟩
      clear hS
      have hS : w4.cell? ⟨g, 1, none⟩ = some (.slice (some ⟨q, 0, none⟩) n n) ∧ w4.cell? ⟨w.heap.size, 0, none⟩ = some (.int .u64 (p.1.1 : Int)) ∧ w4.cell? ⟨w.heap.size, 1, none⟩ = some (.int .u64 (p.1.2 : Int)) ∧ w4.cell? ⟨w.heap.size, 2, none⟩ = some (.int .i64 p.2) :=
        ⟨(by rw [← HN.out]; exact (HTD.out.top.chg hC4 hgq).cellv rfl), (HP2.out.drew.chg hC4 hpq).cellv rfl, (HP2.out.drew.chg hC4 hpq).cellv rfl, (HP2.out.drew.chg hC4 hpq).cellv rfl⟩
      have HT4 := hid hT4
      have HC4 := hid hC4
      clear hT4 hC4 HP1' y0 z0 z1 z2
      refine hK.out _ _ hS ?_
      clear hK
      repeat (first
        | (refine seq_still (v := ?_) (by kernel_rfl) (fun _ _ _ h => h) rfl (fun W hW => ?_) hS ?_
           rotate_left
           · try dsimp only at hW
             go_simp
             try with_reducible rfl
           simp only [Act.put, List.setIfInBounds_toArray, List.set_cons_zero, List.set_cons_succ])
        | (refine seq_skip (by kernel_rfl) (fun _ _ _ h => h) rfl hS ?_
           simp only [Act.put, List.setIfInBounds_toArray, List.set_cons_zero, List.set_cons_succ]))
      refine seq_done (by kernel_rfl) ?_
      clear hS
      go_wp2_with fail
      go_returns
      have hC := HC2.out.drew.trans' (HC4.out.mono fun z _ e => Or.inl e)
      refine ⟨rfl, ⟨q, v, ?_, .inl HF.out.1, .inl HF.out.2.1, fun z hz => .inl (HF.out.2.2 z hz)⟩, hC.mono fun z _ h => ?_⟩
      · rw [HPN.out, if_pos HCB1.out]; exact HT4.out
      · rcases h with h | h
        · rw [h]; exact HF.out.2.1
        · exact HF.out.2.2 z h
  · go_enter Tryz.func39, Tryz.ntmps39
    go_wp2_with fail
    refine cR.out.mono ?_
    rintro _ w1 ⟨rfl, hT, hC⟩
    have HT := hid hT
    have HC := hid hC
    clear hT hC cR
    go_wp2_with fail
    go_returns
    rw [put_repl x HRB.out]
    refine ⟨rfl, ⟨q, v, HT.out, .inl HF.out.1, .inl HF.out.2.1, fun z hz => .inl (HF.out.2.2 z hz)⟩, ((Chg.of_below HB.out _).trans' HC.out).mono fun z _ h => ?_⟩
    rcases h with h | h
    · rw [h]; exact HF.out.2.1
    · exact HF.out.2.2 z h

end Go.Proofs.YtpjjijhojcfmnaaGreat

namespace Go.Proofs.YtpjjijhojcfmnaaGreat
open Go.RowKit
set_option linter.unusedVariables false
set_option linter.unusedSimpArgs false

theorem put_at : ∀ d : Nat, PutAt (putT d) d
  | 0 => ck_put (grow := id) (fun w g F t _ _ _ hd hn => by rw [Nat.pow_zero, Nat.mul_one] at hd; omega)
  | d + 1 => ck_put (grow := growStep (putT d)) (fun w g F t hF hok hl hd hn => ck_grow (put_at d) (putT_ok d) hF hok hl (by
      rw [Nat.pow_succ] at hd
      have h2 : 1 ≤ 2 ^ d := Nat.one_le_two_pow
      by_cases h : 2 * t.n ≤ 65536
      · rw [Nat.min_eq_left h, Nat.mul_comm 2, Nat.mul_assoc, Nat.mul_comm 2]; exact hd
      · rw [Nat.min_eq_right (by omega)]
        exact Nat.le_mul_of_pos_right _ h2))

end Go.Proofs.YtpjjijhojcfmnaaGreat

namespace Go.Proofs.YtpjjijhojcfmnaaGreat
open Go.RowKit
set_option linter.unusedVariables false
set_option linter.unusedSimpArgs false
set_option maxRecDepth 100000

end Go.Proofs.YtpjjijhojcfmnaaGreat

namespace Go.Proofs.YtpjjijhojcfmnaaGreat
set_option linter.unusedVariables false
set_option linter.unusedSimpArgs false

def hasT (t : Tb) (p : Pf) : Bool := decide (0 < tc (keyIs p) t)
def valL (l : List Rt) (p : Pf) : Int := match l.find? (keyIs p) with | some r => r.2 | none => 0
def valT (t : Tb) (p : Pf) : Int := valL (keysT t) p
def atT (t : Tb) (p : Pf) : List Nat := if hasB (t.at (t.b1 p)) p then [t.b1 p] else [t.b1 p, t.b2 p]
theorem isR_key {p : Pf} {u : Int} {t : Tb} (h : 0 < tc (isR (p, u)) t) : 0 < tc (keyIs p) t := by
  rw [← keysT_cnt] at *
  obtain ⟨r, hr, e⟩ := List.countP_pos_iff.1 h
  have : r = (p, u) := by simpa [isR] using e
  subst this
  exact List.countP_pos_iff.2 ⟨_, hr, by simp [keyIs]⟩
theorem val_of {t : Tb} (h : t.Ok) {p : Pf} {u : Int} (hm : (p, u) ∈ keysT t) : hasT t p = true ∧ valT t p = u := by
  have h1 := keysT_mem.1 hm
  refine ⟨decide_eq_true (isR_key h1), ?_⟩
  unfold valT valL
  cases hf : (keysT t).find? (keyIs p) with
  | none =>
    have := List.find?_eq_none.1 hf _ hm
    simp [keyIs] at this
  | some r =>
    have h2 := List.mem_of_find?_eq_some hf
    have h3 := List.find?_some hf
    have h3 : r.1 = p := by simpa [keyIs] using h3
    obtain ⟨r1, r2⟩ := r
    simp only at h3
    subst h3
    exact one_val h (keysT_mem.1 h2) h1
theorem get_b {t : Tb} (h : t.Ok) {i : Nat} (hi : i < t.n) {p : Pf} (hb : hasB (t.at i) p = true) : hasT t p = true ∧ valT t p = valP (t.at i) p := by
  rcases takeB_cases (t.at i) p with ⟨_, k, u, hk, _, hv⟩ | ⟨h1, _⟩
  · rw [hv]; exact val_of h (keysT_mem.2 (keys_bucket hi hk))
  · rw [hb] at h1; cases h1
theorem get_st {t : Tb} (h : t.Ok) {p : Pf} (hb : srchB t.st p = true) : ∃ u, t.st[srchI t.st p]? = some (p, u) ∧ hasT t p = true ∧ valT t p = u := by
  obtain ⟨u, hu, _⟩ := srch_is h.srt hb
  exact ⟨u, hu, val_of h (by unfold keysT; exact List.mem_append.2 (.inr (List.mem_of_getElem? hu)))⟩
theorem val_no {l : List Rt} {p : Pf} (h : l.countP (keyIs p) = 0) : valL l p = 0 := by
  unfold valL
  rw [List.find?_eq_none.2 fun x hx => by simpa using List.countP_eq_zero.1 h x hx]
theorem get_none {t : Tb} (h : t.Ok) {p : Pf} (h1 : hasB (t.at (t.b1 p)) p = false) (h2 : hasB (t.at (t.b2 p)) p = false) (h3 : srchB t.st p = false) : hasT t p = false ∧ valT t p = 0 := by
  have h0 := absent_tc h h1 h2 h3
  refine ⟨by unfold hasT; rw [h0]; rfl, ?_⟩
  exact val_no (by rw [keysT_cnt]; exact h0)

/-! ### Deleting -/
def delT (t : Tb) (p : Pf) : Tb :=
  if hasB (t.at (t.b1 p)) p then t.set (t.b1 p) (takeB (t.at (t.b1 p)) p)
  else if hasB (t.at (t.b2 p)) p then t.set (t.b2 p) (takeB (t.at (t.b2 p)) p)
  else { t with st := withoutL t.st p }
structure DelOk (t : Tb) (p : Pf) (t' : Tb) : Prop where
  ok : t'.Ok
  n : t'.n = t.n
  s : t'.s = t.s
  st : t'.st.length ≤ t.st.length
  cnt : (hasT t p = false ∧ t' = t) ∨ (hasT t p = true ∧ ∃ u, 0 < tc (isR (p, u)) t ∧ ∀ q, tc q t' + (q (p, u)).toNat = tc q t)
theorem del_b {t : Tb} (h : t.Ok) {i : Nat} (hi : i < t.n) {p : Pf} (hb : hasB (t.at i) p = true) : DelOk t p (t.set i (takeB (t.at i) p)) := by
  rcases takeB_cases (t.at i) p with ⟨_, k, u, hk, ht, hv⟩ | ⟨h1, _⟩
  · have hc := fun q => set_cnt q plcZ hi hk
    have hz : ∀ q : Rt → Bool, (plcZ.1 && q plcZ.2).toNat = 0 := fun q => rfl
    simp only [hz, Bool.true_and, Nat.add_zero] at hc
    have hp := keys_bucket hi hk
    rw [ht]
    refine ⟨h.of rfl (Tb.set_n _ _ _) h.srt (set_len h.len hi) (fun r hr => ?_) (fun p2 => ?_) (fun j b x hb hx h1 => ?_), Tb.set_n _ _ _, rfl, Nat.le_refl _, .inr ⟨decide_eq_true (isR_key hp), u, hp, hc⟩⟩
    · rw [keysT_mem] at hr
      have h1 := hc (isR r)
      exact h.ok r (keysT_mem.2 (by omega))
    · have h1 := hc (keyIs p2)
      have h2 := h.one p2
      omega
    · rw [Tb.set_b1, Tb.set_b2]
      unfold Tb.set at hb
      simp only at hb
      rw [List.getElem?_set] at hb
      by_cases e : i = j
      · subst e
        rw [if_pos rfl, if_pos (show i < t.bs.length from hi)] at hb
        simp at hb
        subst hb
        rcases set_mem hx with rfl | hx
        · cases h1
        · exact h.pl i _ x (Tb.get_at hi) hx h1
      · rw [if_neg e] at hb; exact h.pl j b x hb hx h1
  · rw [hb] at h1; cases h1
theorem without_cnt {l : List Rt} (hs : l.Pairwise (fun x y => x.1.lt y.1)) {p : Pf} {u : Int} (h : (p, u) ∈ l) (q : Rt → Bool) : (withoutL l p).countP q + (q (p, u)).toNat = l.countP q := by
  induction l with
  | nil => simp at h
  | cons x l ih =>
    rw [List.pairwise_cons] at hs
    unfold withoutL at *
    by_cases e : x.1 = p
    · have hx : x = (p, u) := by
        rcases List.mem_cons.1 h with h | h
        · exact h.symm
        · have := hs.1 _ h; rw [e] at this; exact absurd this (pf_lt_irrefl _)
      subst hx
      have hl : l.filter (fun r => decide (r.1 ≠ p)) = l := List.filter_eq_self.2 fun y hy => by
        have h1 := hs.1 y hy
        have hne : y.1 ≠ p := fun e2 => by rw [e2] at h1; exact pf_lt_irrefl _ h1
        simpa using hne
      rw [List.filter_cons, if_neg (by simp), hl, List.countP_cons]
      cases q (p, u) <;> simp
    · have hm : (p, u) ∈ l := by
        rcases List.mem_cons.1 h with h | h
        · subst h; exact absurd rfl e
        · exact h
      have ih := ih hs.2 hm
      rw [List.filter_cons, if_pos (by simpa using e), List.countP_cons, List.countP_cons]
      omega
theorem without_ord {l : List Rt} (hs : l.Pairwise (fun x y => x.1.lt y.1)) (p : Pf) : (withoutL l p).Pairwise (fun x y => x.1.lt y.1) := hs.filter _
theorem without_no {l : List Rt} {p : Pf} (h : l.countP (keyIs p) = 0) : withoutL l p = l :=
  List.filter_eq_self.2 fun x hx => by have := List.countP_eq_zero.1 h x hx; simpa [keyIs] using this
theorem del_ok {t : Tb} (h : t.Ok) (p : Pf) : DelOk t p (delT t p) := by
  have l1 := b1_lt h.n1 p
  have l2 := b2_lt h.n1 p
  unfold delT
  by_cases h1 : hasB (t.at (t.b1 p)) p = true
  · rw [if_pos h1]; exact del_b h l1 h1
  · rw [if_neg h1]
    by_cases h2 : hasB (t.at (t.b2 p)) p = true
    · rw [if_pos h2]; exact del_b h l2 h2
    · rw [if_neg h2]
      cases h3 : srchB t.st p
      · have h0 := absent_tc h (by simpa using h1) (by simpa using h2) h3
        have hs : t.st.countP (keyIs p) = 0 := by have := st_le_tc (keyIs p) t; omega
        rw [without_no hs]
        exact ⟨h, rfl, rfl, Nat.le_refl _, .inl ⟨by unfold hasT; rw [h0]; rfl, rfl⟩⟩
      · obtain ⟨u, hu, hh, _⟩ := get_st h h3
        have hm := List.mem_of_getElem? hu
        have hc : ∀ q, tc q { t with st := withoutL t.st p } + (q (p, u)).toNat = tc q t := fun q => by
          have h4 := tc_st q t (withoutL t.st p)
          have h5 := without_cnt h.srt hm q
          omega
        refine ⟨ok_st h (without_ord h.srt p) (fun r hr => st_ok h r (without_has.1 hr).1) (fun p2 => ?_), rfl, rfl, without_le _ _, .inr ⟨hh, u, ?_, hc⟩⟩
        · have h4 := hc (keyIs p2)
          have h5 := h.one p2
          omega
        · have h4 : 0 < t.st.countP (isR (p, u)) := List.countP_pos_iff.2 ⟨_, hm, isR_self _⟩
          have := st_le_tc (isR (p, u)) t
          omega

/-! ### A table stands for a list in order -/
structure Rep (t : Tb) (l : List Rt) : Prop where
  ord : l.Pairwise (fun x y => x.1.lt y.1)
  cnt : ∀ q, tc q t = l.countP q
theorem Rep.mem {t : Tb} {l : List Rt} (h : Rep t l) {r : Rt} : 0 < tc (isR r) t ↔ r ∈ l := by
  rw [h.cnt, List.countP_pos_iff]; simp [isR]
theorem Rep.put {t t' : Tb} {l : List Rt} {p : Pf} {v : Int} (h : Rep t l) (hp : PutOk t p v t') : Rep t' (intoL l (p, v)) := by
  refine ⟨into_ord h.ord _, fun q => ?_⟩
  rcases hp.cnt with ⟨h0, hc⟩ | ⟨_, _, _, u, hu, hc⟩
  · rw [hc, h.cnt]
    refine (into_cnt q (p, v) l fun x hx e => ?_).symm
    rw [h.cnt] at h0
    exact List.countP_eq_zero.1 h0 x hx (by simp [keyIs, e])
  · have h1 := (into_cnt_old q (p, v) l h.ord (h.mem.1 hu)).1
    have h2 := hc q
    rw [h.cnt] at h2
    simp only at h1
    omega
theorem Rep.del {t t' : Tb} {l : List Rt} {p : Pf} (h : Rep t l) (hp : DelOk t p t') : Rep t' (withoutL l p) := by
  refine ⟨without_ord h.ord _, fun q => ?_⟩
  rcases hp.cnt with ⟨h0, rfl⟩ | ⟨_, u, hu, hc⟩
  · have h0 := of_decide_eq_false h0
    rw [h.cnt] at h0
    rw [without_no (by omega)]; exact h.cnt q
  · have h1 := without_cnt h.ord (h.mem.1 hu) q
    have h2 := hc q
    rw [h.cnt] at h2
    omega
theorem Rep.len {t : Tb} {l : List Rt} (h : Rep t l) : (keysT t).length = l.length := by
  have h1 := h.cnt (fun _ => true)
  rw [← keysT_cnt] at h1
  simpa using h1
theorem Rep.perm {t : Tb} {l : List Rt} (h : Rep t l) : (keysT t).Perm l := by
  rw [List.perm_iff_count]
  intro r
  have h1 := h.cnt (fun x => x == r)
  rw [← keysT_cnt] at h1
  exact h1
theorem Rep.has {t : Tb} {l : List Rt} (h : Rep t l) (p : Pf) : hasT t p = decide (∃ r ∈ l, r.1 = p) := by
  unfold hasT
  rw [h.cnt, decide_eq_decide, List.countP_pos_iff]
  simp [keyIs]
theorem Rep.val {t : Tb} {l : List Rt} (h : Rep t l) (ht : t.Ok) {p : Pf} {u : Int} (hm : (p, u) ∈ l) : hasT t p = true ∧ valT t p = u :=
  val_of ht (keysT_mem.2 (h.mem.2 hm))
theorem Rep.no {t : Tb} {l : List Rt} (h : Rep t l) {p : Pf} (hm : ∀ r ∈ l, r.1 ≠ p) : hasT t p = false ∧ valT t p = 0 := by
  have h0 : l.countP (keyIs p) = 0 := List.countP_eq_zero.2 fun x hx => by simpa [keyIs] using hm x hx
  have h1 := h.cnt (keyIs p)
  exact ⟨by unfold hasT; rw [h1, h0]; rfl, val_no (by rw [keysT_cnt, h1, h0])⟩
theorem ord_unique : ∀ {l k : List Rt}, l.Pairwise (fun x y => x.1.lt y.1) → k.Pairwise (fun x y => x.1.lt y.1) → (∀ r, r ∈ l ↔ r ∈ k) → l = k
  | [], [], _, _, _ => rfl
  | [], y :: k, _, _, h => by have := (h y).2 (by simp); simp at this
  | x :: l, [], _, _, h => by have := (h x).1 (by simp); simp at this
  | x :: l, y :: k, hl, hk, h => by
    rw [List.pairwise_cons] at hl hk
    have hxy : x = y := by
      rcases List.mem_cons.1 ((h x).1 (by simp)) with e | e
      · exact e
      · rcases List.mem_cons.1 ((h y).2 (by simp)) with e2 | e2
        · exact e2.symm
        · exact absurd (hl.1 y e2) (pf_lt_asymm (hk.1 x e))
    subst hxy
    rw [ord_unique hl.2 hk.2 fun r => ?_]
    constructor
    · intro hr
      rcases List.mem_cons.1 ((h r).1 (by simp [hr])) with e | e
      · subst e; exact absurd (hl.1 _ hr) (pf_lt_irrefl _)
      · exact e
    · intro hr
      rcases List.mem_cons.1 ((h r).2 (by simp [hr])) with e | e
      · subst e; exact absurd (hk.1 _ hr) (pf_lt_irrefl _)
      · exact e
theorem Rep.sorted {t : Tb} {l k : List Rt} (h : Rep t l) (hp : k.Perm (keysT t)) (hs : k.Pairwise (fun x y => x.1.lt y.1)) : k = l :=
  ord_unique hs h.ord fun r => (hp.trans h.perm).mem_iff

end Go.Proofs.YtpjjijhojcfmnaaGreat

namespace Go.Proofs.YtpjjijhojcfmnaaGreat
open Go.RowKit
set_option linter.unusedVariables false
set_option linter.unusedSimpArgs false
set_option maxRecDepth 100000

def CkGet (w : World) (t : Tb) (p : Pf) (e : Ending) (w' : World) : Prop :=
  ∃ u, e = .returned (.tuple #[.int .i64 (valT t p), .bool (hasT t p), u]) ∧ Owns w' w.heap.size 3 1 u (atT t p).length (intsV (atT t p)) ∧ Below w.heap.size w w'
theorem atT_cases (t : Tb) (p : Pf) : (hasB (t.at (t.b1 p)) p = true → atT t p = [t.b1 p]) ∧ (hasB (t.at (t.b1 p)) p = false → atT t p = [t.b1 p, t.b2 p]) := by
  unfold atT
  exact ⟨fun h => if_pos h, fun h => if_neg (by rw [h]; decide)⟩
theorem owns_ints {w : World} {base : Nat} (g : Nat) (l : List Nat) (hb : base ≤ g) (h : Blk w g 3 (intsV l)) (hm : l.length ≤ maxLen) : Owns w base 3 1 (.slice (some ⟨g, 0, none⟩) l.length l.length) l.length (intsV l) :=
  Owns.of_blk h hb (by rw [intsV_length, Nat.mul_one]) (Nat.le_refl _) hm (by rw [List.take_of_length_le (by rw [intsV_length, Nat.mul_one]; exact Nat.le_refl _)]) (by rw [intsV_length, Nat.mul_one])

set_option maxHeartbeats 4000000 in
theorem ck_get {w : World} {g : Nat} {F : Nat → Prop} {t : Tb} (H0 : TwF w g F t) (hok : t.Ok) (hst : t.st.length ≤ 100000000) (p : Pf) (hp : p.1.ok) :
    Calls Tryz.prog 30 #[.pointer (some ⟨g, 0, none⟩), .agg #[.int .u64 (p.1.1 : Int), .int .u64 (p.1.2 : Int), .int .i64 p.2]] w (CkGet w t p) := by
  obtain ⟨q, v, H, _, _, _⟩ := H0
  have hb := (Below.refl w.heap.size w).alloc (Nat.le_refl _) (.cells #[.int .u64 (p.1.1 : Int), .int .u64 (p.1.2 : Int), .int .i64 p.2] 38)
  have H1 := H.below hb
  have hpb := Blk.new_at w #[.int .u64 (p.1.1 : Int), .int .u64 (p.1.2 : Int), .int .i64 p.2] 38 w.heap.size rfl
  have c1 := hid (ck_two H1 hok.s64 hok.n2 p hp)
  have l1 := b1_lt hok.n1 p
  have l2 := b2_lt hok.n1 p
  have hn2 := hok.n2
  have HLEN := hid hok.len
  have HSRT := hid hok.srt
  have HH := hid H1
  have HB := hid hb
  have HPB := hid hpb
  have HV1 := hid (get_b hok l1 (p := p))
  have HV2 := hid (get_b hok l2 (p := p))
  have HV3 := hid (get_st hok (p := p))
  have HV4 := hid (get_none hok (p := p))
  have HAT := hid (atT_cases t p)
  obtain ⟨A, cap, rfl, hmc, hcm, hA⟩ := Owns.form H.st
  unfold maxLen at hcm
  have HA := hid hA
  unfold CkGet
  generalize valT t p = vv at *
  generalize hasT t p = hh at *
  generalize atT t p = aa at *
  generalize t.b1 p = x1 at *
  generalize t.b2 p = x2 at *
  clear hok hb hpb H1 H hA
  obtain ⟨n, hn⟩ : ∃ n, t.n = n := ⟨_, rfl⟩
  have HN := hid hn
  rw [hn] at l1 l2 hn2
  obtain ⟨m, hm⟩ : ∃ m, t.st.length = m := ⟨_, rfl⟩
  have HM := hid hm
  rw [hm] at hst hmc HH
  clear hn hm
  have hi0 : (0 : Int) ≤ (x1 : Int) := by omega
  have hi1 : (x1 : Int) < (n : Int) := by omega
  have hi2 : (0 : Int) ≤ (x2 : Int) := by omega
  have hi3 : (x2 : Int) < (n : Int) := by omega
  go_enter Tryz.func30, Tryz.ntmps30
  go_wp2_with fail
  refine c1.out.mono ?_
  rintro _ w1 ⟨rfl, hb1⟩
  have HB1 := hid (held_next HB.out hb1)
  have HH1 := hid (HH.out.below hb1)
  have HP1 := hid (HPB.out.below' hb1)
  clear hb1 HB HPB c1 HH
  have cG := hid fun (w' : World) (h : Below w1.heap.size w1 w') => ck_bget (HH1.out.below h) (i := x1) (by rw [HN.out]; exact l1) HLEN.out p
  unfold Pf.v at cG
  obtain ⟨hv, hhv⟩ : ∃ z, hasB (t.at x1) p = z := ⟨_, rfl⟩
  have E1 := hid hhv
  rw [hhv] at cG
  clear hhv
  have r0 : w1.cell? ⟨g, 1, none⟩ = some (.slice (some ⟨q, 0, none⟩) n n) := by rw [← HN.out]; exact HH1.out.top.cellv rfl
  have HR0 := hid r0
  clear r0
  cases hv
  · obtain ⟨hv2, hhv2⟩ : ∃ z, hasB (t.at x2) p = z := ⟨_, rfl⟩
    have E2 := hid hhv2
    clear hhv2
    go_wp2_with fail
    refine wp_region_later (fun w' => w'.cell? ⟨g, 1, none⟩ = some (.slice (some ⟨q, 0, none⟩) n n) ∧ w'.cell? ⟨w.heap.size, 0, none⟩ = some (.int .u64 (p.1.1 : Int)) ∧ w'.cell? ⟨w.heap.size, 1, none⟩ = some (.int .u64 (p.1.2 : Int)) ∧ w'.cell? ⟨w.heap.size, 2, none⟩ = some (.int .i64 p.2))
      (fun z => ⟨z.cell HR0.out, z.cell (HP1.out.cellv rfl), z.cell (HP1.out.cellv rfl), z.cell (HP1.out.cellv rfl)⟩) (by kernel_rfl) (by kernel_rfl) (fun HS => ?_)
    repeat (go_big_quiet_step (with_reducible exact Later.calls _ (cG.out _ (Later.below _))))
    refine wpQuiet_nil ?_
    rintro w3 ⟨⟨_, hb3⟩, rfl⟩
    have HB3 := hid (held_next HB1.out hb3)
    have HH3 := hid (HH1.out.below hb3)
    have HP3 := hid (HP1.out.below' hb3)
    clear hb3 HS cG HB1 HH1 HP1 HR0
    go_wp2_with fail
    have hb4 := (Below.refl w3.heap.size w3).alloc (Nat.le_refl _) (.cells #[.int .i64 (x1 : Int), .int .i64 (x2 : Int)] 3)
    have HI := hid (Blk.new_at w3 #[.int .i64 (x1 : Int), .int .i64 (x2 : Int)] 3 w3.heap.size rfl)
    have HB4 := hid (held_next HB3.out hb4)
    have HH4 := hid (HH3.out.below hb4)
    have HP4 := hid (HP3.out.below' hb4)
    have hsz := HB3.out.size
    clear hb4 HB3 HH3 HP3
    generalize w3.alloc (.cells #[.int .i64 (x1 : Int), .int .i64 (x2 : Int)] 3) = w4 at *
    obtain ⟨ib, hib⟩ : ∃ z, w3.heap.size = z := ⟨_, rfl⟩
    rw [hib] at HI hsz ⊢
    clear hib
    have HAA := hid (HAT.out.2 E1.out)
    have cG := hid fun (w' : World) (h : Below w4.heap.size w4 w') => ck_bget (HH4.out.below h) (i := x2) (by rw [HN.out]; exact l2) HLEN.out p
    unfold Pf.v at cG
    rw [E2.out] at cG
    have HR0 := hid (show w4.cell? ⟨g, 1, none⟩ = some (.slice (some ⟨q, 0, none⟩) n n) by rw [← HN.out]; exact HH4.out.top.cellv rfl)
    cases hv2
    · have cH := hid fun (w' : World) (h : Below w4.heap.size w4 w') => ck_hidden (HH4.out.below h) HSRT.out (by rw [HM.out]; exact hst) p
      obtain ⟨sv, hsv⟩ : ∃ z, srchB t.st p = z := ⟨_, rfl⟩
      have E3 := hid hsv
      obtain ⟨si, hsi⟩ : ∃ z, srchI t.st p = z := ⟨_, rfl⟩
      have HSI := hid hsi
      rw [hsv, hsi] at cH
      clear hsv hsi
      go_wp2_with fail
      refine wp_region_later (fun w' => w'.cell? ⟨g, 1, none⟩ = some (.slice (some ⟨q, 0, none⟩) n n) ∧ w'.cell? ⟨w.heap.size, 0, none⟩ = some (.int .u64 (p.1.1 : Int)) ∧ w'.cell? ⟨w.heap.size, 1, none⟩ = some (.int .u64 (p.1.2 : Int)) ∧ w'.cell? ⟨w.heap.size, 2, none⟩ = some (.int .i64 p.2))
        (fun z => ⟨z.cell HR0.out, z.cell (HP4.out.cellv rfl), z.cell (HP4.out.cellv rfl), z.cell (HP4.out.cellv rfl)⟩) (by kernel_rfl) (by kernel_rfl) (fun HS => ?_)
      repeat (go_big_quiet_step (with_reducible exact Later.calls _ (cG.out _ (Later.below _))))
      refine wpQuiet_nil ?_
      rintro w5 ⟨⟨_, hb5⟩, rfl⟩
      have HB5 := hid hb5
      have hP5 := HP4.out.below' hb5
      have p0 := hP5.cellv (i := 0) rfl
      have p1 := hP5.cellv (i := 1) rfl
      have p2 := hP5.cellv (i := 2) rfl
      clear hb5 HS cG hP5
      cases sv
      · have HVE := hid (HV4.out E1.out E2.out E3.out)
        go_wp2_with fail
        refine (cH.out _ HB5.out).mono ?_
        rintro _ w6 ⟨rfl, hb6⟩
        have HB6 := hid (held_next HB5.out hb6)
        clear hb6 cH
        go_wp2_with fail
        go_returns
        refine ⟨_, by rw [HVE.out.1, HVE.out.2] <;> rfl, ?_, held_next HB4.out HB6.out⟩
        rw [HAA.out]
        exact owns_ints ib [x1, x2] (by omega) (HI.out.below' HB6.out) (by unfold maxLen; simp)
      · obtain ⟨u, hu, hvt, hve⟩ := HV3.out E3.out
        have HVE := hid (And.intro hvt hve)
        rw [HSI.out] at hu
        have him : si < m := by rw [← HM.out]; exact (List.getElem?_eq_some_iff.1 hu).1
        obtain ⟨ga, rfl, _⟩ := HA.out (by rw [HM.out]; omega)
        have hi4 : (0 : Int) ≤ (si : Int) := by omega
        have hi5 : (si : Int) < (m : Int) := by omega
        have HU := hid hu
        clear hvt hve hu
        go_wp2_with fail
        refine (cH.out _ HB5.out).mono ?_
        rintro _ w6 ⟨rfl, hb6⟩
        have HB6 := hid (held_next HB5.out hb6)
        have hH6 := HH4.out.below HB6.out
        have y2 : w6.cell? ⟨g, 2, none⟩ = some (.slice (some ⟨ga, 0, none⟩) m cap) := hH6.top.cellv rfl
        have hst6 := hH6.st
        rw [HM.out] at hst6
        obtain ⟨_, hcs, hfs⟩ := Owns.cells hst6
        have y3 := (hcs (si * 4 + 3) (by omega)).trans (rtsV_at HU.out)
        clear hb6 cH hcs hfs hst6 hH6
        go_wp2_with fail
        go_returns
        refine ⟨_, by rw [HVE.out.1, HVE.out.2] <;> rfl, ?_, held_next HB4.out HB6.out⟩
        rw [HAA.out]
        exact owns_ints ib [x1, x2] (by omega) (HI.out.below' HB6.out) (by unfold maxLen; simp)
    · have HVE := hid (HV2.out E2.out)
      go_wp2_with fail
      refine wp_region_later (fun w' => w'.cell? ⟨g, 1, none⟩ = some (.slice (some ⟨q, 0, none⟩) n n) ∧ w'.cell? ⟨w.heap.size, 0, none⟩ = some (.int .u64 (p.1.1 : Int)) ∧ w'.cell? ⟨w.heap.size, 1, none⟩ = some (.int .u64 (p.1.2 : Int)) ∧ w'.cell? ⟨w.heap.size, 2, none⟩ = some (.int .i64 p.2))
        (fun z => ⟨z.cell HR0.out, z.cell (HP4.out.cellv rfl), z.cell (HP4.out.cellv rfl), z.cell (HP4.out.cellv rfl)⟩) (by kernel_rfl) (by kernel_rfl) (fun HS => ?_)
      repeat (go_big_quiet_step (with_reducible exact Later.calls _ (cG.out _ (Later.below _))))
      refine wpQuiet_nil ?_
      rintro w5 ⟨⟨_, hb5⟩, rfl⟩
      have HB5 := hid hb5
      clear hb5 HS cG
      go_wp2_with fail
      go_returns
      refine ⟨_, by rw [HVE.out.1, HVE.out.2] <;> rfl, ?_, held_next HB4.out HB5.out⟩
      rw [HAA.out]
      exact owns_ints ib [x1, x2] (by omega) (HI.out.below' HB5.out) (by unfold maxLen; simp)
  · have HVE := hid (HV1.out E1.out)
    have HAA := hid (HAT.out.1 E1.out)
    go_wp2_with fail
    refine wp_region_later (fun w' => w'.cell? ⟨g, 1, none⟩ = some (.slice (some ⟨q, 0, none⟩) n n) ∧ w'.cell? ⟨w.heap.size, 0, none⟩ = some (.int .u64 (p.1.1 : Int)) ∧ w'.cell? ⟨w.heap.size, 1, none⟩ = some (.int .u64 (p.1.2 : Int)) ∧ w'.cell? ⟨w.heap.size, 2, none⟩ = some (.int .i64 p.2))
      (fun z => ⟨z.cell HR0.out, z.cell (HP1.out.cellv rfl), z.cell (HP1.out.cellv rfl), z.cell (HP1.out.cellv rfl)⟩) (by kernel_rfl) (by kernel_rfl) (fun HS => ?_)
    repeat (go_big_quiet_step (with_reducible exact Later.calls _ (cG.out _ (Later.below _))))
    refine wpQuiet_nil ?_
    rintro w3 ⟨⟨_, hb3⟩, rfl⟩
    have HB3 := hid (held_next HB1.out hb3)
    clear hb3 HS cG
    go_wp2_with fail
    have hsz := HB3.out.size
    have hb4 := (Below.refl w3.heap.size w3).alloc (Nat.le_refl _) (.cells #[.int .i64 (x1 : Int)] 3)
    have HI := hid (Blk.new_at w3 #[.int .i64 (x1 : Int)] 3 w3.heap.size rfl)
    go_returns
    refine ⟨_, by rw [HVE.out.1, HVE.out.2] <;> rfl, ?_, held_next HB3.out hb4⟩
    rw [HAA.out]
    exact owns_ints _ [x1] (by omega) HI.out (by unfold maxLen; simp)

end Go.Proofs.YtpjjijhojcfmnaaGreat

namespace Go.Proofs.YtpjjijhojcfmnaaGreat
open Go.RowKit
set_option linter.unusedVariables false
set_option linter.unusedSimpArgs false
set_option maxRecDepth 100000

theorem ck_all {w : World} {g : Nat} {F : Nat → Prop} {t : Tb} (H0 : TwF w g F t) (hok : t.Ok) (hlen : (keysT t).length ≤ 100000000) (l : List Rt) (hR : Rep t l) :
    Calls Tryz.prog 33 #[.pointer (some ⟨g, 0, none⟩)] w (RetRts w l) := by
  obtain ⟨q, v, H, _, _, _⟩ := H0
  have cK := hid (ck_keys H hok.len hok.n2 hlen)
  have HR := hid hR
  have HOK := hid hok
  have HLN := hid hlen
  clear H hok hlen hR
  obtain ⟨L, hL⟩ : ∃ L, keysT t = L := ⟨_, rfl⟩
  have HL := hid hL
  rw [hL] at cK
  clear hL
  go_enter Tryz.func33, Tryz.ntmps33
  go_wp2_with fail
  refine cK.out.mono ?_
  rintro _ w1 ⟨u, rfl, hU, hb1⟩
  obtain ⟨A, cap, hu, _, _, _⟩ := Owns.form hU
  subst hu
  have HB := hid hb1
  have cS := hid (sort_routes w1 w.heap.size _ L hU (by rw [← HL.out]; exact HLN.out))
  have HUB := hid (fun z (hz : Value.ownBlock (.slice A L.length cap) = some z) => (Owns.base_le hU z hz).1)
  clear hU hb1 cK
  obtain ⟨m, hm⟩ : ∃ m, L.length = m := ⟨_, rfl⟩
  have HM := hid hm
  rw [hm] at cS HUB ⊢
  clear hm
  go_wp2_with fail
  refine cS.out.mono ?_
  rintro _ w2 ⟨rfl, l', hp, hs, hO, hC⟩
  have hk : l' = l := HR.out.sorted (by rw [HL.out]; exact hp) (strict_of hp hs (fun p => by
    have h1 := HOK.out.one p
    rw [← keysT_cnt, HL.out] at h1
    exact h1))
  subst hk
  have HO := hid hO
  have hlm : l'.length = m := by rw [hp.length_eq, HM.out]
  have HLM := hid hlm
  have HB2 := hid (HB.out.trans (hC.below HB.out.size (fun z hz e => by have := HUB.out z e; omega)))
  clear hO hC hp hs hlm
  go_wp2_with fail
  go_ret
  exact ⟨_, rfl, HO.out, HB2.out⟩

end Go.Proofs.YtpjjijhojcfmnaaGreat

namespace Go.Proofs.YtpjjijhojcfmnaaGreat
open Go.RowKit
set_option linter.unusedVariables false
set_option linter.unusedSimpArgs false
set_option maxRecDepth 100000

theorem takeB_no {ps : List Plc} {p : Pf} (h : hasB ps p = false) : takeB ps p = ps := by
  rcases takeB_cases ps p with ⟨h1, _⟩ | ⟨_, h2, _⟩
  · rw [h] at h1; cases h1
  · exact h2
theorem TwF.of {w : World} {g q : Nat} {v : Value} {F : Nat → Prop} {t : Tb} (h : TwQ w g q v t) (h1 : F g ∧ F q ∧ OwnIn F v) : TwF w g F t := ⟨q, v, h, h1.1, h1.2.1, h1.2.2⟩

set_option maxHeartbeats 4000000 in
theorem ck_delete {w : World} {g : Nat} {F : Nat → Prop} {t : Tb} (H0 : TwF w g F t) (hok : t.Ok) (hst : t.st.length ≤ 100000000) (p : Pf) (hp : p.1.ok) :
    Calls Tryz.prog 41 #[.pointer (some ⟨g, 0, none⟩), .agg #[.int .u64 (p.1.1 : Int), .int .u64 (p.1.2 : Int), .int .i64 p.2]] w fun e w' =>
      e = .returned (.bool (hasT t p)) ∧ TwF w' g F (delT t p) ∧ Chg F w w' := by
  obtain ⟨q, v, H, hFg, hFq, hFv⟩ := H0
  have HF := hid (show F g ∧ F q ∧ OwnIn F v from ⟨hFg, hFq, hFv⟩)
  have hb := (Below.refl w.heap.size w).alloc (Nat.le_refl _) (.cells #[.int .u64 (p.1.1 : Int), .int .u64 (p.1.2 : Int), .int .i64 p.2] 38)
  have H1 := H.below hb
  have hpb := Blk.new_at w #[.int .u64 (p.1.1 : Int), .int .u64 (p.1.2 : Int), .int .i64 p.2] 38 w.heap.size rfl
  have hgw := H.top.lt
  have hqw := H.bk.lt
  have c1 := hid (ck_two H1 hok.s64 hok.n2 p hp)
  have l1 := b1_lt hok.n1 p
  have l2 := b2_lt hok.n1 p
  have hn2 := hok.n2
  have HL4 := hid hok.len
  have HSRT := hid hok.srt
  have HH := hid H1
  have HB := hid hb
  have HPB := hid hpb
  have HV1 := hid (get_b hok l1 (p := p))
  have HV2 := hid (get_b hok l2 (p := p))
  have HV3 := hid (get_st hok (p := p))
  have HV4 := hid (get_none hok (p := p))
  have HAL := hid (fun i (h : i < t.n) => set_at (t := t) h)
  have HD1 := hid (show hasB (t.at (t.b1 p)) p = true → delT t p = t.set (t.b1 p) (takeB (t.at (t.b1 p)) p) from fun h => by unfold delT; rw [if_pos h])
  have HD2 := hid (show hasB (t.at (t.b1 p)) p = false → hasB (t.at (t.b2 p)) p = true → delT t p = t.set (t.b2 p) (takeB (t.at (t.b2 p)) p) from fun h h2 => by unfold delT; rw [if_neg (by rw [h]; decide), if_pos h2])
  have HD3 := hid (show hasB (t.at (t.b1 p)) p = false → hasB (t.at (t.b2 p)) p = false → delT t p = { t with st := withoutL t.st p } from fun h h2 => by unfold delT; rw [if_neg (by rw [h]; decide), if_neg (by rw [h2]; decide)])
  obtain ⟨A, cap, rfl, hmc, hcm, hA⟩ := Owns.form H.st
  unfold maxLen at hcm
  have HA := hid hA
  have HDEL := hid (show srchB t.st p = true → t.st.eraseIdx (srchI t.st p) = withoutL t.st p from fun h => srch_del hok.srt h)
  have HNO := hid (show hasB (t.at (t.b1 p)) p = false → hasB (t.at (t.b2 p)) p = false → srchB t.st p = false → withoutL t.st p = t.st from fun h1 h2 h3 => without_no (by have := absent_tc hok h1 h2 h3; have := st_le_tc (keyIs p) t; omega))
  generalize hasT t p = hh at *
  generalize valT t p = vv at *
  generalize delT t p = R at *
  generalize t.b1 p = x1 at *
  generalize t.b2 p = x2 at *
  clear hok hb hpb H1 H hA hFg hFq hFv
  obtain ⟨n, hn⟩ : ∃ n, t.n = n := ⟨_, rfl⟩
  have HN := hid hn
  rw [hn] at l1 l2 hn2
  obtain ⟨m, hm⟩ : ∃ m, t.st.length = m := ⟨_, rfl⟩
  have HM := hid hm
  rw [hm] at hst hmc HH HF
  clear hn hm
  have hi0 : (0 : Int) ≤ (x1 : Int) := by omega
  have hi1 : (x1 : Int) < (n : Int) := by omega
  have hi2 : (0 : Int) ≤ (x2 : Int) := by omega
  have hi3 : (x2 : Int) < (n : Int) := by omega
  go_enter Tryz.func41, Tryz.ntmps41
  go_wp2_with fail
  refine c1.out.mono ?_
  rintro _ w1 ⟨rfl, hb1⟩
  have HB1 := hid (held_next HB.out hb1)
  have HH1 := hid (HH.out.below hb1)
  have HP1 := hid (HPB.out.below' hb1)
  clear hb1 HB HPB c1 HH
  have hTd : TwQ w1.drew g q _ t := HH1.out.below (Below.refl _ _).drew
  have cT := ck_btake hTd (i := x1) (by rw [HN.out]; exact l1) HL4.out p
  unfold Pf.v at cT
  obtain ⟨hv, hhv⟩ : ∃ z, hasB (t.at x1) p = z := ⟨_, rfl⟩
  have E1 := hid hhv
  rw [hhv] at cT
  have hpq : w.heap.size ≠ q := by omega
  have hS : w1.drew.cell? ⟨g, 1, none⟩ = some (.slice (some ⟨q, 0, none⟩) n n) ∧ w1.drew.cell? ⟨w.heap.size, 0, none⟩ = some (.int .u64 (p.1.1 : Int)) ∧ w1.drew.cell? ⟨w.heap.size, 1, none⟩ = some (.int .u64 (p.1.2 : Int)) ∧ w1.drew.cell? ⟨w.heap.size, 2, none⟩ = some (.int .i64 p.2) :=
    ⟨by rw [← HN.out]; exact hTd.top.cellv rfl, HP1.out.cellv rfl, HP1.out.cellv rfl, HP1.out.cellv rfl⟩
  clear hhv hTd
  cases hv
  · rw [takeB_no E1.out, HAL.out x1 (by rw [HN.out]; exact l1)] at cT
    have HCT := hid cT
    obtain ⟨hv2, hhv2⟩ : ∃ z, hasB (t.at x2) p = z := ⟨_, rfl⟩
    have E2 := hid hhv2
    clear hhv2 cT
    go_wp2_with fail
    refine wp_region_seq (fun w' => w'.cell? ⟨g, 1, none⟩ = some (.slice (some ⟨q, 0, none⟩) n n) ∧ w'.cell? ⟨w.heap.size, 0, none⟩ = some (.int .u64 (p.1.1 : Int)) ∧ w'.cell? ⟨w.heap.size, 1, none⟩ = some (.int .u64 (p.1.2 : Int)) ∧ w'.cell? ⟨w.heap.size, 2, none⟩ = some (.int .i64 p.2)) (by kernel_rfl) hS ?_
    repeat (first
      | (refine seq_still (v := ?_) (by kernel_rfl) (fun _ _ _ h => h) rfl (fun W hW => ?_) hS ?_
         rotate_left
         · try dsimp only at hW
           go_simp
           try with_reducible rfl
         simp only [Act.put, List.setIfInBounds_toArray, List.set_cons_zero, List.set_cons_succ])
)
    refine seq_alone (by kernel_rfl) rfl (fun K hK => ?_)
    go_simp
    refine HCT.out.mono ?_
    rintro _ w4 ⟨rfl, hT4, hC4⟩
    clear hS
    have hP4 := HP1.out.drew.chg hC4 hpq
    have hS : w4.cell? ⟨g, 1, none⟩ = some (.slice (some ⟨q, 0, none⟩) n n) ∧ w4.cell? ⟨w.heap.size, 0, none⟩ = some (.int .u64 (p.1.1 : Int)) ∧ w4.cell? ⟨w.heap.size, 1, none⟩ = some (.int .u64 (p.1.2 : Int)) ∧ w4.cell? ⟨w.heap.size, 2, none⟩ = some (.int .i64 p.2) :=
      ⟨by rw [← HN.out]; exact hT4.top.cellv rfl, hP4.cellv rfl, hP4.cellv rfl, hP4.cellv rfl⟩
    have cT2 := ck_btake hT4 (i := x2) (by rw [HN.out]; exact l2) HL4.out p
    rw [E2.out] at cT2
    unfold Pf.v at cT2
    have HCT2 := hid cT2
    have HC4 := hid hC4
    have HP4 := hid hP4
    clear hT4 hC4 hP4 cT2 HCT
    refine hK.out _ _ hS ?_
    clear hK
    repeat (first
      | (refine seq_still (v := ?_) (by kernel_rfl) (fun _ _ _ h => h) rfl (fun W hW => ?_) hS ?_
         rotate_left
         · try dsimp only at hW
           go_simp
           try with_reducible rfl
         simp only [Act.put, List.setIfInBounds_toArray, List.set_cons_zero, List.set_cons_succ])
)
    refine seq_alone (by kernel_rfl) rfl (fun K hK => ?_)
    go_simp
    refine HCT2.out.mono ?_
    rintro _ w5 ⟨rfl, hT5, hC5⟩
    clear hS
    have hP5 := HP4.out.chg hC5 hpq
    have hS : w5.cell? ⟨g, 1, none⟩ = some (.slice (some ⟨q, 0, none⟩) n n) ∧ w5.cell? ⟨w.heap.size, 0, none⟩ = some (.int .u64 (p.1.1 : Int)) ∧ w5.cell? ⟨w.heap.size, 1, none⟩ = some (.int .u64 (p.1.2 : Int)) ∧ w5.cell? ⟨w.heap.size, 2, none⟩ = some (.int .i64 p.2) :=
      ⟨by rw [← HN.out, ← Tb.set_n t x2]; exact hT5.top.cellv rfl, hP5.cellv rfl, hP5.cellv rfl, hP5.cellv rfl⟩
    have HC5 := hid hC5
    have HT5 := hid hT5
    have HP5 := hid hP5
    clear hT5 hC5 hP5 HP4 HCT2
    refine hK.out _ _ hS ?_
    clear hK
    repeat (first
      | (refine seq_still (v := ?_) (by kernel_rfl) (fun _ _ _ h => h) rfl (fun W hW => ?_) hS ?_
         rotate_left
         · try dsimp only at hW
           go_simp
           try with_reducible rfl
         simp only [Act.put, List.setIfInBounds_toArray, List.set_cons_zero, List.set_cons_succ])
)
    refine seq_done (by kernel_rfl) ?_
    clear hS
    have hCQ := (Chg.of_below HB1.out F).drew.trans' ((HC4.out.trans' HC5.out).mono (S' := F) fun z _ e => by subst e; exact HF.out.2.1)
    have HCQ := hid hCQ
    clear hCQ HC4 HC5
    cases hv2
    · have hT5 := HT5.out
      rw [takeB_no E2.out, HAL.out x2 (by rw [HN.out]; exact l2)] at hT5
      have HT5' := hid hT5
      have cH := hid (ck_hidden hT5 HSRT.out (by rw [HM.out]; exact hst) p)
      obtain ⟨sv, hsv⟩ : ∃ z, srchB t.st p = z := ⟨_, rfl⟩
      have E3 := hid hsv
      obtain ⟨si, hsi⟩ : ∃ z, srchI t.st p = z := ⟨_, rfl⟩
      have HSI := hid hsi
      rw [hsv, hsi] at cH
      have p0 := HP5.out.cellv (i := 0) rfl
      have p1 := HP5.out.cellv (i := 1) rfl
      have p2 := HP5.out.cellv (i := 2) rfl
      clear hsv hsi hT5 HT5
      have HR := hid (HD3.out E1.out E2.out)
      cases sv
      · have hve := (HV4.out E1.out E2.out E3.out).1
        have HVE := hid hve
        clear hve
        go_wp2_with fail
        refine cH.out.mono ?_
        rintro _ w6 ⟨rfl, hb6⟩
        have HT6 := hid (HT5'.out.below hb6)
        have HC6 := hid (HCQ.out.trans' (Chg.of_below hb6 F))
        clear hb6 cH
        go_wp2_with fail
        go_ret
        refine ⟨by rw [HVE.out] <;> rfl, ?_, HC6.out⟩
        rw [HR.out, HNO.out E1.out E2.out E3.out]
        exact TwF.of HT6.out HF.out
      · obtain ⟨u, hu, hvt, hve⟩ := HV3.out E3.out
        have HVE := hid hvt
        rw [HSI.out] at hu
        have him : si < m := by rw [← HM.out]; exact (List.getElem?_eq_some_iff.1 hu).1
        obtain ⟨ga, rfl, _⟩ := HA.out (by rw [HM.out]; omega)
        have hi4 : (0 : Int) ≤ (si : Int) := by omega
        have hi5 : (si : Int) < (m : Int) := by omega
        clear hvt hve hu
        go_wp2_with fail
        refine cH.out.mono ?_
        rintro _ w6 ⟨rfl, hb6⟩
        have hH6 := HT5'.out.below hb6
        have y2 : w6.cell? ⟨g, 2, none⟩ = some (.slice (some ⟨ga, 0, none⟩) m cap) := hH6.top.cellv rfl
        have hst6 := hH6.st
        have cD := hid (slices_delete w6 ga cap t.st (by rw [HM.out] at hst6 ⊢; exact hst6) (by rw [HM.out]; exact hst) si (by rw [HM.out]; exact him))
        rw [HM.out, ← HSI.out, HDEL.out E3.out] at cD
        rw [HSI.out] at cD
        have HT6 := hid hH6
        have HC6 := hid (HCQ.out.trans' (Chg.of_below hb6 F))
        clear hb6 cH hst6 hH6 HT5' HCQ
        go_wp2_with fail
        refine cD.out.mono ?_
        rintro _ w7 ⟨rfl, hO7, hC7⟩
        have hga : g ≠ ga := fun e => HT6.out.gv (by rw [e]; rfl)
        have hqa : q ≠ ga := fun e => HT6.out.qv (by rw [e]; rfl)
        have hT7 := HT6.out.top.chg hC7 hga
        have hB7 := HT6.out.bk.chg hC7 hqa
        have f2 := hT7.frozen 2
        have y3 := hT7.cellv (i := 2) rfl
        have HO7 := hid hO7
        have HC7 := hid hC7
        have HT7 := hid hT7
        have HB7 := hid hB7
        have hgg := HT6.out.gq
        clear hO7 hC7 hT7 hB7 cD y2
        go_wp2_with fail
        go_ret
        have hcs := Chg.store w7 g 2 (.slice (some ⟨ga, 0, none⟩) (m - 1) cap)
        have hml : (withoutL t.st p).length = m - 1 := by
          rw [← HDEL.out E3.out, List.length_eraseIdx, HSI.out, HM.out, if_pos him]
        refine ⟨by rw [HVE.out] <;> rfl, ?_, (HC6.out.trans' (HC7.out.mono fun z _ e => by subst e; exact HF.out.2.2 _ rfl)).trans' (hcs.mono fun z _ e => by subst e; exact HF.out.1)⟩
        rw [HR.out]
        refine TwF.of (q := q) (v := .slice (some ⟨ga, 0, none⟩) (m - 1) cap) ⟨HT7.out.set 2 _, HB7.out.chg hcs (fun e => hgg e.symm), ?_, hgg, fun e => hga (by injection e with e; exact e.symm), fun e => hqa (by injection e with e; exact e.symm)⟩ ⟨HF.out.1, HF.out.2.1, fun z hz => HF.out.2.2 z hz⟩
        exact Owns.chg HO7.out hcs (fun z hz e => hga (by injection hz with hz; exact e.symm.trans hz.symm))
    · have hve := (HV2.out E2.out).1
      have HVE := hid hve
      clear hve
      go_wp2_with fail
      go_ret
      refine ⟨by rw [HVE.out] <;> rfl, ?_, HCQ.out⟩
      rw [HD2.out E1.out E2.out]
      exact TwF.of HT5.out HF.out
  · have HCT := hid cT
    have hve := (HV1.out E1.out).1
    have HVE := hid hve
    clear cT hve
    go_wp2_with fail
    refine wp_region_seq (fun w' => w'.cell? ⟨g, 1, none⟩ = some (.slice (some ⟨q, 0, none⟩) n n) ∧ w'.cell? ⟨w.heap.size, 0, none⟩ = some (.int .u64 (p.1.1 : Int)) ∧ w'.cell? ⟨w.heap.size, 1, none⟩ = some (.int .u64 (p.1.2 : Int)) ∧ w'.cell? ⟨w.heap.size, 2, none⟩ = some (.int .i64 p.2)) (by kernel_rfl) hS ?_
    repeat (first
      | (refine seq_still (v := ?_) (by kernel_rfl) (fun _ _ _ h => h) rfl (fun W hW => ?_) hS ?_
         rotate_left
         · try dsimp only at hW
           go_simp
           try with_reducible rfl
         simp only [Act.put, List.setIfInBounds_toArray, List.set_cons_zero, List.set_cons_succ])
)
    refine seq_alone (by kernel_rfl) rfl (fun K hK => ?_)
    go_simp
    refine HCT.out.mono ?_
    rintro _ w4 ⟨rfl, hT4, hC4⟩
    clear hS
    have hP4 := HP1.out.drew.chg hC4 hpq
    have hS : w4.cell? ⟨g, 1, none⟩ = some (.slice (some ⟨q, 0, none⟩) n n) ∧ w4.cell? ⟨w.heap.size, 0, none⟩ = some (.int .u64 (p.1.1 : Int)) ∧ w4.cell? ⟨w.heap.size, 1, none⟩ = some (.int .u64 (p.1.2 : Int)) ∧ w4.cell? ⟨w.heap.size, 2, none⟩ = some (.int .i64 p.2) :=
      ⟨by rw [← HN.out, ← Tb.set_n t x1]; exact hT4.top.cellv rfl, hP4.cellv rfl, hP4.cellv rfl, hP4.cellv rfl⟩
    have HC4 := hid hC4
    have HT4 := hid hT4
    clear hT4 hC4 hP4 HCT
    refine hK.out _ _ hS ?_
    clear hK
    repeat (first
      | (refine seq_skip (by kernel_rfl) (fun _ _ _ h => h) rfl hS ?_
         simp only [Act.put, List.setIfInBounds_toArray, List.set_cons_zero, List.set_cons_succ])
      | (refine seq_still (v := ?_) (by kernel_rfl) (fun _ _ _ h => h) rfl (fun W hW => ?_) hS ?_
         rotate_left
         · try dsimp only at hW
           go_simp
           try with_reducible rfl
         simp only [Act.put, List.setIfInBounds_toArray, List.set_cons_zero, List.set_cons_succ])
)
    refine seq_done (by kernel_rfl) ?_
    clear hS
    have hCQ := (Chg.of_below HB1.out F).drew.trans' (HC4.out.mono (S' := F) fun z _ e => by subst e; exact HF.out.2.1)
    have HCQ := hid hCQ
    clear hCQ HC4
    go_wp2_with fail
    go_ret
    refine ⟨by rw [HVE.out] <;> rfl, ?_, HCQ.out⟩
    rw [HD1.out E1.out]
    exact TwF.of HT4.out HF.out

end Go.Proofs.YtpjjijhojcfmnaaGreat
