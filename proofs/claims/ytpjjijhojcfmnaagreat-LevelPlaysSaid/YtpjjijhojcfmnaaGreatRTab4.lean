/-
  The document's table: putting a key (what growing does is given). No condition but that there are fewer than a hundred thousand keys.
-/
import Derived.Test.YtpjjijhojcfmnaaGreatRTab3
namespace Go.Proofs.YtpjjijhojcfmnaaGreat
open Go.RowKit
set_option linter.unusedVariables false
set_option linter.unusedSimpArgs false
set_option maxRecDepth 100000

def RGrowAt (grow : Tb → Tb) (d : Nat) : Prop := ∀ (w : World) (g : Nat) (F : Nat → Prop) (t : Tb), RwF w g F t → t.Ok → (keysT t).length ≤ 99000 → 65536 ≤ t.n * 2 ^ d → t.n < 65536 →
  Calls Tryz.prog 48 #[.pointer (some ⟨g, 0, none⟩)] w fun e w' => e = .returned (.tuple #[]) ∧ RwF w' g (fun z => F z ∨ w.heap.size ≤ z) (grow t) ∧ Chg F w w'
def RPutAt (put : Tb → Pf → Int → Tb) (d : Nat) : Prop := ∀ (w : World) (g : Nat) (F : Nat → Prop) (t : Tb) (p : Pf) (x : Int), RwF w g F t → t.Ok → p.1.ok → (keysT t).length < 99000 → 65536 ≤ t.n * 2 ^ d →
  Calls Tryz.prog 24 #[.pointer (some ⟨g, 0, none⟩), .agg #[.int .u64 (p.1.1 : Int), .int .u64 (p.1.2 : Int), .int .i64 p.2], .int .i64 x] w fun e w' =>
    e = .returned (.tuple #[]) ∧ RwF w' g (fun z => F z ∨ w.heap.size ≤ z) (put t p x) ∧ Chg F w w'
structure RKInv (w wr : World) (pb g q : Nat) (v : Value) (t : Tb) (R : Tb × Option Rt) (k : Nat) (t' : Tb) (p : Pf) (x : Int) (a : Nat) : Prop where
  res : kick (16 - k) k t' p x a = R
  ok : t'.Ok
  pok : p.1.ok
  zero : tc (keyIs p) t' = 0
  is : a = t'.b1 p ∨ a = t'.b2 p
  lt : a < t'.n
  full : ∀ y ∈ t'.at a, y.1 = true
  n : t'.n = t.n
  st : t'.st = t.st
  tw : RwQ wr g q v t'
  blk : Blk wr pb 38 [.int .u64 (p.1.1 : Int), .int .u64 (p.1.2 : Int), .int .i64 p.2]
  chg : Chg (fun z => z = q ∨ z = pb) w wr
def RKRel (w : World) (pb g q : Nat) (v : Value) (t : Tb) (R : Tb × Option Rt) (xv av i : Value) (wr : World) : Prop :=
  ∃ (k : Nat) (x : Int) (a : Nat) (t' : Tb) (p : Pf), k ≤ 16 ∧ i = .int .i64 k ∧ xv = .int .i64 x ∧ av = .int .i64 (a : Int) ∧ RKInv w wr pb g q v t R k t' p x a

set_option maxHeartbeats 8000000 in
theorem rk_put {grow : Tb → Tb} {d : Nat} (hg : RGrowAt grow d) : RPutAt (putStep grow) d := by
  intro w g F t p x hF hok hp hlen hd
  obtain ⟨q, v, H, hFg, hFq, hFv⟩ := hF
  have hb := (Below.refl w.heap.size w).alloc (Nat.le_refl _) (.cells #[.int .u64 (p.1.1 : Int), .int .u64 (p.1.2 : Int), .int .i64 p.2] 38)
  have H1 := H.below hb
  have hpb := Blk.new_at w #[.int .u64 (p.1.1 : Int), .int .u64 (p.1.2 : Int), .int .i64 p.2] 38 w.heap.size rfl
  have hsl := st_le t
  have hstl : t.st.length ≤ 100000000 := by omega
  have HF := hid (show F g ∧ F q ∧ OwnIn F v from ⟨hFg, hFq, hFv⟩)
  have HOK := hid hok
  have HPOK := hid hp
  have HPB := hid hpb
  have HB := hid hb
  have HH1 := hid H1
  have hgw := H.top.lt
  have hqw := H.bk.lt
  have HVW := hid (fun z (hz : v.ownBlock = some z) => (Owns.base_le H.st z hz).2)
  have HLEN := hid hlen
  have HD := hid hd
  obtain ⟨A, cap, hv, _, hcm, _⟩ := Owns.form H.st
  unfold maxLen at hcm
  have HFS := hid (find_srch hok.srt p)
  have hfst : stHas t p = srchB t.st p := rfl
  have HFST := hid hfst
  have cTW := hid (fun w => rk_two hok.s64 hok.n2 p hp w)
  have HRD := hid (fun (w' : World) (h : RwQ w' g q v t) => Rd.of_owns (en := rtEn) h.st rtEn_length)
  have hn1 := hok.n1
  clear hFg hFq hFv hb H1 H hpb hok hp hlen hd hfst hsl
  subst hv
  have HPS := hid (show ∀ h1 : Bool, hasB (t.at (t.b1 p)) p = h1 → (h1 = true → putStep grow t p x = t.set (t.b1 p) (putB (t.at (t.b1 p)) p x)) from fun h1 e h => by unfold putStep; rw [e, h]; rfl)
  go_enter Tryz.func24, Tryz.ntmps24
  go_wp2_with fail
  generalize w.alloc (.cells #[.int .u64 (p.1.1 : Int), .int .u64 (p.1.2 : Int), .int .i64 p.2] 38) = w0 at *
  have hl1 := b1_lt hn1 p
  have hl2 := b2_lt hn1 p
  have hn2' := HOK.out.n2
  have HL4' := hid HOK.out.len
  obtain ⟨n, hn⟩ : ∃ n, t.n = n := ⟨_, rfl⟩
  have HN := hid hn
  obtain ⟨s, hs⟩ : ∃ s, t.s = s := ⟨_, rfl⟩
  have HSS := hid hs
  obtain ⟨m, hm⟩ : ∃ m, t.st.length = m := ⟨_, rfl⟩
  have HM := hid hm
  rw [hn] at hl1 hl2 hn2' cTW
  rw [hs] at cTW
  rw [hm] at HH1 HF HVW hstl HRD
  have Z0 := hid (show w0.cell? ⟨g, 1, none⟩ = some (.slice (some ⟨q, 0, none⟩) n n) by rw [← hn]; exact HH1.out.top.cellv rfl)
  have Z1 := hid (show w0.cell? ⟨g, 0, none⟩ = some (.int .u64 (s : Int)) by rw [← hs]; exact HH1.out.top.cellv rfl)
  clear hn hs hm
  have HPZ := HPB
  refine wp_region_later (fun w' => w'.cell? ⟨g, 0, none⟩ = some (.int .u64 (s : Int)) ∧ w'.cell? ⟨g, 1, none⟩ = some (.slice (some ⟨q, 0, none⟩) n n) ∧ w'.cell? ⟨w.heap.size, 0, none⟩ = some (.int .u64 (p.1.1 : Int)) ∧ w'.cell? ⟨w.heap.size, 1, none⟩ = some (.int .u64 (p.1.2 : Int)) ∧ w'.cell? ⟨w.heap.size, 2, none⟩ = some (.int .i64 p.2)) (fun z => ⟨z.cell Z1.out, z.cell Z0.out, z.cell (HPZ.out.cellv rfl), z.cell (HPZ.out.cellv rfl), z.cell (HPZ.out.cellv rfl)⟩) (by kernel_rfl) (by kernel_rfl) (fun HS => ?_)
  repeat (go_big_quiet_step (with_reducible exact Later.calls _ (cTW.out _)))
  refine wpQuiet_nil ?_
  rintro wa ⟨⟨_, hba⟩, rfl⟩
  have HBa := hid (held_next HB.out hba)
  have HHa := hid (HH1.out.below hba)
  have HPZ := hid (HPB.out.below' hba)
  have Z0 := hid (show wa.cell? ⟨g, 1, none⟩ = some (.slice (some ⟨q, 0, none⟩) n n) by rw [← HN.out]; exact HHa.out.top.cellv rfl)
  clear hba HS HB HPB cTW HH1
  have hi0 : (0 : Int) ≤ (t.b1 p : Int) := by omega
  have hi1 : (t.b1 p : Int) < (n : Int) := by omega
  have hi2 : (0 : Int) ≤ (t.b2 p : Int) := by omega
  have hi3 : (t.b2 p : Int) < (n : Int) := by omega
  obtain ⟨x1, hx1⟩ : ∃ z, t.b1 p = z := ⟨_, rfl⟩
  have HX1 := hid hx1
  obtain ⟨x2, hx2⟩ : ∃ z, t.b2 p = z := ⟨_, rfl⟩
  have HX2 := hid hx2
  rw [hx1] at hl1 hi0 hi1 ⊢
  rw [hx2] at hl2 hi2 hi3 ⊢
  clear hx1 hx2
  obtain ⟨h1, hh1⟩ : ∃ z, hasB (t.at x1) p = z := ⟨_, rfl⟩
  have E1 := hid hh1
  obtain ⟨h2, hh2⟩ : ∃ z, hasB (t.at x2) p = z := ⟨_, rfl⟩
  have E2 := hid hh2
  have cG1 := hid fun (w' : World) (h : Below wa.heap.size wa w') => rk_bget (HHa.out.below h) (i := x1) (by rw [HN.out]; exact hl1) HL4'.out p
  rw [hh1] at cG1
  clear hh1 hh2
  go_wp2_with fail
  refine wp_region_later (fun w' => w'.cell? ⟨g, 1, none⟩ = some (.slice (some ⟨q, 0, none⟩) n n) ∧ w'.cell? ⟨w.heap.size, 0, none⟩ = some (.int .u64 (p.1.1 : Int)) ∧ w'.cell? ⟨w.heap.size, 1, none⟩ = some (.int .u64 (p.1.2 : Int)) ∧ w'.cell? ⟨w.heap.size, 2, none⟩ = some (.int .i64 p.2)) (fun z => ⟨z.cell Z0.out, z.cell (HPZ.out.cellv rfl), z.cell (HPZ.out.cellv rfl), z.cell (HPZ.out.cellv rfl)⟩) (by kernel_rfl) (by kernel_rfl) (fun HS => ?_)
  repeat (go_big_quiet_step (with_reducible exact Later.calls _ (cG1.out _ (Later.below _))))
  refine wpQuiet_nil ?_
  rintro wb ⟨⟨_, hbb⟩, rfl⟩
  have HBb := hid (held_next HBa.out hbb)
  have HHb := hid (HHa.out.below hbb)
  have HPb := hid (HPZ.out.below' hbb)
  have Z0 := hid (show wb.cell? ⟨g, 1, none⟩ = some (.slice (some ⟨q, 0, none⟩) n n) by rw [← HN.out]; exact HHb.out.top.cellv rfl)
  clear hbb HS cG1 HBa HHa HPZ
  have HPZ := HPb
  have cG2 := hid fun (w' : World) (h : Below wb.heap.size wb w') => rk_bget (HHb.out.below h) (i := x2) (by rw [HN.out]; exact hl2) HL4'.out p
  rw [E2.out] at cG2
  go_wp2_with fail
  refine wp_region_later (fun w' => w'.cell? ⟨g, 1, none⟩ = some (.slice (some ⟨q, 0, none⟩) n n) ∧ w'.cell? ⟨w.heap.size, 0, none⟩ = some (.int .u64 (p.1.1 : Int)) ∧ w'.cell? ⟨w.heap.size, 1, none⟩ = some (.int .u64 (p.1.2 : Int)) ∧ w'.cell? ⟨w.heap.size, 2, none⟩ = some (.int .i64 p.2)) (fun z => ⟨z.cell Z0.out, z.cell (HPZ.out.cellv rfl), z.cell (HPZ.out.cellv rfl), z.cell (HPZ.out.cellv rfl)⟩) (by kernel_rfl) (by kernel_rfl) (fun HS => ?_)
  repeat (go_big_quiet_step (with_reducible exact Later.calls _ (cG2.out _ (Later.below _))))
  refine wpQuiet_nil ?_
  rintro wc ⟨⟨_, hbc⟩, rfl⟩
  have HBc := hid (held_next HBb.out hbc)
  have HHc := hid (HHb.out.below hbc)
  have HPc := hid (HPZ.out.below' hbc)
  have Z0 := hid (show wc.cell? ⟨g, 2, none⟩ = some (.slice A m cap) from HHc.out.top.cellv rfl)
  clear hbc HS cG2 HBb HHb HPZ HPb
  have HPZ := HPc
  have cF := hid fun (w' : World) (h : Below wc.heap.size wc w') => ref_find w' _ t.st (HRD.out w' (HHc.out.below h)) p
  obtain ⟨f, hf⟩ : ∃ f, findI t.st p = f := ⟨_, rfl⟩
  have HFI := hid hf
  rw [hf] at cF
  clear hf
  go_wp2_with fail
  refine wp_region_later (fun w' => w'.cell? ⟨g, 2, none⟩ = some (.slice A m cap) ∧ w'.cell? ⟨w.heap.size, 0, none⟩ = some (.int .u64 (p.1.1 : Int)) ∧ w'.cell? ⟨w.heap.size, 1, none⟩ = some (.int .u64 (p.1.2 : Int)) ∧ w'.cell? ⟨w.heap.size, 2, none⟩ = some (.int .i64 p.2)) (fun z => ⟨z.cell Z0.out, z.cell (HPZ.out.cellv rfl), z.cell (HPZ.out.cellv rfl), z.cell (HPZ.out.cellv rfl)⟩) (by kernel_rfl) (by kernel_rfl) (fun HS => ?_)
  repeat (go_big_quiet_step (with_reducible exact Later.calls _ (cF.out _ (Later.below _))))
  refine wpQuiet_nil ?_
  rintro w2 ⟨⟨_, hb2⟩, rfl⟩
  have HB2 := hid (held_next HBc.out hb2)
  have HT2 := hid (HHc.out.below hb2)
  have HP2 := hid (HPZ.out.below' hb2)
  clear hb2 HS cF HBc HHc HPZ HPc Z0
  have hpq : w.heap.size ≠ q := by omega
  have hTd : RwQ w2.drew g q (.slice A m cap) t := HT2.out.below (Below.refl _ _).drew
  have z0 : w2.drew.cell? ⟨w.heap.size, 0, none⟩ = some (.int .u64 (p.1.1 : Int)) := HP2.out.cellv rfl
  have z1 : w2.drew.cell? ⟨w.heap.size, 1, none⟩ = some (.int .u64 (p.1.2 : Int)) := HP2.out.cellv rfl
  have z2 : w2.drew.cell? ⟨w.heap.size, 2, none⟩ = some (.int .i64 p.2) := HP2.out.cellv rfl
  cases h1
  · cases h2
    · obtain ⟨sv, hsv⟩ : ∃ z, srchB t.st p = z := ⟨_, rfl⟩
      have E3 := hid hsv
      cases sv
      · have hfn := HFS.out.2 hsv
        rw [HFI.out] at hfn
        have hfneg : ¬ (0 ≤ f) := by omega
        have HE1 := E1
        have HE2 := E2
        have HE3 := hid (show stHas t p = false from hsv)
        have hPN := put_no (grow := grow) x (show replB t p = false by unfold replB; rw [HX1.out, HX2.out, E1.out, E2.out, show stHas t p = false from hsv]; rfl)
        rw [HX1.out, HX2.out] at hPN
        have HPN := hid hPN
        have HL4 := HL4'
        have HAL := hid (fun i (h : i < t.n) => set_at (t := t) h)
        have hgq := hTd.gq
        have HTD := hid hTd
        have cP1 := rk_bput hTd (i := x1) (by rw [HN.out]; exact hl1) HL4.out p x
        have HP1' := hid cP1
        have y0 : w2.drew.cell? ⟨g, 1, none⟩ = some (.slice (some ⟨q, 0, none⟩) n n) := by rw [← HN.out]; exact hTd.top.cellv rfl
        have HC2 := hid (Chg.of_below HB2.out (fun z => z = q ∨ (Value.slice A m cap).ownBlock = some z))
        obtain ⟨v, hv0⟩ : ∃ v, Value.slice A m cap = v := ⟨_, rfl⟩
        rw [hv0] at HF HVW HTD HP1' HC2 HT2
        clear hfn hPN hTd cP1 hsv HFS HFI HFST HRD hv0 HL4' HM E1 E2 E3 HSS HPS
        obtain ⟨c1, hc1⟩ : ∃ z, canB (t.at x1) p = z := ⟨_, rfl⟩
        have HCB1 := hid hc1
        rw [hc1] at HP1'
        clear hc1
        cases c1
        · have e1 := putB_full HE1.out x HCB1.out
          rw [e1.1, HAL.out x1 (by rw [HN.out]; omega)] at HP1'
          obtain ⟨c2, hc2⟩ : ∃ z, canB (t.at x2) p = z := ⟨_, rfl⟩
          have HCB2 := hid hc2
          clear hc2 e1
          go_wp2_with fail
          have hS : w2.drew.cell? ⟨g, 1, none⟩ = some (.slice (some ⟨q, 0, none⟩) n n) ∧ w2.drew.cell? ⟨w.heap.size, 0, none⟩ = some (.int .u64 (p.1.1 : Int)) ∧ w2.drew.cell? ⟨w.heap.size, 1, none⟩ = some (.int .u64 (p.1.2 : Int)) ∧ w2.drew.cell? ⟨w.heap.size, 2, none⟩ = some (.int .i64 p.2) := ⟨y0, z0, z1, z2⟩
          refine wp_region_seq (fun w' => w'.cell? ⟨g, 1, none⟩ = some (.slice (some ⟨q, 0, none⟩) n n) ∧ w'.cell? ⟨w.heap.size, 0, none⟩ = some (.int .u64 (p.1.1 : Int)) ∧ w'.cell? ⟨w.heap.size, 1, none⟩ = some (.int .u64 (p.1.2 : Int)) ∧ w'.cell? ⟨w.heap.size, 2, none⟩ = some (.int .i64 p.2)) (by kernel_rfl) hS ?_
          repeat (first
            | (refine seq_still (v := ?_) (by kernel_rfl) (fun _ _ _ h => h) rfl (fun W hW => ?_) hS ?_
               rotate_left
               · try dsimp only at hW
                 go_simp
                 try with_reducible rfl
               simp only [Act.put, List.setIfInBounds_toArray, List.set_cons_zero, List.set_cons_succ])
    )
          refine seq_alone (by kernel_rfl) rfl (fun K hK => ?_)
          go_simp
          refine HP1'.out.mono ?_
          rintro _ w4 ⟨rfl, hT4, hC4⟩
          clear hS
          have hP4 := HP2.out.drew.chg hC4 hpq
          have hS : w4.cell? ⟨g, 1, none⟩ = some (.slice (some ⟨q, 0, none⟩) n n) ∧ w4.cell? ⟨w.heap.size, 0, none⟩ = some (.int .u64 (p.1.1 : Int)) ∧ w4.cell? ⟨w.heap.size, 1, none⟩ = some (.int .u64 (p.1.2 : Int)) ∧ w4.cell? ⟨w.heap.size, 2, none⟩ = some (.int .i64 p.2) := ⟨(by rw [← HN.out]; exact hT4.top.cellv rfl), hP4.cellv rfl, hP4.cellv rfl, hP4.cellv rfl⟩
          have hP2' := rk_bput hT4 (i := x2) (by rw [HN.out]; omega) HL4.out p x
          rw [HCB2.out] at hP2'
          have HC4 := hid hC4
          have HT4 := hid hT4
          have HP4 := hid hP4
          have HPC2 := hid hP2'
          clear hT4 hC4 HP1' y0 z0 z1 z2 hP4 hP2'
          refine hK.out _ _ hS ?_
          clear hK
          repeat (first
            | (refine seq_still (v := ?_) (by kernel_rfl) (fun _ _ _ h => h) rfl (fun W hW => ?_) hS ?_
               rotate_left
               · try dsimp only at hW
                 go_simp
                 try with_reducible rfl
               simp only [Act.put, List.setIfInBounds_toArray, List.set_cons_zero, List.set_cons_succ])
    )
          refine seq_alone (by kernel_rfl) rfl (fun K hK => ?_)
          go_simp
          refine HPC2.out.mono ?_
          rintro _ w5 ⟨rfl, hT5, hC5⟩
          clear hS
          have hP5 := HP4.out.chg hC5 hpq
          have hS : w5.cell? ⟨g, 1, none⟩ = some (.slice (some ⟨q, 0, none⟩) n n) ∧ w5.cell? ⟨w.heap.size, 0, none⟩ = some (.int .u64 (p.1.1 : Int)) ∧ w5.cell? ⟨w.heap.size, 1, none⟩ = some (.int .u64 (p.1.2 : Int)) ∧ w5.cell? ⟨w.heap.size, 2, none⟩ = some (.int .i64 p.2) := ⟨(by rw [← HN.out, ← Tb.set_n t x2]; exact hT5.top.cellv rfl), hP5.cellv rfl, hP5.cellv rfl, hP5.cellv rfl⟩
          have HC5 := hid hC5
          have HT5 := hid hT5
          have HP5 := hid hP5
          clear hT5 hC5 hP5 HPC2 HP4 HT4
          refine hK.out _ _ hS ?_
          clear hK
          repeat (first
            | (refine seq_still (v := ?_) (by kernel_rfl) (fun _ _ _ h => h) rfl (fun W hW => ?_) hS ?_
               rotate_left
               · try dsimp only at hW
                 go_simp
                 try with_reducible rfl
               simp only [Act.put, List.setIfInBounds_toArray, List.set_cons_zero, List.set_cons_succ])
    )
          refine seq_done (by kernel_rfl) ?_
          clear hS
          have hCq := (HC4.out.trans' HC5.out)
          have HCQ := hid (HC2.out.drew.trans' (hCq.mono fun z _ e => Or.inl e))
          clear hCq HC4 HC5 HC2
          cases c2
          · have e2 := putB_full HE2.out x HCB2.out
            have hT5 := HT5.out
            rw [e2.1, HAL.out x2 (by rw [HN.out]; omega)] at hT5
            have HZ := hid (absent_tc HOK.out (p := p) (by rw [HX1.out]; exact HE1.out) (by rw [HX2.out]; exact HE2.out) HE3.out)
            have HFULL := hid e2.2
            have HT5' := hid hT5
            obtain ⟨R, hR⟩ : ∃ R, kick 16 0 t p x x2 = R := ⟨_, rfl⟩
            have HR0 := hid hR
            have hpbw : w.heap.size < w5.heap.size := HP5.out.lt
            have HXL := hid hl2
            clear e2 hT5 HT5 hR hi0 hi1 hi2 hi3
            go_wp2_with fail
            go_loopw [2, 13, 14] (fun xv av i wr => RKRel w5 w.heap.size g q v t R xv av i wr) (fun _ _ i _ => 16 - (intOf i).toNat)
            case atStart => exact ⟨0, x, x2, t, p, Nat.zero_le _, rfl, rfl, rfl, ⟨HR0.out, HOK.out, HPOK.out, HZ.out, .inr HX2.out.symm, by rw [HN.out]; exact HXL.out, HFULL.out, rfl, rfl, HT5'.out, HP5.out, Chg.refl _ _⟩⟩
            case round =>
              obtain ⟨k, x', a, t', p', hk, rfl, rfl, rfl, hI⟩ := hrel
              have HI := hid hI
              have htn : t'.n = n := by rw [hI.n, HN.out]
              have han := hI.lt
              rw [htn] at han
              have y1 : wr.cell? ⟨g, 1, none⟩ = some (.slice (some ⟨q, 0, none⟩) n n) := by rw [← htn]; exact hI.tw.top.cellv rfl
              have z0 := hI.blk.cellv (i := 0) rfl
              have z1 := hI.blk.cellv (i := 1) rfl
              have z2 := hI.blk.cellv (i := 2) rfl
              clear hI
              by_cases hk16 : k < 16
              · obtain ⟨p2, v2, hy, hg2, ht1, hp2, hz2, hc2⟩ := kick_step (i := k) (v := x') HI.out.ok HI.out.pok HI.out.zero HI.out.is HI.out.lt HI.out.full
                have hm4 : k % 4 < 4 := Nat.mod_lt _ (by decide)
                have cS := rk_bswap (HI.out.tw.below (Below.refl wr.heap.size wr).drew) HI.out.lt HI.out.ok.len (k % 4) hm4 (p2, v2) hy p' x'
                rw [show ((k % 4 : Nat) : Int) = (k : Int) % 4 by omega] at cS
                have HCS := hid cS
                have HT1' := hid ht1
                have HP2' := hid hp2
                have HZ2 := hid hz2
                have HG2 := hid hg2
                clear hy hg2 ht1 hp2 hz2 hc2 cS
                have ha0 : (0 : Int) ≤ (a : Int) := by omega
                have ha1 : (a : Int) < (n : Int) := by omega
                go_wp2_with fail
                go_region_law? (first | (go_simp; go_at_call 46; refine HCS.out.mono ?_; rintro _ w6 ⟨rfl, hT6, hC6⟩; have hP6 := HI.out.blk.drew.chg hC6 hpq; have s0 := hP6.cellv (i := 0) rfl; have s1 := hP6.cellv (i := 1) rfl; have s2 := hP6.cellv (i := 2) rfl; have f0 := hP6.frozen 0; have f1 := hP6.frozen 1; have f2 := hP6.frozen 2))
                all_goals
                  simp only [Act.put, List.setIfInBounds_toArray, List.set_cons_zero, List.set_cons_succ, List.getElem_toArray, List.getElem_cons_zero, List.getElem_cons_succ]
                  have hP7 : Blk (((w6.setCell ⟨w.heap.size, 0, none⟩ (.int .u64 (p2.1.1 : Int))).setCell ⟨w.heap.size, 1, none⟩ (.int .u64 (p2.1.2 : Int))).setCell ⟨w.heap.size, 2, none⟩ (.int .i64 p2.2)) w.heap.size 38 [.int .u64 (p2.1.1 : Int), .int .u64 (p2.1.2 : Int), .int .i64 p2.2] :=
                    ((hP6.set 0 (.int .u64 (p2.1.1 : Int))).set 1 (.int .u64 (p2.1.2 : Int))).set 2 (.int .i64 p2.2)
                  have k1 := (Chg.store w6 w.heap.size 0 (.int .u64 (p2.1.1 : Int))).trans' (Chg.store _ w.heap.size 1 (.int .u64 (p2.1.2 : Int)))
                  have hC7 := k1.trans' (Chg.store _ w.heap.size 2 (.int .i64 p2.2))
                  have hT7 := hT6.chg hC7 (by omega) (by omega) (fun b hb e => by have := HVW.out b hb; omega)
                  have hCh := ((HI.out.chg.drew).trans' (hC6.mono (S' := fun z => z = q ∨ z = w.heap.size) fun z _ e => .inl e)).trans' (hC7.mono (S' := fun z => z = q ∨ z = w.heap.size) fun z _ e => .inr e)
                  generalize ((w6.setCell ⟨w.heap.size, 0, none⟩ (.int .u64 (p2.1.1 : Int))).setCell ⟨w.heap.size, 1, none⟩ (.int .u64 (p2.1.2 : Int))).setCell ⟨w.heap.size, 2, none⟩ (.int .i64 p2.2) = w7 at *
                  have HRES := HI.out.res
                  rw [show 16 - k = (16 - (k + 1)) + 1 by omega] at HRES
                  unfold kick at HRES
                  simp only [HG2.out] at HRES
                  have hn1 : (t'.set a ((t'.at a).set (k % 4) (true, p', x'))).n = n := by rw [Tb.set_n]; exact htn
                  have hs1 : (t'.set a ((t'.at a).set (k % 4) (true, p', x'))).st = t.st := HI.out.st
                  have hnt : (t'.set a ((t'.at a).set (k % 4) (true, p', x'))).n = t.n := by rw [hn1, HN.out]
                  generalize t'.set a ((t'.at a).set (k % 4) (true, p', x')) = t1 at *
                  have cO := hid (rk_other hT7 HT1'.out.s64 HT1'.out.n2 p2 HP2'.out a)
                  have hlt := other_lt HT1'.out.n1 p2 a
                  have his := other_is t1 p2 a
                  generalize t1.other p2 a = a' at *
                  have HIS := hid his
                  have HT7 := hid hT7
                  have HP7 := hid hP7
                  have HCH := hid hCh
                  have HRES' := hid HRES
                  have z0 := hP7.cellv (i := 0) rfl
                  have z1 := hP7.cellv (i := 1) rfl
                  have z2 := hP7.cellv (i := 2) rfl
                  have hs0' := hC6.size
                  have hs0 := hC7.size
                  clear k1 hC7 hT7 hCh hP7 hP6 s0 s1 s2 f0 f1 f2 hT6 hC6 HCS his HRES y1
                  go_wp2_with fail
                  refine cO.out.mono ?_
                  rintro _ w8 ⟨rfl, hb8⟩
                  have HT8 := hid (HT7.out.below hb8)
                  have HP8 := hid (HP7.out.below' hb8)
                  have HC8 := hid (HCH.out.trans' (Chg.of_below hb8 _))
                  have hT8 := HT8.out
                  have hP8 := HP8.out
                  clear hb8 cO HT7 HP7 HCH
                  go_wp2_with fail
                  have y1 : w8.drew.cell? ⟨g, 1, none⟩ = some (.slice (some ⟨q, 0, none⟩) n n) := by rw [← hn1]; exact hT8.top.drew.cellv rfl
                  have z0 : w8.drew.cell? ⟨w.heap.size, 0, none⟩ = some (.int .u64 (p2.1.1 : Int)) := hP8.drew.cellv rfl
                  have z1 : w8.drew.cell? ⟨w.heap.size, 1, none⟩ = some (.int .u64 (p2.1.2 : Int)) := hP8.drew.cellv rfl
                  have z2 : w8.drew.cell? ⟨w.heap.size, 2, none⟩ = some (.int .i64 p2.2) := hP8.drew.cellv rfl
                  have cB := rk_bput (hT8.below (Below.refl w8.heap.size w8).drew) hlt HT1'.out.len p2 v2
                  have hno := has_tc hlt HZ2.out
                  obtain ⟨c3, hc3⟩ : ∃ z, canB (t1.at a') p2 = z := ⟨_, rfl⟩
                  have HC3 := hid hc3
                  rw [hc3] at cB
                  have HCB := hid cB
                  have HNO := hid hno
                  have ha3 : (0 : Int) ≤ (a' : Int) := by omega
                  have ha4 : (a' : Int) < (n : Int) := by omega
                  clear hT8 hP8 hno hc3 cB
                  refine wp_region_tail 8 (by kernel_rfl) (by kernel_rfl) ?_
                  simp only [List.take_succ_cons, List.take_zero, List.drop_succ_cons, List.drop_zero]
                  repeat still_step
                  refine wpStill_nil ?_
                  go_wp2_with fail
                  refine HCB.out.mono ?_
                  rintro _ w9 ⟨rfl, hT9, hC9⟩
                  have HT9 := hid hT9
                  have HP9 := hid (HP8.out.drew.chg hC9 (by omega))
                  have HC9 := hid (HC8.out.drew.trans' (hC9.mono (S' := fun z => z = q ∨ z = w.heap.size) fun z _ e => .inl e))
                  clear hT9 hC9 HCB y1 z0 z1 z2 HT8 HP8 HC8
                  cases c3
                  · have e1 := putB_full HNO.out v2 HC3.out
                    have hT9 := HT9.out
                    rw [e1.1, set_at hlt] at hT9
                    have HT10 := hid hT9
                    have HFU := hid e1.2
                    have hr := HRES'.out
                    rw [if_neg (by rw [HC3.out]; decide)] at hr
                    have HRR := hid hr
                    clear hT9 e1 hr HT9
                    go_wp2_with fail
                    go_roundw
                    case rel => exact ⟨k + 1, v2, a', t1, p2, by omega, by go_num, rfl, rfl, ⟨HRR.out, HT1'.out, HP2'.out, HZ2.out, HIS.out, hlt, HFU.out, hnt, hs1, HT10.out, HP9.out, HC9.out⟩⟩
                    case measure => simp [intOf]; omega
                  · have hr := HRES'.out
                    rw [if_pos HC3.out] at hr
                    have HRR := hid hr
                    clear hr
                    go_wp2_with fail
                    go_returns
                    refine ⟨rfl, ⟨q, v, ?_, .inl HF.out.1, .inl HF.out.2.1, fun z hz => .inl (HF.out.2.2 z hz)⟩, (HCQ.out.trans HC9.out (S := fun z => z = q ∨ v.ownBlock = some z) fun z hz h => ?_).mono fun z _ h => ?_⟩
                    · rw [HPN.out, if_neg (by rw [HCB1.out]; decide), if_neg (by rw [HCB2.out]; decide), HR0.out, ← HRR.out]; exact HT9.out
                    · rcases h with h | h
                      · exact .inl h
                      · omega
                    · rcases h with h | h
                      · rw [h]; exact HF.out.2.1
                      · exact HF.out.2.2 z h
              · have hk' : k = 16 := by omega
                subst hk'
                have hr := HI.out.res
                have hr2 : R = (t', some (p', x')) := hr.symm
                have hKO := kick_ok 16 0 (t := t) (p := p) (v := x) (a := x2) HOK.out HPOK.out HZ.out (.inr HX2.out.symm) (by rw [HN.out]; exact HXL.out) HFULL.out
                rw [HR0.out, hr2] at hKO
                have HRR := hid hr2
                have HKO := hid hKO
                have hlen' : t'.st.length ≤ 100000 := by rw [HI.out.st]; have := HLEN.out; have := st_le t; omega
                have HCr := hid HI.out.chg
                obtain ⟨Av, capv, hvv, _, _, _⟩ := Owns.form HI.out.tw.st
                subst hvv
                have hTd := HI.out.tw.below (Below.refl wr.heap.size wr).drew
                have cI := hid (ref_into wr.drew _ t'.st (Rd.of_owns (en := rtEn) hTd.st rtEn_length) hlen' (p', x'))
                have y2 : wr.drew.cell? ⟨g, 2, none⟩ = some (.slice Av t'.st.length capv) := hTd.top.cellv rfl
                have hPd := HI.out.blk.drew
                have z0 : wr.drew.cell? ⟨w.heap.size, 0, none⟩ = some (.int .u64 (p'.1.1 : Int)) := hPd.cellv rfl
                have z1 : wr.drew.cell? ⟨w.heap.size, 1, none⟩ = some (.int .u64 (p'.1.2 : Int)) := hPd.cellv rfl
                have z2 : wr.drew.cell? ⟨w.heap.size, 2, none⟩ = some (.int .i64 p'.2) := hPd.cellv rfl
                have z3 : wr.cell? ⟨w.heap.size, 0, none⟩ = some (.int .u64 (p'.1.1 : Int)) := z0
                have z4 : wr.cell? ⟨w.heap.size, 1, none⟩ = some (.int .u64 (p'.1.2 : Int)) := z1
                have z5 : wr.cell? ⟨w.heap.size, 2, none⟩ = some (.int .i64 p'.2) := z2
                have y3 : wr.cell? ⟨g, 2, none⟩ = some (.slice Av t'.st.length capv) := y2
                have htn' := htn
                clear hr hr2 hKO hlen' hTd hPd y1
                go_wp2_with fail
                go_region_law? (first | (go_simp; go_at_call 35; refine cI.out.mono ?_; rintro _ w6 ⟨v6, rfl, hO6, hb6⟩; obtain ⟨A', cap', hv6⟩ := hO6.form; subst hv6; have hb6' : Below wr.heap.size wr w6 := (Below.refl wr.heap.size wr).drew.trans hb6; have f2 := (HI.out.tw.below hb6').top.frozen 2; have y4 : w6.cell? ⟨g, 2, none⟩ = some (.slice Av t'.st.length capv) := (HI.out.tw.below hb6').top.cellv (i := 2) rfl; have y5 : w6.cell? ⟨g, 1, none⟩ = some (.slice (some ⟨q, 0, none⟩) n n) := by rw [← htn]; exact (HI.out.tw.below hb6').top.cellv (i := 1) rfl))
                all_goals
                 have hQ6 := HI.out.tw.stash (show OwnRts wr _ w6 _ from hO6) hb6'
                 obtain ⟨t3, ht3⟩ : ∃ t3 : Tb, t3 = { t' with st := intoL t'.st (p', x') } := ⟨_, rfl⟩
                 rw [← ht3] at hQ6
                 have hC11 : Chg F w (w6.setCell ⟨g, 2, none⟩ (.slice A' (intoL t'.st (p', x')).length cap')) := by
                   have k1 : Chg F w w5 := HCQ.out.mono fun z _ h => by
                     rcases h with h | h
                     · rw [h]; exact HF.out.2.1
                     · exact HF.out.2.2 z h
                   have k2 := k1.trans HCr.out fun z hz h => by
                     rcases h with h | h
                     · rw [h]; exact HF.out.2.1
                     · omega
                   exact (k2.trans' (Chg.of_below hb6' F)).trans' ((Chg.store w6 g 2 _).mono fun z _ h => by rw [h]; exact HF.out.1)
                 have hNW := fun z hz => (Owns.base_le hO6 z hz).1
                 have hzz : w.heap.size ≤ wr.heap.size := Nat.le_trans HCQ.out.size HCr.out.size
                 have hF11 : RwF (w6.setCell ⟨g, 2, none⟩ (.slice A' (intoL t'.st (p', x')).length cap')) g (fun z => F z ∨ w.heap.size ≤ z) t3 := RwF.of hQ6 ⟨.inl HF.out.1, .inl HF.out.2.1, fun z hz => .inr (by have := hNW z hz; exact Nat.le_trans hzz this)⟩
                 have hT11 := hQ6
                 have hst := stash_in HI.out.ok (r := (p', x')) HI.out.pok HI.out.zero
                 rw [← ht3] at hst
                 have HST := hid hst
                 have HF11 := hid hF11
                 have HC11 := hid hC11
                 have hfin : fin grow R = if 8 < (intoL t'.st (p', x')).length ∧ t'.n < 65536 then grow t3 else t3 := by rw [HRR.out, ht3]; rfl
                 have HFIN := hid hfin
                 have HPF := hid (show putStep grow t p x = fin grow R by rw [HPN.out, if_neg (by rw [HCB1.out]; decide), if_neg (by rw [HCB2.out]; decide), HR0.out])
                 have y6' : (w6.setCell ⟨g, 2, none⟩ (.slice A' (intoL t'.st (p', x')).length cap')).cell? ⟨g, 1, none⟩ = some (.slice (some ⟨q, 0, none⟩) t'.n t'.n) := by
                   have h := hT11.top
                   rw [ht3] at h
                   exact h.cellv rfl
                 have y7' := hT11.top.cellv (i := 2) rfl
                 have HY6 := hid y6'
                 have HY7 := hid y7'
                 have hn3 : t3.n = t'.n := by rw [ht3]; rfl
                 have hnn : t'.n = t.n := HI.out.n
                 obtain ⟨ln, hln⟩ : ∃ z, (intoL t'.st (p', x')).length = z := ⟨_, rfl⟩
                 rw [hln] at HFIN HY7 HY6 HF11 HC11 ⊢
                 have hnn' : t'.n = n := htn
                 rw [hnn'] at HY6 HFIN
                 have HN3 := hid hn3
                 have HNN := hid hnn
                 clear hn3 hnn hnn' htn hst hF11 hC11 hfin ht3 hT11 hQ6 hNW hzz hO6 hb6 hb6' cI y2 z0 z1 z2 hln y6' y7'
                 obtain ⟨w11, hw11⟩ : ∃ W, w6.setCell ⟨g, 2, none⟩ (.slice A' ln cap') = W := ⟨_, rfl⟩
                 rw [hw11] at HF11 HC11
                 have HW11 := hid hw11
                 clear hw11 HY6 HY7
                 by_cases c8 : 8 < ln
                 · have c8' : (8 : Int) < (ln : Int) := by omega
                   by_cases cn : n < 65536
                   · have cn' : (n : Int) < 65536 := by omega
                     have cG := hid (hg w11 g _ t3 HF11.out HST.out.1 (by
                       have h1 := HST.out.2 (fun _ => true)
                       have h2 := HKO.out.cnt (fun _ => true)
                       simp only [oc] at h2
                       have h3 := HLEN.out
                       rw [keys_all] at h3 ⊢
                       simp at h1 h2; omega) (by rw [HN3.out, HNN.out]; exact HD.out) (by rw [HN3.out, HNN.out, HN.out]; exact cn))
                     go_wp2_with fail
                     try rw [HW11.out]
                     refine cG.out.mono ?_
                     rintro _ w12 ⟨rfl, hF12, hC12⟩
                     have HF12 := hid hF12
                     have HC12 := hid hC12
                     have hsz := HC11.out.size
                     clear hF12 hC12 cG
                     go_wp2_with fail
                     try rw [HW11.out]
                     go_returns
                     try rw [HW11.out]
                     refine ⟨rfl, ?_, HC11.out.trans HC12.out fun z hz h => ?_⟩
                     · rw [HPF.out, HFIN.out, if_pos ⟨c8, cn⟩]
                       exact HF12.out.mono fun z _ h => by
                         rcases h with h | h
                         · exact h
                         · exact .inr (by omega)
                     · rcases h with h | h
                       · exact h
                       · omega
                   · have cn' : ¬ (n : Int) < 65536 := by omega
                     go_wp2_with fail
                     try rw [HW11.out]
                     go_returns
                     try rw [HW11.out]
                     exact ⟨rfl, by rw [HPF.out, HFIN.out, if_neg (fun h => cn h.2)]; exact HF11.out, HC11.out⟩
                 · have c8' : ¬ (8 : Int) < (ln : Int) := by omega
                   go_wp2_with fail
                   try rw [HW11.out]
                   go_returns
                   try rw [HW11.out]
                   exact ⟨rfl, by rw [HPF.out, HFIN.out, if_neg (fun h => c8 h.1)]; exact HF11.out, HC11.out⟩
          · go_wp2_with fail
            go_returns
            try rw [HW11.out]
            refine ⟨rfl, ⟨q, v, ?_, .inl HF.out.1, .inl HF.out.2.1, fun z hz => .inl (HF.out.2.2 z hz)⟩, HCQ.out.mono fun z _ h => ?_⟩
            · rw [HPN.out, if_neg (by rw [HCB1.out]; decide), if_pos HCB2.out]; exact HT5.out
            · rcases h with h | h
              · rw [h]; exact HF.out.2.1
              · exact HF.out.2.2 z h
        · go_wp2_with fail
          have hS : w2.drew.cell? ⟨g, 1, none⟩ = some (.slice (some ⟨q, 0, none⟩) n n) ∧ w2.drew.cell? ⟨w.heap.size, 0, none⟩ = some (.int .u64 (p.1.1 : Int)) ∧ w2.drew.cell? ⟨w.heap.size, 1, none⟩ = some (.int .u64 (p.1.2 : Int)) ∧ w2.drew.cell? ⟨w.heap.size, 2, none⟩ = some (.int .i64 p.2) := ⟨y0, z0, z1, z2⟩
          refine wp_region_seq (fun w' => w'.cell? ⟨g, 1, none⟩ = some (.slice (some ⟨q, 0, none⟩) n n) ∧ w'.cell? ⟨w.heap.size, 0, none⟩ = some (.int .u64 (p.1.1 : Int)) ∧ w'.cell? ⟨w.heap.size, 1, none⟩ = some (.int .u64 (p.1.2 : Int)) ∧ w'.cell? ⟨w.heap.size, 2, none⟩ = some (.int .i64 p.2)) (by kernel_rfl) hS ?_
          repeat (
            refine seq_still (v := ?_) (by kernel_rfl) (fun _ _ _ h => h) rfl (fun W hW => ?_) hS ?_
            rotate_left
            · try dsimp only at hW
              go_simp
              try with_reducible rfl
            simp only [Act.put, List.setIfInBounds_toArray, List.set_cons_zero, List.set_cons_succ])
          refine seq_alone (by kernel_rfl) rfl (fun K hK => ?_)
          go_simp
          refine HP1'.out.mono ?_
          rintro _ w4 ⟨rfl, hT4, hC4⟩
          clear hS
          have hS : w4.cell? ⟨g, 1, none⟩ = some (.slice (some ⟨q, 0, none⟩) n n) ∧ w4.cell? ⟨w.heap.size, 0, none⟩ = some (.int .u64 (p.1.1 : Int)) ∧ w4.cell? ⟨w.heap.size, 1, none⟩ = some (.int .u64 (p.1.2 : Int)) ∧ w4.cell? ⟨w.heap.size, 2, none⟩ = some (.int .i64 p.2) :=
            ⟨(by rw [← HN.out]; exact (HTD.out.top.chg hC4 hgq).cellv rfl), (HP2.out.drew.chg hC4 hpq).cellv rfl, (HP2.out.drew.chg hC4 hpq).cellv rfl, (HP2.out.drew.chg hC4 hpq).cellv rfl⟩
          have HT4 := hid hT4
          have HC4 := hid hC4
          clear hT4 hC4 HP1' y0 z0 z1 z2
          refine hK.out _ _ hS ?_
          clear hK
          repeat (first
            | (refine seq_still (v := ?_) (by kernel_rfl) (fun _ _ _ h => h) rfl (fun W hW => ?_) hS ?_
               rotate_left
               · try dsimp only at hW
                 go_simp
                 try with_reducible rfl
               simp only [Act.put, List.setIfInBounds_toArray, List.set_cons_zero, List.set_cons_succ])
            | (refine seq_skip (by kernel_rfl) (fun _ _ _ h => h) rfl hS ?_
               simp only [Act.put, List.setIfInBounds_toArray, List.set_cons_zero, List.set_cons_succ]))
          refine seq_done (by kernel_rfl) ?_
          clear hS
          go_wp2_with fail
          go_returns
          have hC := HC2.out.drew.trans' (HC4.out.mono fun z _ e => Or.inl e)
          refine ⟨rfl, ⟨q, v, ?_, .inl HF.out.1, .inl HF.out.2.1, fun z hz => .inl (HF.out.2.2 z hz)⟩, hC.mono fun z _ h => ?_⟩
          · rw [HPN.out, if_pos HCB1.out]; exact HT4.out
          · rcases h with h | h
            · rw [h]; exact HF.out.2.1
            · exact HF.out.2.2 z h
      · have hfp := HFS.out.1 hsv
        rw [HFI.out] at hfp
        have hfpos : (0 : Int) ≤ f := by omega
        have hPS : putStep grow t p x = { t with st := intoL t.st (p, x) } := by
          unfold putStep
          rw [HX1.out, HX2.out, E1.out, E2.out, show stHas t p = true from hsv]
          rfl
        have HPS := hid hPS
        have cI := hid (ref_into w2.drew _ t.st (HRD.out _ hTd) (by have := HLEN.out; have := st_le t; omega) (p, x))
        have x2' : w2.drew.cell? ⟨g, 2, none⟩ = some (.slice A m cap) := hTd.top.cellv rfl
        have f2 := HT2.out.top.frozen 2
        clear hfp hPS hsv hTd
        go_wp2_with fail
        have z3 : w2.cell? ⟨w.heap.size, 0, none⟩ = some (.int .u64 (p.1.1 : Int)) := z0
        have z4 : w2.cell? ⟨w.heap.size, 1, none⟩ = some (.int .u64 (p.1.2 : Int)) := z1
        have z5 : w2.cell? ⟨w.heap.size, 2, none⟩ = some (.int .i64 p.2) := z2
        have y3' : w2.cell? ⟨g, 2, none⟩ = some (.slice A m cap) := x2'
        have hz5 := HB2.out.size
        clear f2
        go_region_law? (first | (go_simp; go_at_call 35; refine cI.out.mono ?_; rintro _ w6 ⟨v6, rfl, hO6, hb6⟩; obtain ⟨A6, c6, hv6⟩ := hO6.form; subst hv6; have hb6' : Below w2.heap.size w2 w6 := (Below.refl w2.heap.size w2).drew.trans hb6; have f2 := (HT2.out.below hb6').top.frozen 2; have y4 : w6.cell? ⟨g, 2, none⟩ = some (.slice A m cap) := (HT2.out.below hb6').top.cellv (i := 2) rfl))
        all_goals
          have hQ6 := HT2.out.stash (show OwnRts w2 _ w6 _ from hO6) hb6'
          have HQ6 := hid hQ6
          have HC6 := hid (((Chg.of_below HB2.out F).trans' (Chg.of_below hb6' F)).trans' ((Chg.store w6 g 2 (.slice A6 (intoL t.st (p, x)).length c6)).mono (S' := F) fun z _ e => by subst e; exact HF.out.1))
          have HNW := hid (fun z hz => (Owns.base_le hO6 z hz).1)
          clear hO6 hb6 hb6' hQ6 cI x2' z0 z1 z2 z3 z4 z5 y3'
          go_wp2_with fail
          go_returns
          refine ⟨rfl, ?_, HC6.out⟩
          rw [HPS.out]
          exact RwF.of HQ6.out ⟨.inl HF.out.1, .inl HF.out.2.1, fun z hz => .inr (by have := HNW.out z hz; exact Nat.le_trans hz5 this)⟩
    · have cP := rk_bput hTd (i := x2) (by rw [HN.out]; exact hl2) HL4'.out p x
      rw [has_can E2.out] at cP
      have CP := hid cP
      have Y0 : w2.drew.cell? ⟨g, 1, none⟩ = some (.slice (some ⟨q, 0, none⟩) n n) := by rw [← HN.out]; exact hTd.top.cellv rfl
      have hPS : putStep grow t p x = t.set x2 (putB (t.at x2) p x) := by
        unfold putStep
        rw [HX1.out, HX2.out, E1.out, E2.out]
        rfl
      have HPS := hid hPS
      clear cP hPS hTd
      go_wp2_with fail
      refine wp_region_tail 8 (by kernel_rfl) (by kernel_rfl) ?_
      simp only [List.take_succ_cons, List.take_zero, List.drop_succ_cons, List.drop_zero]
      repeat still_step
      refine wpStill_nil ?_
      go_wp2_with fail
      refine CP.out.mono ?_
      rintro _ w4 ⟨rfl, hT4, hC4⟩
      have HT4 := hid hT4
      have HC4 := hid hC4
      clear hT4 hC4 CP Y0 z0 z1 z2
      go_wp2_with fail
      go_returns
      refine ⟨rfl, ?_, (Chg.of_below HB2.out F).drew.trans' (HC4.out.mono (S' := F) fun z _ e => by subst e; exact HF.out.2.1)⟩
      rw [HPS.out]
      exact RwF.of HT4.out ⟨.inl HF.out.1, .inl HF.out.2.1, fun z hz => .inl (HF.out.2.2 z hz)⟩
  · have cP := rk_bput hTd (i := x1) (by rw [HN.out]; exact hl1) HL4'.out p x
    rw [has_can E1.out] at cP
    have CP := hid cP
    have Y0 : w2.drew.cell? ⟨g, 1, none⟩ = some (.slice (some ⟨q, 0, none⟩) n n) := by rw [← HN.out]; exact hTd.top.cellv rfl
    have hPS : putStep grow t p x = t.set x1 (putB (t.at x1) p x) := by
      unfold putStep
      rw [HX1.out, E1.out]
      rfl
    have HPS := hid hPS
    clear cP hPS hTd
    go_wp2_with fail
    refine wp_region_tail 8 (by kernel_rfl) (by kernel_rfl) ?_
    simp only [List.take_succ_cons, List.take_zero, List.drop_succ_cons, List.drop_zero]
    repeat still_step
    refine wpStill_nil ?_
    go_wp2_with fail
    refine CP.out.mono ?_
    rintro _ w4 ⟨rfl, hT4, hC4⟩
    have HT4 := hid hT4
    have HC4 := hid hC4
    clear hT4 hC4 CP Y0 z0 z1 z2
    go_wp2_with fail
    go_returns
    refine ⟨rfl, ?_, (Chg.of_below HB2.out F).drew.trans' (HC4.out.mono (S' := F) fun z _ e => by subst e; exact HF.out.2.1)⟩
    rw [HPS.out]
    exact RwF.of HT4.out ⟨.inl HF.out.1, .inl HF.out.2.1, fun z hz => .inl (HF.out.2.2 z hz)⟩

end Go.Proofs.YtpjjijhojcfmnaaGreat
