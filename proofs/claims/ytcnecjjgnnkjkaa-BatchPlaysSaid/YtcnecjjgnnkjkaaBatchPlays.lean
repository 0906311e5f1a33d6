/-
  Law 25, BatchPlays, walked. No condition but that the rows are no longer than memory.
-/
import Derived.Test.YtcnecjjgnnkjkaaBatchPlays0
import Derived.Test.YtcnecjjgnnkjkaaOrd
namespace Go.Proofs.Ytcnecjjgnnkjkaa
open Go.RowKit
set_option linter.unusedVariables false
set_option linter.unusedSimpArgs false
set_option maxRecDepth 100000

theorem limOf_le (x y z : Int) : (limOf x y z).rt ≤ 300 := by unfold limOf; simp only; omega
set_option maxHeartbeats 4000000 in
theorem batchPlays_walk (W : World) (x : Int) (wx : (Lit.int .i64 x).wf = true) (y : Int) (wy : (Lit.int .i64 y).wf = true) (z : Int) (wz : (Lit.int .i64 z).wf = true) (v : Value) (ls : List (List Cm)) (R : Rd2 cmEn Cm.ok 10 W v ls) (hz : ∀ l ∈ ls, l.length ≤ 2000000000000) :
    Calls Try.prog 7 #[.int .i64 x, .int .i64 y, .int .i64 z, v] W fun e W' => e = .returned (.bool true) ∧ Below W.heap.size W W' := by
  have cA := hid (book_alive W)
  have cF := hid (fun w h => law25_few W v ls R hz w h)
  have cN := hid (fun w => book_new w x y z)
  have cM := hid (fun w => ref_newBook w x y z)
  have HLM := hid (limOf_le x y z)
  have cn := hid law25_num
  generalize limOf x y z = m at *
  have cR := hid (fun (w' : World) (b : Nat) (F : Nat → Prop) (R : List Rt) (H : BookAt w' b F m R) => book_routes H)
  have cD := hid (fun (w' : World) (b : Nat) (F : Nat → Prop) (R : List Rt) (H : BookAt w' b F m R) (v : Value) (cs : List Cm) (h1 : Rd cmEn 10 w' v cs) (h2 : ∀ c ∈ cs, c.ok) (h3 : cs.length ≤ 50000) (h4 : ∀ z, v.ownBlock = some z → ¬ F z ∧ z < w'.heap.size) => book_do H v cs h1 h2 h3 h4)
  have cE := hid (fun (w' : World) (b : Nat) (v0 : Value) (R : List Rt) (H : RBkQ w' b m R v0) (hi : Inv m R) (v : Value) (cs : List Cm) (h1 : Rd cmEn 10 w' v cs) (h2 : ∀ c ∈ cs, c.ok) (h4 : 0 < cs.length → ∀ z, v.ownBlock = some z → z ≠ b) => ref_bookDo H hi HLM.out v cs h1 h2 h4)
  have HRD := hid (fun (w : World) (h : Below W.heap.size W w) => Rd2.chg R cmEn_len h)
  obtain ⟨vs, hvl, R1, R2⟩ := R
  have HVL := hid hvl
  have HR0 := hid fun k x (h : vs[k]? = some x) => R1.get (fun _ => rfl) (by decide) h
  have HR2 := hid R2
  obtain ⟨A, cap, rfl, hl, hc⟩ := R1.form
  unfold maxLen at hc
  obtain ⟨L, hL⟩ : ∃ L, vs.length = L := ⟨_, rfl⟩
  have HL := hid hL
  rw [hL] at hl cF HRD ⊢
  clear R1 R2 hL hvl hz wx wy wz HRD
  go_enter Try.func7, Try.ntmps7
  go_wp2_with fail
  refine cA.out.mono ?_
  rintro _ w1 ⟨rfl, hb1⟩
  have HB1 := hid hb1
  clear hb1 cA
  go_wp2_with fail
  refine (cF.out _ HB1.out).mono ?_
  rintro _ w2 ⟨bf, rfl, hbf, hb2⟩
  have HB2 := hid (held_next HB1.out hb2)
  clear hb2 cF
  cases bf with
  | false =>
    clear hbf
    go_wp2_with fail
    go_ret
    exact ⟨rfl, HB2.out⟩
  | true =>
    have HFW := hid (hbf rfl)
    clear hbf
    go_wp2_with fail
    refine (cN.out _).mono ?_
    rintro _ w3 ⟨b, rfl, hB, hb3⟩
    have HB3 := hid (held_next HB2.out hb3)
    have HBK3 := hid (hB.mono (G := fun z => w2.heap.size ≤ z ∧ z < w3.heap.size) (fun z hz h => ⟨h, hz⟩))
    clear hB hb3 cN
    go_wp2_with fail
    refine (cM.out _).mono ?_
    rintro _ w4 ⟨rb, rfl, hrk, hrb, hb4⟩
    have HST := hid (show BpSt W w4 m b rb (fun z => w2.heap.size ≤ z ∧ z < w3.heap.size) (.slice none 0 0) [] from
      ⟨HBK3.out.below hb4, hrk, fun z h => ⟨by have := HB2.out.size; omega, by have := hb4.size; omega⟩, fun h => by omega, fun z h => (by cases h), by have := HB3.out.size; omega, held_next HB3.out hb4⟩)
    clear hrk hrb hb4 cM HBK3 HB3 HB2 HB1
    go_wp2_with fail
    go_loopw [12] (fun iv wr => BpRel W m b rb L iv wr) (fun iv _ => L - (intOf iv).toNat)
    case atStart => exact ⟨0, _, _, _, Nat.zero_le _, rfl, HST.out⟩
    case round =>
      obtain ⟨i, F, vj, R, hi, rfl, hst⟩ := hrel
      have HS := hid hst
      clear hst HST
      by_cases hiL : i < L
      · obtain ⟨u, hu⟩ : ∃ u, vs[i]? = some u := ⟨_, List.getElem?_eq_getElem (by rw [HL.out]; exact hiL)⟩
        obtain ⟨l, hlx⟩ : ∃ l, ls[i]? = some l := ⟨_, List.getElem?_eq_getElem (by rw [← HVL.out, HL.out]; exact hiL)⟩
        obtain ⟨ba, oa, ca, hvv, _, _, la, sa⟩ := HR0.out i u hu
        injection hvv with h1 h2 h3
        subst h1 h3
        have HYW0 := hid (fun (w' : World) (h : Below W.heap.size W w') => show w'.cell? ⟨ba, oa + i, none⟩ = some u from by
          have := sa 0 _ rfl
          rw [Nat.mul_one, Nat.add_zero] at this
          exact (h.cell (p := ⟨ba, oa + i, none⟩) la).trans this)
        have y0 : wr.cell? ⟨ba, oa + i, none⟩ = some u := by
          have := sa 0 _ rfl
          rw [Nat.mul_one, Nat.add_zero] at this
          exact (HS.out.bel.cell (p := ⟨ba, oa + i, none⟩) la).trans this
        have hub := (HR2.out i u l hu hlx).1
        have HUB := hid hub
        have HUW := hid (hub.below cmEn_len HS.out.bel)
        have HUO := hid (HR2.out i u l hu hlx).2
        obtain ⟨A2, cap2, rfl, hcl, hcm⟩ := hub.form
        unfold maxLen at hcm
        have hll := HFW.out l (List.mem_of_getElem? hlx)
        have HLL := hid hll
        have HUF := hid (fun (h0 : 0 < l.length) z (hz : (Value.slice A2 l.length cap2).ownBlock = some z) => show z < W.heap.size from by
          obtain ⟨bb, ob, cb, hvb, _, _, lb, _⟩ := hub.get cmEn_len (by decide) (List.getElem?_eq_getElem h0)
          injection hvb with h1 _ _
          subst h1
          injection hz with hz
          subst hz
          exact lb)
        obtain ⟨n, hn⟩ : ∃ n, l.length = n := ⟨_, rfl⟩
        have HN := hid hn
        have HRW := hid (fun (w' : World) (h : Below W.heap.size W w') => HUB.out.below cmEn_len h)
        rw [hn] at y0 hll hcl HUF HYW0
        have HY0 := hid y0
        clear hu hlx sa hub hn la
        have HYL := hid (fun (w' : World) (h : Below wr.heap.size wr w') => show w'.cell? ⟨ba, oa + i, none⟩ = some (.slice A2 n cap2) from (h.cell (World.block_lt_of_cell? wr _ y0)).trans y0)
        have HUL := hid (fun (w' : World) (h : Below wr.heap.size wr w') => HUW.out.below cmEn_len h)
        have HSL := hid (fun (w' : World) (h : Below wr.heap.size wr w') => HS.out.later h)
        clear HUW HUB y0 HY0
        go_wp2_with fail
        go_loopw [13] (fun kv wi => BpIn wr n kv wi) (fun kv _ => n - (intOf kv).toNat)
        case atStart => exact ⟨0, Nat.zero_le _, rfl, Below.refl _ _⟩
        case round =>
          obtain ⟨j, hj, rfl, hbi⟩ := hrel
          have HBI := hid hbi
          have y1 := HYL.out _ hbi
          have HY1 := hid y1
          by_cases hjn : j < n
          · obtain ⟨c, hc⟩ : ∃ c, l[j]? = some c := ⟨_, List.getElem?_eq_getElem (by rw [HN.out]; exact hjn)⟩
            have HCO := hid (HUO.out c (List.mem_of_getElem? hc))
            obtain ⟨b2, o2, c2, hv2, _, _, la2, sa2⟩ := (HUL.out _ hbi).get cmEn_len (by decide) hc
            rw [HN.out] at hv2
            injection hv2 with h1 h2 h3
            subst h1 h3
            have cK := hid (fun (w' : World) (h : Below wr.heap.size wr w') => book_check (((HSL.out _ hbi).later h).bk) c HCO.out)
            have cL := hid (fun (w' : World) (h : Below wr.heap.size wr w') => ref_check (⟨_, ((HSL.out _ hbi).later h).rk⟩ : RBkAt w' rb m R) HS.out.bk.inv HLM.out c HCO.out)
            obtain ⟨er, her⟩ : ∃ er, cmErr m R c = er := ⟨_, rfl⟩
            rw [her] at cK cL
            obtain ⟨bA, bm, bcap, hbv⟩ := HCO.out.b
            obtain ⟨kk, hop, nn, ⟨⟨p1, p2⟩, p3⟩, ⟨a1, a2⟩, sd, bv⟩ := c
            simp only at hbv
            subst hbv
            have x0 : wr.cell? ⟨b2, o2 + j * 10, none⟩ = some (.int .i64 kk) := sa2 0 _ rfl
            have x1 : wr.cell? ⟨b2, o2 + j * 10 + 1, none⟩ = some (.int .i64 hop) := sa2 1 _ rfl
            have x2 : wr.cell? ⟨b2, o2 + j * 10 + 2, none⟩ = some (.int .i64 nn) := sa2 2 _ rfl
            have x3 : wr.cell? ⟨b2, o2 + j * 10 + 3, none⟩ = some (.int .u64 (p1 : Int)) := sa2 3 _ rfl
            have x4 : wr.cell? ⟨b2, o2 + j * 10 + 4, none⟩ = some (.int .u64 (p2 : Int)) := sa2 4 _ rfl
            have x5 : wr.cell? ⟨b2, o2 + j * 10 + 5, none⟩ = some (.int .i64 p3) := sa2 5 _ rfl
            have x6 : wr.cell? ⟨b2, o2 + j * 10 + 6, none⟩ = some (.int .u64 (a1 : Int)) := sa2 6 _ rfl
            have x7 : wr.cell? ⟨b2, o2 + j * 10 + 7, none⟩ = some (.int .u64 (a2 : Int)) := sa2 7 _ rfl
            have x8 : wr.cell? ⟨b2, o2 + j * 10 + 8, none⟩ = some (.int .u64 (sd : Int)) := sa2 8 _ rfl
            have x9 : wr.cell? ⟨b2, o2 + j * 10 + 9, none⟩ = some (.slice bA bm bcap) := sa2 9 _ rfl
            have HX := hid (show _ ∧ _ ∧ _ ∧ _ ∧ _ ∧ _ ∧ _ ∧ _ ∧ _ ∧ _ from ⟨x0, x1, x2, x3, x4, x5, x6, x7, x8, x9⟩)
            clear hc her sa2 la2 hbi
            go_wp2_with fail
            refine wp_region_later (fun w' => w'.cell? ⟨ba, oa + i, none⟩ = some (.slice (some ⟨b2, o2, none⟩) n cap2) ∧ w'.cell? ⟨b2, o2 + j * 10, none⟩ = some (.int .i64 kk) ∧ w'.cell? ⟨b2, o2 + j * 10 + 1, none⟩ = some (.int .i64 hop) ∧ w'.cell? ⟨b2, o2 + j * 10 + 2, none⟩ = some (.int .i64 nn) ∧ w'.cell? ⟨b2, o2 + j * 10 + 3, none⟩ = some (.int .u64 (p1 : Int)) ∧ w'.cell? ⟨b2, o2 + j * 10 + 4, none⟩ = some (.int .u64 (p2 : Int)) ∧ w'.cell? ⟨b2, o2 + j * 10 + 5, none⟩ = some (.int .i64 p3) ∧ w'.cell? ⟨b2, o2 + j * 10 + 6, none⟩ = some (.int .u64 (a1 : Int)) ∧ w'.cell? ⟨b2, o2 + j * 10 + 7, none⟩ = some (.int .u64 (a2 : Int)) ∧ w'.cell? ⟨b2, o2 + j * 10 + 8, none⟩ = some (.int .u64 (sd : Int)) ∧ w'.cell? ⟨b2, o2 + j * 10 + 9, none⟩ = some (.slice bA bm bcap))
              (fun z => ⟨z.cell HY1.out, z.cell HX.out.1, z.cell HX.out.2.1, z.cell HX.out.2.2.1, z.cell HX.out.2.2.2.1, z.cell HX.out.2.2.2.2.1, z.cell HX.out.2.2.2.2.2.1, z.cell HX.out.2.2.2.2.2.2.1, z.cell HX.out.2.2.2.2.2.2.2.1, z.cell HX.out.2.2.2.2.2.2.2.2.1, z.cell HX.out.2.2.2.2.2.2.2.2.2⟩) (by kernel_rfl) (by kernel_rfl) (fun HSS => ?_)
            clear x0 x1 x2 x3 x4 x5 x6 x7 x8 x9 y1
            repeat (go_big_quiet_step (first | (with_reducible exact Later.calls _ (cK.out _ (Later.below _))) | (with_reducible exact Later.calls _ (cL.out _ (Later.below _))) | (with_reducible exact Later.calls_same _ (cn.out _ _))))
            refine wpQuiet_nil ?_
            rintro w6 ⟨⟨_, hb⟩, rfl⟩
            have HB6 := hid (held_next HBI.out hb)
            clear hb HSS cK cL
            go_wp2_with fail
            go_roundw
            case rel => exact ⟨j + 1, by omega, by go_num, HB6.out⟩
            case measure => simp [intOf]; omega
          · have hst := HSL.out _ hbi
            have HT := hid hst
            have HRl := hid (HUL.out _ hbi)
            have HW1 := hid y1
            clear hst hbi
            go_wp2_with (at_builtin; refine wpList_append_rdl rfl (.const (.slice none 0 0)) _ 45 rfl 53 _ 10 96 Try.underlying45 cm_rowL rfl (by decide) wr.heap.size _ 0 [] rfl (Owns.nil _ _ _ _) _ rfl l (HN.out ▸ HRl.out) cmEn_len (fun a ha => cells_cm a (HUO.out a ha)) ?c1 ?c2 ?c3 ?_)
            case c1 => have := HLL.out; unfold maxLen; omega
            case c2 => have := HLL.out; omega
            case c3 => omega
            intro v5 w5 hO5 hC5
            have hb5 : Below wr.heap.size wr w5 := hC5.below (Nat.le_refl _) (fun z hz h => by cases h)
            have HT5 := hid (HT.out.later hb5)
            have HV5 := hid (fun q hq => show ¬ F q ∧ q < w5.heap.size from ⟨fun h => by have h1 := (HT.out.fl q h).2; have h2 := (Owns.base_le hO5 q hq).1; omega, (Owns.base_le hO5 q hq).2⟩)
            have R5 := Rd.of_owns hO5 cmEn_len
            have cD5 := hid (cD.out w5 b F R HT5.out.bk v5 l R5 HUO.out (by have := HLL.out; omega) HV5.out)
            obtain ⟨A5, cap5, rfl, _⟩ := hO5.form
            rw [HN.out] at cD5 ⊢
            clear hO5 hC5 hb5 R5 HW1 y1
            go_wp2_with fail
            refine cD5.out.mono ?_
            rintro _ w6 ⟨rfl, ⟨F6, hF6, hK6⟩, hC6⟩
            have hW6 : Below W.heap.size W w6 := HT5.out.bel.trans (hC6.below HT5.out.bel.size (fun q hq k => by have := (HT5.out.fl q k).1; omega))
            have HK6 := hid hK6
            have HF6 := hid hF6
            have HC6 := hid hC6
            have hrk6 := HT5.out.rk.chg hC6 HT5.out.nb HT5.out.nv
            have y6 := HYW0.out _ hW6
            have cE6 := hid (cE.out w6 rb vj R hrk6 HT5.out.bk.inv (.slice A2 n cap2) l (HN.out ▸ HRW.out _ hW6) HUO.out (fun h0 q hq e => by have h1 := HUF.out (by rw [HN.out] at h0; exact h0) q hq; have h2 := HT5.out.lo; omega))
            clear hF6 hK6 hC6 hrk6 hW6 cD5
            obtain ⟨dd, hdd⟩ : ∃ d : Int × Int × List Rt, doB m R l = d := ⟨_, rfl⟩
            rw [hdd] at HK6 cE6 ⊢
            obtain ⟨d1, d2, R'⟩ := dd
            clear hdd
            simp only at HK6 cE6
            go_wp2_with fail
            refine cE6.out.mono ?_
            rintro _ w7 ⟨rfl, hR7, hC7⟩
            obtain ⟨F7, v7, hS7⟩ := HT5.out.step HF6.out HK6.out HC6.out hR7 hC7
            have HS7 := hid hS7
            have HR7 := hid hS7.rk.rd
            obtain ⟨A7, cap7, rfl, _⟩ := hS7.rk.rd.form
            have HC37 := hid (hS7.rk.top.cellv (i := 3) rfl)
            generalize R'.length = n7 at *
            clear hR7 hC7 hS7 cE6 y6
            have z3 := HC37.out
            go_wp2_with fail
            have hS : w7.drew.cell? ⟨rb, 3, none⟩ = some (.slice A7 n7 cap7) := HC37.out
            refine wp_region_ord (fun w' => w'.cell? ⟨rb, 3, none⟩ = some (.slice A7 n7 cap7)) (by kernel_rfl) hS ?_
            refine ord_still 0 rfl (v := ?_) (by kernel_rfl) (fun _ _ _ h => h) rfl (fun W hW => ?_) hS ?_
            rotate_left
            · try dsimp only at hW
              go_simp
              try with_reducible rfl
            simp only [Act.put, List.setIfInBounds_toArray, List.set_cons_zero, List.set_cons_succ]
            refine ord_still 1 rfl (v := ?_) (by kernel_rfl) (fun _ _ _ h => h) rfl (fun W hW => ?_) hS ?_
            rotate_left
            · try dsimp only at hW
              go_simp
              try with_reducible rfl
            simp only [Act.put, List.setIfInBounds_toArray, List.set_cons_zero, List.set_cons_succ]
            refine ord_still 2 rfl (v := ?_) (by kernel_rfl) (fun _ _ _ h => h) rfl (fun W hW => ?_) hS ?_
            rotate_left
            · try dsimp only at hW
              go_simp
              try with_reducible rfl
            simp only [Act.put, List.setIfInBounds_toArray, List.set_cons_zero, List.set_cons_succ]
            refine ord_still 3 rfl (v := ?_) (by kernel_rfl) (fun _ _ _ h => h) rfl (fun W hW => ?_) hS ?_
            rotate_left
            · try dsimp only at hW
              go_simp
              try with_reducible rfl
            simp only [Act.put, List.setIfInBounds_toArray, List.set_cons_zero, List.set_cons_succ]
            refine ord_still 4 rfl (v := ?_) (by kernel_rfl) (fun _ _ _ h => h) rfl (fun W hW => ?_) hS ?_
            rotate_left
            · try dsimp only at hW
              go_simp
              try with_reducible rfl
            simp only [Act.put, List.setIfInBounds_toArray, List.set_cons_zero, List.set_cons_succ]
            refine ord_still 6 rfl (v := ?_) (by kernel_rfl) (fun _ _ _ h => h) rfl (fun W hW => ?_) hS ?_
            rotate_left
            · try dsimp only at hW
              go_simp
              try with_reducible rfl
            simp only [Act.put, List.setIfInBounds_toArray, List.set_cons_zero, List.set_cons_succ]
            refine ord_alone 5 rfl (by kernel_rfl) rfl (fun K hK => ?_)
            go_simp
            refine (cn.out _ _).mono ?_
            rintro _ w8 ⟨rfl, rfl⟩
            clear hS
            have hS : w7.drew.cell? ⟨rb, 3, none⟩ = some (.slice A7 n7 cap7) := HC37.out
            refine hK.out _ _ hS ?_
            clear hK
            refine ord_still 7 rfl (v := ?_) (by kernel_rfl) (fun _ _ _ h => h) rfl (fun W hW => ?_) hS ?_
            rotate_left
            · try dsimp only at hW
              go_simp
              try with_reducible rfl
            simp only [Act.put, List.setIfInBounds_toArray, List.set_cons_zero, List.set_cons_succ]
            refine ord_still 8 rfl (v := ?_) (by kernel_rfl) (fun _ _ _ h => h) rfl (fun W hW => ?_) hS ?_
            rotate_left
            · try dsimp only at hW
              go_simp
              try with_reducible rfl
            simp only [Act.put, List.setIfInBounds_toArray, List.set_cons_zero, List.set_cons_succ]
            refine ord_still 9 rfl (v := ?_) (by kernel_rfl) (fun _ _ _ h => h) rfl (fun W hW => ?_) hS ?_
            rotate_left
            · try dsimp only at hW
              go_simp
              try with_reducible rfl
            simp only [Act.put, List.setIfInBounds_toArray, List.set_cons_zero, List.set_cons_succ]
            refine ord_still 10 rfl (v := ?_) (by kernel_rfl) (fun _ _ _ h => h) rfl (fun W hW => ?_) hS ?_
            rotate_left
            · try dsimp only at hW
              go_simp
              try with_reducible rfl
            simp only [Act.put, List.setIfInBounds_toArray, List.set_cons_zero, List.set_cons_succ]
            refine ord_still 12 rfl (v := ?_) (by kernel_rfl) (fun _ _ _ h => h) rfl (fun W hW => ?_) hS ?_
            rotate_left
            · try dsimp only at hW
              go_simp
              try with_reducible rfl
            simp only [Act.put, List.setIfInBounds_toArray, List.set_cons_zero, List.set_cons_succ]
            refine ord_still 13 rfl (v := ?_) (by kernel_rfl) (fun _ _ _ h => h) rfl (fun W hW => ?_) hS ?_
            rotate_left
            · try dsimp only at hW
              go_simp
              try with_reducible rfl
            simp only [Act.put, List.setIfInBounds_toArray, List.set_cons_zero, List.set_cons_succ]
            refine ord_still 14 rfl (v := ?_) (by kernel_rfl) (fun _ _ _ h => h) rfl (fun W hW => ?_) hS ?_
            rotate_left
            · try dsimp only at hW
              go_simp
              try with_reducible rfl
            simp only [Act.put, List.setIfInBounds_toArray, List.set_cons_zero, List.set_cons_succ]
            refine ord_still 15 rfl (v := ?_) (by kernel_rfl) (fun _ _ _ h => h) rfl (fun W hW => ?_) hS ?_
            rotate_left
            · try dsimp only at hW
              go_simp
              try with_reducible rfl
            simp only [Act.put, List.setIfInBounds_toArray, List.set_cons_zero, List.set_cons_succ]
            refine ord_alone 11 rfl (by kernel_rfl) rfl (fun K hK => ?_)
            go_simp
            refine (cR.out _ _ _ _ (HS7.out.bk.below (Below.refl w7.heap.size w7).drew)).mono ?_
            rintro _ w8 ⟨v8, rfl, hO8, hb8⟩
            have hb8' : Below w7.heap.size w7 w8 := (Below.refl w7.heap.size w7).drew.trans hb8
            have HS8 := hid (HS7.out.later hb8')
            have HC38 := hid ((hb8'.cell (World.block_lt_of_cell? w7 _ HC37.out)).trans HC37.out)
            have cS8 := hid (ref_sameRts w8 v8 _ R' R' hO8.rd (HR7.out.below rtEn_length hb8') true (by simp))
            obtain ⟨A8, cap8, rfl, _⟩ := hO8.form
            generalize R'.length = n8 at *
            clear hO8 hb8 hb8'
            clear hS
            have hS : w8.cell? ⟨rb, 3, none⟩ = some (.slice A7 n7 cap7) := HC38.out
            refine hK.out _ _ hS ?_
            clear hK
            refine ord_alone 16 rfl (by kernel_rfl) rfl (fun K hK => ?_)
            go_simp
            refine (cS8.out).mono ?_
            rintro _ w9 ⟨rfl, hb9⟩
            have HS9 := hid (HS8.out.later hb9)
            have HC39 := hid ((hb9.cell (World.block_lt_of_cell? w8 _ HC38.out)).trans HC38.out)
            clear hb9
            clear hS
            have hS : w9.cell? ⟨rb, 3, none⟩ = some (.slice A7 n7 cap7) := HC39.out
            refine hK.out _ _ hS ?_
            clear hK
            refine ord_still 17 rfl (v := ?_) (by kernel_rfl) (fun _ _ _ h => h) rfl (fun W hW => ?_) hS ?_
            rotate_left
            · try dsimp only at hW
              go_simp
              try with_reducible rfl
            simp only [Act.put, List.setIfInBounds_toArray, List.set_cons_zero, List.set_cons_succ]
            refine ord_still 18 rfl (v := ?_) (by kernel_rfl) (fun _ _ _ h => h) rfl (fun W hW => ?_) hS ?_
            rotate_left
            · try dsimp only at hW
              go_simp
              try with_reducible rfl
            simp only [Act.put, List.setIfInBounds_toArray, List.set_cons_zero, List.set_cons_succ]
            refine ord_done (by kernel_rfl) ?_
            clear hS
            go_wp2_with fail
            go_roundw
            case rel => exact ⟨i + 1, F7, _, R', by omega, by go_num, HS9.out⟩
            case measure => simp [intOf]; omega
      · go_wp2_with fail
        go_ret
        exact ⟨rfl, HS.out.bel⟩
end Go.Proofs.Ytcnecjjgnnkjkaa
