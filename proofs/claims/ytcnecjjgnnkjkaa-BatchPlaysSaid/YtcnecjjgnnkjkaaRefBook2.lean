/-
  The document's book: a new one, a row of commands, all or none. No condition but that words are words.
-/
import Derived.Test.YtcnecjjgnnkjkaaRefBook
import Derived.Test.YtcnecjjgnnkjkaaBatch5
namespace Go.Proofs.Ytcnecjjgnnkjkaa
open Go.RowKit
set_option linter.unusedVariables false
set_option linter.unusedSimpArgs false
set_option maxRecDepth 100000
attribute [local go_sem high] eq_ad eq_pf eq_rt

theorem ref_newBook (w : World) (width routes most : Int) : Calls Try.prog 20 #[.int .i64 width, .int .i64 routes, .int .i64 most] w fun e w' =>
    ∃ b, e = .returned (.pointer (some ⟨b, 0, none⟩)) ∧ RBkQ w' b (limOf width routes most) [] (.slice none 0 0) ∧ w.heap.size ≤ b ∧ Below w.heap.size w w' := by
  have c1 := hid (fun w => ref_cap width 1 128 w)
  have c2 := hid (fun w => ref_cap routes 0 300 w)
  have c3 := hid (fun w => ref_cap most 0 60 w)
  have E : limOf width routes most = ⟨(if width < 1 then 1 else if 128 < width then 128 else width).toNat, (if routes < 0 then 0 else if 300 < routes then 300 else routes).toNat, (if most < 0 then 0 else if 60 < most then 60 else most).toNat⟩ := by
    unfold limOf capH
    congr 1
    · split
      · omega
      · split <;> omega
    · split
      · omega
      · split <;> omega
    · split
      · omega
      · split <;> omega
  have h1 : ∃ n : Nat, (if width < 1 then 1 else if 128 < width then 128 else width) = (n : Int) := ⟨(if width < 1 then 1 else if 128 < width then 128 else width).toNat, by split <;> (try split) <;> omega⟩
  have h2 : ∃ n : Nat, (if routes < 0 then 0 else if 300 < routes then 300 else routes) = (n : Int) := ⟨(if routes < 0 then 0 else if 300 < routes then 300 else routes).toNat, by split <;> (try split) <;> omega⟩
  have h3 : ∃ n : Nat, (if most < 0 then 0 else if 60 < most then 60 else most) = (n : Int) := ⟨(if most < 0 then 0 else if 60 < most then 60 else most).toNat, by split <;> (try split) <;> omega⟩
  obtain ⟨n1, h1⟩ := h1
  obtain ⟨n2, h2⟩ := h2
  obtain ⟨n3, h3⟩ := h3
  rw [h1, h2, h3, Int.toNat_natCast, Int.toNat_natCast, Int.toNat_natCast] at E
  rw [E]
  have c1' := hid (fun w => h1 ▸ c1.out w)
  have c2' := hid (fun w => h2 ▸ c2.out w)
  have c3' := hid (fun w => h3 ▸ c3.out w)
  clear c1 c2 c3 h1 h2 h3 E
  go_enter Try.func20, Try.ntmps20
  go_wp2_with fail
  refine (c1'.out _).mono ?_
  rintro _ w1 ⟨rfl, rfl⟩
  go_wp2_with fail
  refine (c2'.out _).mono ?_
  rintro _ w1 ⟨rfl, rfl⟩
  go_wp2_with fail
  refine (c3'.out _).mono ?_
  rintro _ w1 ⟨rfl, rfl⟩
  clear c1' c2' c3'
  go_wp2_with fail
  go_ret
  exact ⟨_, rfl, ⟨Blk.new w [.int .i64 (n1 : Int), .int .i64 (n2 : Int), .int .i64 (n3 : Int), .slice none 0 0] _, Rd.nil _, fun z hz => by cases hz⟩, Nat.le_refl _, (Below.refl _ _).alloc (Nat.le_refl _) _⟩

/-- The routes lie where they lay, or in a new block. -/
def RBkF (w : World) (b : Nat) (m : Lim) (R : List Rt) (v0 : Value) (base : Nat) : Prop := ∃ v, RBkQ w b m R v ∧ (v = v0 ∨ ∀ z, v.ownBlock = some z → base ≤ z)
def RdPost (w : World) (b : Nat) (v0 : Value) (m : Lim) (r : Int × Int × List Rt) (e : Ending) (w' : World) : Prop :=
  e = .returned (.tuple #[.int .i64 r.1, .int .i64 r.2.1]) ∧ RBkF w' b m r.2.2 v0 w.heap.size ∧ Chg (· = b) w w'
def RdRel (w : World) (b : Nat) (v0 : Value) (m : Lim) (R : List Rt) (cs : List Cm) (iv : Value) (wr : World) : Prop :=
  ∃ (j : Nat) (Rj : List Rt), j ≤ cs.length ∧ iv = .int .i64 (j : Int) ∧ runB m R (cs.take j) = (none, Rj) ∧ RBkF wr b m Rj v0 w.heap.size ∧ Inv m Rj ∧ Chg (· = b) w wr
theorem RBkQ.put {w w1 : World} {b : Nat} {m : Lim} {R R' : List Rt} {v v' : Value} (h : RBkQ w b m R v) (hb : Below w.heap.size w w1) (hO : OwnRts w R' w1 v') : RBkQ (w1.setCell ⟨b, 3, none⟩ v') b m R' v' := by
  have ht := (h.top.below' hb).set 3 v'
  have hlt := h.top.lt
  refine ⟨ht, ?_, fun z hz => ?_⟩
  · exact hO.rd.chg rtEn_length (Chg.store w1 b 3 v') (fun z hz k => by have := (Owns.base_le hO z hz).1; omega)
  · have h1 := Owns.base_le hO z hz
    exact ⟨by have := (Chg.store w1 b 3 v').size; omega, by omega⟩

set_option maxHeartbeats 4000000 in
theorem ref_bookDo {w : World} {b : Nat} {v0 : Value} {m : Lim} {R : List Rt} (H : RBkQ w b m R v0) (hi : Inv m R) (hlim : m.rt ≤ 300) (v : Value) (cs : List Cm) (hR : Rd cmEn 10 w v cs) (hok : ∀ c ∈ cs, c.ok)
    (hv : 0 < cs.length → ∀ z, v.ownBlock = some z → z ≠ b) :
    Calls Try.prog 25 #[.pointer (some ⟨b, 0, none⟩), v] w (RdPost w b v0 m (doB m R cs)) := by
  have HR := hid hR
  have HOK := hid (fun (j : Nat) (c : Cm) (h : cs[j]? = some c) => hok c (List.mem_of_getElem? h))
  have HV := hid hv
  have HI := hid hi
  have HLM := hid hlim
  obtain ⟨A, cap, rfl, hnc, hcm⟩ := hR.form
  unfold maxLen at hcm
  obtain ⟨N, hN⟩ : ∃ N, cs.length = N := ⟨_, rfl⟩
  have HN := hid hN
  have HQ := H
  clear H
  have H0 := hid HQ
  have z3 := HQ.top.cellv (i := 3) rfl
  obtain ⟨A0, cap0, rfl, _⟩ := HQ.rd.form
  generalize hR0 : R.length = n0 at *
  rw [hN] at hnc HV HR ⊢
  have HALL := hid (show cs.take N = cs by rw [← hN, List.take_length])
  obtain ⟨d, hd⟩ : ∃ d, doB m R cs = d := ⟨_, rfl⟩
  have HD := hid hd
  rw [hd]
  clear hR hok hN hv HQ hi hlim hd hR0
  go_enter Try.func25, Try.ntmps25
  go_wp2_with fail
  go_loopw [7] (fun iv wr => RdRel w b (.slice A0 n0 cap0) m R cs iv wr) (fun iv _ => N - (intOf iv).toNat)
  case atStart => exact ⟨0, R, Nat.zero_le _, rfl, rfl, ⟨_, H0.out, .inl rfl⟩, HI.out, Chg.refl _ _⟩
  case round =>
    obtain ⟨j, Rj, hj, rfl, hrun, ⟨vj, hQj, hfr⟩, hij, hC⟩ := hrel
    rw [HN.out] at hj
    have HRUN := hid hrun
    have HQJ := hid hQj
    have HFR := hid hfr
    clear hfr
    have HIJ := hid hij
    have HC := hid hC
    clear hrun hij z3
    by_cases hjn : j < N
    · obtain ⟨c, hc⟩ : ∃ c, cs[j]? = some c := ⟨_, List.getElem?_eq_getElem (by rw [HN.out]; exact hjn)⟩
      have HCJ := hid hc
      have hco := HOK.out j c hc
      have HCO := hid hco
      have cK := hid (fun (w' : World) (h : Below wr.heap.size wr w') => ref_check (⟨_, HQJ.out.below h⟩ : RBkAt w' b m Rj) HIJ.out HLM.out c HCO.out)
      obtain ⟨ba, oa, ca, hvv, _, _, la, sa⟩ := (HR.out.chg cmEn_len hC (fun z hz h => HV.out (by omega) z hz h)).get cmEn_len (by decide) hc
      rw [HN.out] at hvv
      injection hvv with hA hxx hcc
      subst hA hcc
      obtain ⟨k, hop, n, ⟨⟨p1, p2⟩, p3⟩, ⟨a1, a2⟩, s, bv⟩ := c
      obtain ⟨bA, bm, bcap, hbv⟩ := hco.b
      simp only at hbv
      subst hbv
      have x0 : wr.cell? ⟨ba, oa + j * 10, none⟩ = some (.int .i64 k) := sa 0 _ rfl
      have x1 : wr.cell? ⟨ba, oa + j * 10 + 1, none⟩ = some (.int .i64 hop) := sa 1 _ rfl
      have x2 : wr.cell? ⟨ba, oa + j * 10 + 2, none⟩ = some (.int .i64 n) := sa 2 _ rfl
      have x3 : wr.cell? ⟨ba, oa + j * 10 + 3, none⟩ = some (.int .u64 (p1 : Int)) := sa 3 _ rfl
      have x4 : wr.cell? ⟨ba, oa + j * 10 + 4, none⟩ = some (.int .u64 (p2 : Int)) := sa 4 _ rfl
      have x5 : wr.cell? ⟨ba, oa + j * 10 + 5, none⟩ = some (.int .i64 p3) := sa 5 _ rfl
      have x6 : wr.cell? ⟨ba, oa + j * 10 + 6, none⟩ = some (.int .u64 (a1 : Int)) := sa 6 _ rfl
      have x7 : wr.cell? ⟨ba, oa + j * 10 + 7, none⟩ = some (.int .u64 (a2 : Int)) := sa 7 _ rfl
      have x8 : wr.cell? ⟨ba, oa + j * 10 + 8, none⟩ = some (.int .u64 (s : Int)) := sa 8 _ rfl
      have x9 : wr.cell? ⟨ba, oa + j * 10 + 9, none⟩ = some (.slice bA bm bcap) := sa 9 _ rfl
      have HX := hid (show _ ∧ _ ∧ _ ∧ _ from ⟨x1, x3, x4, x5⟩)
      obtain ⟨er, her⟩ : ∃ er, cmErr m Rj ⟨k, hop, n, ((p1, p2), p3), (a1, a2), s, .slice bA bm bcap⟩ = er := ⟨_, rfl⟩
      have HER := hid her
      rw [her] at cK
      have HLA := hid la
      have HBA := hid (show ba ≠ b from HV.out (by omega) ba rfl)
      clear hc sa her hQj hC hco
      go_wp2_with fail
      refine (cK.out _ (Below.refl _ _)).mono ?_
      rintro _ w1 ⟨rfl, hb1⟩
      have HQ1 := hid (HQJ.out.below hb1)
      have HC1 := hid (HC.out.trans' (Chg.of_below hb1 (· = b)))
      have HB1 := hid hb1
      have hs1 := hb1.size
      clear hb1 cK x1 x2 x3 x4 x5 x6 x7 x8 x9
      by_cases h0 : er = 0
      · subst h0
        have e0 : ((0 : Int) != 0) = false := rfl
        have hgood := check_good HER.out
        have HG := hid hgood
        have HRN := hid (runB_next HRUN.out HCJ.out HER.out)
        have HIN := hid (good_inv HIJ.out HCO.out.p HCO.out.hop hgood)
        have y1 : w1.cell? ⟨ba, oa + j * 10 + 1, none⟩ = some (.int .i64 hop) := (HB1.out.cell (p := ⟨ba, oa + j * 10 + 1, none⟩) HLA.out).trans HX.out.1
        have y3 : w1.cell? ⟨ba, oa + j * 10 + 3, none⟩ = some (.int .u64 (p1 : Int)) := (HB1.out.cell (p := ⟨ba, oa + j * 10 + 3, none⟩) HLA.out).trans HX.out.2.1
        have y4 : w1.cell? ⟨ba, oa + j * 10 + 4, none⟩ = some (.int .u64 (p2 : Int)) := (HB1.out.cell (p := ⟨ba, oa + j * 10 + 4, none⟩) HLA.out).trans HX.out.2.2.1
        have y5 : w1.cell? ⟨ba, oa + j * 10 + 5, none⟩ = some (.int .i64 p3) := (HB1.out.cell (p := ⟨ba, oa + j * 10 + 5, none⟩) HLA.out).trans HX.out.2.2.2
        have z3 := HQ1.out.top.cellv (i := 3) rfl
        have zf := HQ1.out.top.frozen 3
        have hlj : Rj.length ≤ 100000 := by have := HIJ.out.len; have := HLM.out; omega
        have HLJ := hid hlj
        have HHP := hid (show k = 1 → 0 ≤ hop from fun h => (hgood.add h).1)
        have HKK := hid (show k = 1 ∨ k = 2 from by
          have hh := HER.out
          unfold cmErr checkE at hh
          simp only at hh
          split at hh
          · cases hh
          · omega)
        have y0 : w1.cell? ⟨ba, oa + j * 10, none⟩ = some (.int .i64 k) := (HB1.out.cell (p := ⟨ba, oa + j * 10, none⟩) HLA.out).trans x0
        obtain ⟨Aj, capj, rfl, _⟩ := HQ1.out.rd.form
        have HRL0 := hid (show ∀ x, Rj.length = x → x ≤ 100000 → Rj.length ≤ 100000 from fun x h1 h2 => h1 ▸ h2)
        generalize hRl : Rj.length = nj at *
        have HRL := hid hRl
        clear hRl x0
        rcases HKK.out with rfl | rfl
        · skip
          have cI := hid (fun (w' : World) (h : Below w1.heap.size w1 w') => ref_into w' _ Rj (HQ1.out.rd.below rtEn_length h) (by have h1 := HLJ.out; have h2 := HRL.out; omega) (((p1, p2), p3), hop))
          have hset : cmSet Rj ⟨1, hop, n, ((p1, p2), p3), (a1, a2), s, .slice bA bm bcap⟩ = intoL Rj (((p1, p2), p3), hop) := by
            show setB Rj ((p1, p2), p3) (if (1 : Int) = 1 then hop else -1) = _
            rw [if_pos rfl]; unfold setB; rw [if_pos (HHP.out rfl)]
          have HIS := hid (hset ▸ (show Inv m (cmSet Rj _) from HIN.out))
          have HRS := hid (hset ▸ HRN.out)
          clear hset
          go_wp2_with fail
          have hS : w1.drew.cell? ⟨ba, oa + j * 10 + 1, none⟩ = some (.int .i64 hop) ∧ w1.drew.cell? ⟨ba, oa + j * 10 + 3, none⟩ = some (.int .u64 (p1 : Int)) ∧ w1.drew.cell? ⟨ba, oa + j * 10 + 4, none⟩ = some (.int .u64 (p2 : Int)) ∧ w1.drew.cell? ⟨ba, oa + j * 10 + 5, none⟩ = some (.int .i64 p3) := ⟨y1, y3, y4, y5⟩
          refine wp_region_ord (fun w' => w'.cell? ⟨ba, oa + j * 10 + 1, none⟩ = some (.int .i64 hop) ∧ w'.cell? ⟨ba, oa + j * 10 + 3, none⟩ = some (.int .u64 (p1 : Int)) ∧ w'.cell? ⟨ba, oa + j * 10 + 4, none⟩ = some (.int .u64 (p2 : Int)) ∧ w'.cell? ⟨ba, oa + j * 10 + 5, none⟩ = some (.int .i64 p3)) (by kernel_rfl) hS ?_
          refine ord_still 0 rfl (v := ?_) (by kernel_rfl) (fun _ _ _ h => h) rfl (fun W hW => ?_) hS ?_
          rotate_left
          · try dsimp only at hW
            go_simp
            try with_reducible rfl
          simp only [Act.put, List.setIfInBounds_toArray, List.set_cons_zero, List.set_cons_succ]
          refine ord_still 1 rfl (v := ?_) (by kernel_rfl) (fun _ _ _ h => h) rfl (fun W hW => ?_) hS ?_
          rotate_left
          · try dsimp only at hW
            go_simp
            try with_reducible rfl
          simp only [Act.put, List.setIfInBounds_toArray, List.set_cons_zero, List.set_cons_succ]
          refine ord_still 2 rfl (v := ?_) (by kernel_rfl) (fun _ _ _ h => h) rfl (fun W hW => ?_) hS ?_
          rotate_left
          · try dsimp only at hW
            go_simp
            try with_reducible rfl
          simp only [Act.put, List.setIfInBounds_toArray, List.set_cons_zero, List.set_cons_succ]
          refine ord_still 3 rfl (v := ?_) (by kernel_rfl) (fun _ _ _ h => h) rfl (fun W hW => ?_) hS ?_
          rotate_left
          · try dsimp only at hW
            go_simp
            try with_reducible rfl
          simp only [Act.put, List.setIfInBounds_toArray, List.set_cons_zero, List.set_cons_succ]
          refine ord_still 5 rfl (v := ?_) (by kernel_rfl) (fun _ _ _ h => h) rfl (fun W hW => ?_) hS ?_
          rotate_left
          · try dsimp only at hW
            go_simp
            try with_reducible rfl
          simp only [Act.put, List.setIfInBounds_toArray, List.set_cons_zero, List.set_cons_succ]
          refine ord_still 6 rfl (v := ?_) (by kernel_rfl) (fun _ _ _ h => h) rfl (fun W hW => ?_) hS ?_
          rotate_left
          · try dsimp only at hW
            go_simp
            try with_reducible rfl
          simp only [Act.put, List.setIfInBounds_toArray, List.set_cons_zero, List.set_cons_succ]
          refine ord_still 7 rfl (v := ?_) (by kernel_rfl) (fun _ _ _ h => h) rfl (fun W hW => ?_) hS ?_
          rotate_left
          · try dsimp only at hW
            go_simp
            try with_reducible rfl
          simp only [Act.put, List.setIfInBounds_toArray, List.set_cons_zero, List.set_cons_succ]
          refine ord_still 8 rfl (v := ?_) (by kernel_rfl) (fun _ _ _ h => h) rfl (fun W hW => ?_) hS ?_
          rotate_left
          · try dsimp only at hW
            go_simp
            try with_reducible rfl
          simp only [Act.put, List.setIfInBounds_toArray, List.set_cons_zero, List.set_cons_succ]
          refine ord_still 9 rfl (v := ?_) (by kernel_rfl) (fun _ _ _ h => h) rfl (fun W hW => ?_) hS ?_
          rotate_left
          · try dsimp only at hW
            go_simp
            try with_reducible rfl
          simp only [Act.put, List.setIfInBounds_toArray, List.set_cons_zero, List.set_cons_succ]
          refine ord_still 10 rfl (v := ?_) (by kernel_rfl) (fun _ _ _ h => h) rfl (fun W hW => ?_) hS ?_
          rotate_left
          · try dsimp only at hW
            go_simp
            try with_reducible rfl
          simp only [Act.put, List.setIfInBounds_toArray, List.set_cons_zero, List.set_cons_succ]
          refine ord_still 11 rfl (v := ?_) (by kernel_rfl) (fun _ _ _ h => h) rfl (fun W hW => ?_) hS ?_
          rotate_left
          · try dsimp only at hW
            go_simp
            try with_reducible rfl
          simp only [Act.put, List.setIfInBounds_toArray, List.set_cons_zero, List.set_cons_succ]
          refine ord_still 12 rfl (v := ?_) (by kernel_rfl) (fun _ _ _ h => h) rfl (fun W hW => ?_) hS ?_
          rotate_left
          · try dsimp only at hW
            go_simp
            try with_reducible rfl
          simp only [Act.put, List.setIfInBounds_toArray, List.set_cons_zero, List.set_cons_succ]
          refine ord_still 13 rfl (v := ?_) (by kernel_rfl) (fun _ _ _ h => h) rfl (fun W hW => ?_) hS ?_
          rotate_left
          · try dsimp only at hW
            go_simp
            try with_reducible rfl
          simp only [Act.put, List.setIfInBounds_toArray, List.set_cons_zero, List.set_cons_succ]
          refine ord_still 14 rfl (v := ?_) (by kernel_rfl) (fun _ _ _ h => h) rfl (fun W hW => ?_) hS ?_
          rotate_left
          · try dsimp only at hW
            go_simp
            try with_reducible rfl
          simp only [Act.put, List.setIfInBounds_toArray, List.set_cons_zero, List.set_cons_succ]
          refine ord_still 15 rfl (v := ?_) (by kernel_rfl) (fun _ _ _ h => h) rfl (fun W hW => ?_) hS ?_
          rotate_left
          · try dsimp only at hW
            go_simp
            try with_reducible rfl
          simp only [Act.put, List.setIfInBounds_toArray, List.set_cons_zero, List.set_cons_succ]
          refine ord_alone 4 rfl (by kernel_rfl) rfl (fun K hK => ?_)
          go_simp
          refine hK.out _ _ hS ?_
          clear hK
          refine ord_alone 16 rfl (by kernel_rfl) rfl (fun K hK => ?_)
          go_simp
          refine (cI.out _ (Below.refl _ _).drew).mono ?_
          rintro _ w2 ⟨v2, rfl, hO, hb⟩
          have hb' : Below w1.heap.size w1 w2 := (Below.refl w1.heap.size w1).drew.trans hb
          have HP2 := hid (HQ1.out.put hb' hO)
          have HC2 := hid ((HC1.out.trans' (Chg.of_below hb' (· = b))).trans' (Chg.store w2 b 3 v2))
          have hz3 := (HQ1.out.top.below' hb').cellv (i := 3) rfl
          have hzf := (HQ1.out.top.below' hb').frozen 3
          have HFW := hid (fun z hz => show w.heap.size ≤ z from Nat.le_trans HC1.out.size (Owns.base_le hO z hz).1)
          obtain ⟨A2, cap2, rfl, _⟩ := hO.form
          clear hS hO hb
          have hcl : ∀ (i : Nat) (u : Value), w1.cell? ⟨ba, i, none⟩ = some u → w2.cell? ⟨ba, i, none⟩ = some u := fun i u h => (hb'.cell (World.block_lt_of_cell? w1 _ h)).trans h
          have hcs : ∀ (x : Value) (i : Nat) (u : Value), w1.cell? ⟨ba, i, none⟩ = some u → (w2.setCell ⟨b, 3, none⟩ x).cell? ⟨ba, i, none⟩ = some u := fun x i u h => (cell_set_ne _ _ _ _ HBA.out).trans (hcl i u h)
          have hS : w2.cell? ⟨ba, oa + j * 10 + 1, none⟩ = some (.int .i64 hop) ∧ w2.cell? ⟨ba, oa + j * 10 + 3, none⟩ = some (.int .u64 (p1 : Int)) ∧ w2.cell? ⟨ba, oa + j * 10 + 4, none⟩ = some (.int .u64 (p2 : Int)) ∧ w2.cell? ⟨ba, oa + j * 10 + 5, none⟩ = some (.int .i64 p3) := ⟨hcl _ _ y1, hcl _ _ y3, hcl _ _ y4, hcl _ _ y5⟩
          refine hK.out _ _ hS ?_
          clear hK
          refine ord_still 17 rfl (v := ?_) (by kernel_rfl) (fun _ _ _ h => h) rfl (fun W hW => ?_) hS ?_
          rotate_left
          · try dsimp only at hW
            go_simp
            try with_reducible rfl
          simp only [Act.put, List.setIfInBounds_toArray, List.set_cons_zero, List.set_cons_succ]
          refine ord_still 18 rfl (v := ?_) (by kernel_rfl) (fun _ _ _ h => h) rfl (fun W hW => ?_) hS ?_
          rotate_left
          · try dsimp only at hW
            go_simp
            try with_reducible rfl
          simp only [Act.put, List.setIfInBounds_toArray, List.set_cons_zero, List.set_cons_succ]
          refine ord_alone 19 rfl (by kernel_rfl) rfl (fun K hK => ?_)
          go_simp
          refine hK.out _ _ ⟨hcs _ _ _ y1, hcs _ _ _ y3, hcs _ _ _ y4, hcs _ _ _ y5⟩ ?_
          clear hK hS hcl hcs y1 y3 y4 y5 z3 zf y0 hb' hz3 hzf
          refine ord_done (by kernel_rfl) ?_
          go_wp2_with fail
          go_roundw
          case rel => exact ⟨j + 1, _, by have := HN.out; omega, by go_num, HRS.out, ⟨_, HP2.out, .inr HFW.out⟩, HIS.out, HC2.out⟩
          case measure => simp [intOf]; omega
        · skip
          have cI := hid (fun (w' : World) (h : Below w1.heap.size w1 w') => ref_without w' _ Rj (HQ1.out.rd.below rtEn_length h) (by have h1 := HLJ.out; have h2 := HRL.out; omega) ((p1, p2), p3))
          have hset : cmSet Rj ⟨2, hop, n, ((p1, p2), p3), (a1, a2), s, .slice bA bm bcap⟩ = withoutL Rj ((p1, p2), p3) := by
            show setB Rj ((p1, p2), p3) (if (2 : Int) = 1 then hop else -1) = _
            rw [if_neg (by decide)]; unfold setB; rw [if_neg (by decide)]
          have HIS := hid (hset ▸ (show Inv m (cmSet Rj _) from HIN.out))
          have HRS := hid (hset ▸ HRN.out)
          clear hset
          go_wp2_with fail
          have hS : w1.drew.cell? ⟨ba, oa + j * 10 + 1, none⟩ = some (.int .i64 hop) ∧ w1.drew.cell? ⟨ba, oa + j * 10 + 3, none⟩ = some (.int .u64 (p1 : Int)) ∧ w1.drew.cell? ⟨ba, oa + j * 10 + 4, none⟩ = some (.int .u64 (p2 : Int)) ∧ w1.drew.cell? ⟨ba, oa + j * 10 + 5, none⟩ = some (.int .i64 p3) := ⟨y1, y3, y4, y5⟩
          refine wp_region_ord (fun w' => w'.cell? ⟨ba, oa + j * 10 + 1, none⟩ = some (.int .i64 hop) ∧ w'.cell? ⟨ba, oa + j * 10 + 3, none⟩ = some (.int .u64 (p1 : Int)) ∧ w'.cell? ⟨ba, oa + j * 10 + 4, none⟩ = some (.int .u64 (p2 : Int)) ∧ w'.cell? ⟨ba, oa + j * 10 + 5, none⟩ = some (.int .i64 p3)) (by kernel_rfl) hS ?_
          refine ord_still 0 rfl (v := ?_) (by kernel_rfl) (fun _ _ _ h => h) rfl (fun W hW => ?_) hS ?_
          rotate_left
          · try dsimp only at hW
            go_simp
            try with_reducible rfl
          simp only [Act.put, List.setIfInBounds_toArray, List.set_cons_zero, List.set_cons_succ]
          refine ord_still 1 rfl (v := ?_) (by kernel_rfl) (fun _ _ _ h => h) rfl (fun W hW => ?_) hS ?_
          rotate_left
          · try dsimp only at hW
            go_simp
            try with_reducible rfl
          simp only [Act.put, List.setIfInBounds_toArray, List.set_cons_zero, List.set_cons_succ]
          refine ord_still 2 rfl (v := ?_) (by kernel_rfl) (fun _ _ _ h => h) rfl (fun W hW => ?_) hS ?_
          rotate_left
          · try dsimp only at hW
            go_simp
            try with_reducible rfl
          simp only [Act.put, List.setIfInBounds_toArray, List.set_cons_zero, List.set_cons_succ]
          refine ord_still 3 rfl (v := ?_) (by kernel_rfl) (fun _ _ _ h => h) rfl (fun W hW => ?_) hS ?_
          rotate_left
          · try dsimp only at hW
            go_simp
            try with_reducible rfl
          simp only [Act.put, List.setIfInBounds_toArray, List.set_cons_zero, List.set_cons_succ]
          refine ord_still 5 rfl (v := ?_) (by kernel_rfl) (fun _ _ _ h => h) rfl (fun W hW => ?_) hS ?_
          rotate_left
          · try dsimp only at hW
            go_simp
            try with_reducible rfl
          simp only [Act.put, List.setIfInBounds_toArray, List.set_cons_zero, List.set_cons_succ]
          refine ord_still 6 rfl (v := ?_) (by kernel_rfl) (fun _ _ _ h => h) rfl (fun W hW => ?_) hS ?_
          rotate_left
          · try dsimp only at hW
            go_simp
            try with_reducible rfl
          simp only [Act.put, List.setIfInBounds_toArray, List.set_cons_zero, List.set_cons_succ]
          refine ord_still 7 rfl (v := ?_) (by kernel_rfl) (fun _ _ _ h => h) rfl (fun W hW => ?_) hS ?_
          rotate_left
          · try dsimp only at hW
            go_simp
            try with_reducible rfl
          simp only [Act.put, List.setIfInBounds_toArray, List.set_cons_zero, List.set_cons_succ]
          refine ord_still 8 rfl (v := ?_) (by kernel_rfl) (fun _ _ _ h => h) rfl (fun W hW => ?_) hS ?_
          rotate_left
          · try dsimp only at hW
            go_simp
            try with_reducible rfl
          simp only [Act.put, List.setIfInBounds_toArray, List.set_cons_zero, List.set_cons_succ]
          refine ord_still 9 rfl (v := ?_) (by kernel_rfl) (fun _ _ _ h => h) rfl (fun W hW => ?_) hS ?_
          rotate_left
          · try dsimp only at hW
            go_simp
            try with_reducible rfl
          simp only [Act.put, List.setIfInBounds_toArray, List.set_cons_zero, List.set_cons_succ]
          refine ord_alone 4 rfl (by kernel_rfl) rfl (fun K hK => ?_)
          go_simp
          refine hK.out _ _ hS ?_
          clear hK
          refine ord_alone 10 rfl (by kernel_rfl) rfl (fun K hK => ?_)
          go_simp
          refine (cI.out _ (Below.refl _ _).drew).mono ?_
          rintro _ w2 ⟨v2, rfl, hO, hb⟩
          have hb' : Below w1.heap.size w1 w2 := (Below.refl w1.heap.size w1).drew.trans hb
          have HP2 := hid (HQ1.out.put hb' hO)
          have HC2 := hid ((HC1.out.trans' (Chg.of_below hb' (· = b))).trans' (Chg.store w2 b 3 v2))
          have hz3 := (HQ1.out.top.below' hb').cellv (i := 3) rfl
          have hzf := (HQ1.out.top.below' hb').frozen 3
          have HFW := hid (fun z hz => show w.heap.size ≤ z from Nat.le_trans HC1.out.size (Owns.base_le hO z hz).1)
          obtain ⟨A2, cap2, rfl, _⟩ := hO.form
          clear hS hO hb
          have hcl : ∀ (i : Nat) (u : Value), w1.cell? ⟨ba, i, none⟩ = some u → w2.cell? ⟨ba, i, none⟩ = some u := fun i u h => (hb'.cell (World.block_lt_of_cell? w1 _ h)).trans h
          have hcs : ∀ (x : Value) (i : Nat) (u : Value), w1.cell? ⟨ba, i, none⟩ = some u → (w2.setCell ⟨b, 3, none⟩ x).cell? ⟨ba, i, none⟩ = some u := fun x i u h => (cell_set_ne _ _ _ _ HBA.out).trans (hcl i u h)
          have hS : w2.cell? ⟨ba, oa + j * 10 + 1, none⟩ = some (.int .i64 hop) ∧ w2.cell? ⟨ba, oa + j * 10 + 3, none⟩ = some (.int .u64 (p1 : Int)) ∧ w2.cell? ⟨ba, oa + j * 10 + 4, none⟩ = some (.int .u64 (p2 : Int)) ∧ w2.cell? ⟨ba, oa + j * 10 + 5, none⟩ = some (.int .i64 p3) := ⟨hcl _ _ y1, hcl _ _ y3, hcl _ _ y4, hcl _ _ y5⟩
          refine hK.out _ _ hS ?_
          clear hK
          refine ord_still 11 rfl (v := ?_) (by kernel_rfl) (fun _ _ _ h => h) rfl (fun W hW => ?_) hS ?_
          rotate_left
          · try dsimp only at hW
            go_simp
            try with_reducible rfl
          simp only [Act.put, List.setIfInBounds_toArray, List.set_cons_zero, List.set_cons_succ]
          refine ord_still 12 rfl (v := ?_) (by kernel_rfl) (fun _ _ _ h => h) rfl (fun W hW => ?_) hS ?_
          rotate_left
          · try dsimp only at hW
            go_simp
            try with_reducible rfl
          simp only [Act.put, List.setIfInBounds_toArray, List.set_cons_zero, List.set_cons_succ]
          refine ord_alone 13 rfl (by kernel_rfl) rfl (fun K hK => ?_)
          go_simp
          refine hK.out _ _ ⟨hcs _ _ _ y1, hcs _ _ _ y3, hcs _ _ _ y4, hcs _ _ _ y5⟩ ?_
          clear hK hS hcl hcs y1 y3 y4 y5 z3 zf y0 hb' hz3 hzf
          refine ord_done (by kernel_rfl) ?_
          go_wp2_with fail
          go_roundw
          case rel => exact ⟨j + 1, _, by have := HN.out; omega, by go_num, HRS.out, ⟨_, HP2.out, .inr HFW.out⟩, HIS.out, HC2.out⟩
          case measure => simp [intOf]; omega
      · have e0 : (er != 0) = true := by simpa using h0
        have HRS := hid (runB_stop HRUN.out HCJ.out (show cmErr m Rj _ ≠ 0 from HER.out ▸ h0))
        have z3 := HQ1.out.top.cellv (i := 3) rfl
        have zf := HQ1.out.top.frozen 3
        have HDE := hid (show d = ((j : Int), er, R) by
          rw [← HD.out]; unfold doB; rw [HRS.out]; show ((j : Int), cmErr m Rj _, R) = _; rw [HER.out])
        have HT := hid (HQ1.out.top.set 3 (.slice A0 n0 cap0))
        have HC2 := hid (HC1.out.trans' (Chg.store w1 b 3 (.slice A0 n0 cap0)))
        clear h0
        go_wp2_with fail
        go_returns
        rw [HDE.out]
        exact ⟨rfl, ⟨_, ⟨HT.out, H0.out.rd.chg rtEn_length HC2.out (fun z hz => (H0.out.lt z hz).2), fun z hz => ⟨Nat.lt_of_lt_of_le (H0.out.lt z hz).1 HC2.out.size, (H0.out.lt z hz).2⟩⟩, .inl rfl⟩, HC2.out⟩
    · have hj' : j = N := by omega
      subst hj'
      have hrun := HRUN.out
      rw [HALL.out] at hrun
      have HDE := hid (show d = (-1, 0, Rj) by rw [← HD.out]; unfold doB; rw [hrun])
      clear hrun
      go_wp2_with fail
      go_returns
      rw [HDE.out]
      exact ⟨rfl, ⟨_, HQJ.out, HFR.out⟩, HC.out⟩
end Go.Proofs.Ytcnecjjgnnkjkaa
