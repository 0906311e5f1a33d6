/-
  Contracts of the document's own filter (chapter 9). No condition but that words are words.
-/
import Derived.Test.YtpjjijhojcfmnaaGreatFil
import Derived.Test.YtpjjijhojcfmnaaGreatRefPick
namespace Go.Proofs.YtpjjijhojcfmnaaGreat
open Go.RowKit
set_option linter.unusedVariables false
set_option linter.unusedSimpArgs false
set_option maxRecDepth 100000

structure RFlt (w : World) (f q s : Nat) (k : Int) (c : List Nat) : Prop where
  top : Blk w f 97 [.int .u64 (s : Int), .int .i64 k, .slice (some ⟨q, 0, none⟩) c.length c.length]
  row : Blk w q 3 (c.map fun (x : Nat) => .int .i64 (x : Int))
  ne : f ≠ q
  le : Le15 c
  s64 : s < 2 ^ 64
  m1 : 1 ≤ c.length
  m2 : c.length ≤ 65536
theorem RFlt.chg {w w' : World} {f q s : Nat} {k : Int} {c : List Nat} {S : Nat → Prop} (h : RFlt w f q s k c) (hc : Chg S w w') (h1 : ¬ S f) (h2 : ¬ S q) : RFlt w' f q s k c := { h with top := h.top.chg hc h1, row := h.row.chg hc h2 }
theorem RFlt.below {w w' : World} {f q s : Nat} {k : Int} {c : List Nat} (h : RFlt w f q s k c) (hc : Below w.heap.size w w') : RFlt w' f q s k c := h.chg (Chg.of_below hc fun _ => False) id id
theorem RFlt.cell {w : World} {f q s : Nat} {k : Int} {c : List Nat} (h : RFlt w f q s k c) {i : Nat} (hi : i < c.length) : w.cell? ⟨q, i, none⟩ = some (.int .i64 ((c.getD i 0 : Nat) : Int)) :=
  h.row.cellv (by simp [hi])

theorem ref_newFilter_no (s : Nat) (k m : Int) (h : k < 1 ∨ 16 < k ∨ m < 1 ∨ 65536 < m) (w : World) :
    Calls Tryz.prog 19 #[.int .u64 (s : Int), .int .i64 k, .int .i64 m] w fun e w' => e = .returned (.tuple #[.pointer none, .int .i64 1]) ∧ w = w' := by
  by_cases h1 : k < 1
  · go_enter Tryz.func19, Tryz.ntmps19
    go_wp2_with fail
    go_ret2
    exact ⟨rfl, rfl⟩
  by_cases h2 : 16 < k
  · go_enter Tryz.func19, Tryz.ntmps19
    go_wp2_with fail
    go_ret2
    exact ⟨rfl, rfl⟩
  by_cases h3 : m < 1
  · go_enter Tryz.func19, Tryz.ntmps19
    go_wp2_with fail
    go_ret2
    exact ⟨rfl, rfl⟩
  have h4 : 65536 < m := by omega
  go_enter Tryz.func19, Tryz.ntmps19
  go_wp2_with fail
  go_ret2
  exact ⟨rfl, rfl⟩
def RNewPost (w : World) (s : Nat) (k : Int) (m : Nat) (e : Ending) (w' : World) : Prop :=
  ∃ f q, e = .returned (.tuple #[.pointer (some ⟨f, 0, none⟩), .int .i64 0]) ∧ RFlt w' f q s k (List.replicate m 0) ∧ w.heap.size ≤ f ∧ w.heap.size ≤ q ∧ Below w.heap.size w w'
theorem ref_newFilter (s : Nat) (hs : s < 2 ^ 64) (k : Int) (m : Nat) (h1 : 1 ≤ k) (h2 : k ≤ 16) (h3 : 1 ≤ m) (h4 : m ≤ 65536) (w : World) :
    Calls Tryz.prog 19 #[.int .u64 (s : Int), .int .i64 k, .int .i64 (m : Int)] w (RNewPost w s k m) := by
  have HS := hid hs
  clear hs
  have d3 : decide ((m : Int) < 1) = false := decide_eq_false (by omega)
  have d4 : decide ((65536 : Int) < (m : Int)) = false := decide_eq_false (by omega)
  have hmk := fun w => make_at (P := Tryz.prog) 69 3 (.int .i64 0) 8 Tryz.underlying69 int_row rfl .i64 .i64 m m rfl (by omega) (by omega) w
  go_enter Tryz.func19, Tryz.ntmps19
  go_wp2_with fail
  go_ret2
  refine ⟨w.heap.size + 1, w.heap.size, rfl, ⟨?_, ?_, by omega, Le15.zero _, HS.out, by rw [List.length_replicate]; exact h3, by rw [List.length_replicate]; exact h4⟩, by omega, by omega, ((Below.refl _ _).alloc (Nat.le_refl _) _).alloc (by simp) _⟩
  · rw [List.length_replicate]; exact Blk.new_at _ _ _ _ (by simp)
  · have := (Blk.made w (.int .i64 0) m 3).alloc (.cells #[.int .u64 (s : Int), .int .i64 k, .slice (some ⟨w.heap.size, 0, none⟩) m m] 97)
    rw [List.map_replicate]
    exact this

section
variable {w : World} {f q s : Nat} {k : Int} {c : List Nat}
/-- What a region that only reads meets: the cells of the filter and of the places. -/
def RCells (f q s : Nat) (k : Int) (N : Nat) (w : World) : Prop := True

def RPlc (w : World) (c : List Nat) (st : Nat → List Nat) (f q s : Nat) (k : Int) (n : Nat) (i : Value) (wr : World) : Prop :=
  ∃ j : Nat, j ≤ n ∧ i = .int .i64 j ∧ RFlt wr f q s k (st j) ∧ Chg (· = q) w wr
def RAddPost (w : World) (f q s : Nat) (k : Int) (c' : List Nat) (e : Ending) (w' : World) : Prop := e = .returned (.tuple #[]) ∧ RFlt w' f q s k c' ∧ Chg (· = q) w w'
set_option maxHeartbeats 2000000 in
theorem ref_fadd (h : RFlt w f q s k c) (p : Pf) (hp : p.1.ok) :
    Calls Tryz.prog 25 #[.pointer (some ⟨f, 0, none⟩), .agg #[.int .u64 (p.1.1 : Int), .int .u64 (p.1.2 : Int), .int .i64 p.2]] w (RAddPost w f q s k (addC (placesN s p k c.length) c)) := by
  have hb0 := hid ((Below.refl w.heap.size w).alloc (Nat.le_refl _) (.cells #[.int .u64 (p.1.1 : Int), .int .u64 (p.1.2 : Int), .int .i64 p.2] 38))
  have hm1 := h.m1
  have hm2 := h.m2
  have c1 := hid (fun w => ref_places s h.s64 p hp k c.length (by omega) w)
  have hlt := hid (placesN_lt (s := s) (p := p) (k := k) (m := c.length) (by omega))
  have hl16 := placesN_le s p k c.length
  generalize placesN s p k c.length = L at c1 hlt hl16
  have HX := hid (h.below hb0.out)
  have hf := h.top.lt
  have hq := h.row.lt
  obtain ⟨M, hM⟩ : ∃ M, c.length = M := ⟨_, rfl⟩
  have HM := hid hM
  have t0 := HX.out.top.cellv (i := 0) rfl
  have t1 := HX.out.top.cellv (i := 1) rfl
  have t2 := HX.out.top.cellv (i := 2) rfl
  rw [hM] at t2 hm1 hm2 c1
  clear h hp hM
  obtain ⟨⟨a, b⟩, n⟩ := p
  simp only at c1 HX hb0 t0 t1 t2
  go_enter Tryz.func25, Tryz.ntmps25
  go_wp2_with fail
  refine wp_region_tail 14 (by kernel_rfl) (by kernel_rfl) ?_
  simp only [List.take_succ_cons, List.take_zero, List.drop_succ_cons, List.drop_zero]
  repeat still_step
  refine wpStill_nil ?_
  go_wp2_with fail
  refine (c1.out _).mono ?_
  rintro _ w1 ⟨v, rfl, hO, hb⟩
  have HRd := hid (Rd.of_owns (en := nEn) (l := L) (by rw [nEn_flat]; exact hO) nEn_len)
  have HV := hid (fun z (hz : v.ownBlock = some z) => (show w.heap.size ≤ z from Nat.le_trans hb0.out.size (Owns.base_le hO z hz).1))
  obtain ⟨A, cap, rfl, hnc, hcm, _⟩ := Owns.form hO
  unfold maxLen at hcm
  have hb' := (((Below.refl _ (w.alloc (.cells #[.int .u64 (a : Int), .int .u64 (b : Int), .int .i64 n] 38))).drew).trans hb)
  have HX1 := hid (HX.out.below hb')
  have HB := hid (hb0.out.trans (hb'.mono hb0.out.size))
  have hs1 := HB.out.size
  clear hO hb hb' c1 HX hb0 t0 t1 t2
  obtain ⟨N, hN⟩ : ∃ N, L.length = N := ⟨_, rfl⟩
  have HL := hid hN
  rw [hN] at hnc hl16 ⊢
  clear hN
  go_wp2_with fail
  go_loopw [5] (fun i wr => RPlc w1 c (fun j => addC (L.take j) c) f q s k N i wr) (fun i _ => N - (intOf i).toNat)
  case atStart => exact ⟨0, Nat.zero_le _, rfl, HX1.out, Chg.refl _ _⟩
  case round =>
    clear HX1
    obtain ⟨j, hj, rfl, hX, hC⟩ := hrel
    have hX : RFlt wr f q s k (addC (L.take j) c) := hX
    have HX := hid hX
    have HC := hid hC
    by_cases hjN : j < N
    · obtain ⟨x, hx⟩ : ∃ x, L[j]? = some x := ⟨_, List.getElem?_eq_getElem (by rw [HL.out]; exact hjN)⟩
      obtain ⟨ba, oa, ca, hv, _, _, la, sa⟩ := (HRd.out.chg nEn_len hC (fun z hz e => by have := HV.out z hz; omega)).get nEn_len (by decide) hx
      injection hv with hA hxx hc
      subst hA hc
      have y0 : wr.cell? ⟨ba, oa + j, none⟩ = some (.int .i64 (x : Int)) := by simpa using sa 0 _ rfl
      have HS := hid (addC_snoc hx c)
      have hxl := hlt.out x (List.mem_of_getElem? hx)
      rw [HM.out] at hxl
      have hsl := addC_len (L.take j) c
      rw [HM.out] at hsl
      have hup := upN_eq (addC (L.take j) c) x
      have hle := hX.le x
      generalize addC (L.take j) c = cc at HX HS hX hsl hup hle
      have t2 := hX.top.cellv (i := 2) rfl
      rw [hsl] at t2
      have z0 := hX.cell (i := x) (by rw [hsl]; exact hxl)
      have zf := hX.row.frozen x
      obtain ⟨z, hz⟩ : ∃ z, cc.getD x 0 = z := ⟨_, rfl⟩
      rw [hz] at z0 hup hle
      have HSL := hid hsl
      have HUP := hid hup
      clear sa hxx hx hX hC hsl hup hz
      have hx0 : (0 : Int) ≤ (x : Int) := by omega
      have hxM : (x : Int) < (M : Int) := by omega
      by_cases h15 : z < 15
      · have hd : decide ((z : Int) < 15) = true := decide_eq_true (by omega)
        go_wp2_with fail
        go_quiet (fail)
        go_wp2_with fail
        refine wp_region_tail 12 (by kernel_rfl) (by kernel_rfl) ?_
        simp only [List.take_succ_cons, List.take_zero, List.drop_succ_cons, List.drop_zero]
        repeat still_step
        refine wpStill_nil ?_
        go_wp2_with fail
        go_roundw
        case rel =>
          refine ⟨j + 1, by omega, by go_num, ?_, ?_⟩
          · show RFlt _ f q s k (addC (L.take (j + 1)) c)
            rw [HS.out, HUP.out, if_pos ⟨by rw [HSL.out]; exact hxl, h15⟩]
            have hX := HX.out
            exact { top := by rw [List.length_set]; exact hX.top.set_ne (a := ⟨q, x, none⟩) hX.ne _, row := by rw [List.map_set]; exact hX.row.set x _, ne := hX.ne, le := by have h := hX.le.up x; rw [HUP.out, if_pos ⟨by rw [HSL.out]; exact hxl, h15⟩] at h; exact h, s64 := hX.s64, m1 := by rw [List.length_set]; exact hX.m1, m2 := by rw [List.length_set]; exact hX.m2 }
          · exact (((HC.out.drewN _).drew).setCell (fun _ => rfl) _)
        case measure => simp [intOf]; omega
      · have hd : decide ((z : Int) < 15) = false := decide_eq_false (by omega)
        go_wp2_with fail
        go_quiet (fail)
        go_wp2_with fail
        go_roundw
        case rel =>
          refine ⟨j + 1, by omega, by go_num, ?_, HC.out.drewN _⟩
          show RFlt _ f q s k (addC (L.take (j + 1)) c)
          rw [HS.out, HUP.out, if_neg (fun h => h15 h.2)]
          exact HX.out.below ((Below.refl _ _).drewN _)
        case measure => simp [intOf]; omega
    · have hjj : L.take j = L := List.take_of_length_le (by rw [HL.out]; omega)
      have hX2 := hX
      rw [hjj] at hX2
      have HX2 := hid hX2
      clear hX hC hX2 HX
      go_wp2_with fail
      go_returns
      exact ⟨rfl, HX2.out, (Chg.of_below HB.out _).trans' HC.out⟩
set_option maxHeartbeats 2000000 in
theorem ref_fremove (h : RFlt w f q s k c) (p : Pf) (hp : p.1.ok) :
    Calls Tryz.prog 27 #[.pointer (some ⟨f, 0, none⟩), .agg #[.int .u64 (p.1.1 : Int), .int .u64 (p.1.2 : Int), .int .i64 p.2]] w (RAddPost w f q s k (remC (placesN s p k c.length) c)) := by
  have hb0 := hid ((Below.refl w.heap.size w).alloc (Nat.le_refl _) (.cells #[.int .u64 (p.1.1 : Int), .int .u64 (p.1.2 : Int), .int .i64 p.2] 38))
  have hm1 := h.m1
  have hm2 := h.m2
  have c1 := hid (fun w => ref_places s h.s64 p hp k c.length (by omega) w)
  have hlt := hid (placesN_lt (s := s) (p := p) (k := k) (m := c.length) (by omega))
  have hl16 := placesN_le s p k c.length
  generalize placesN s p k c.length = L at c1 hlt hl16
  have HX := hid (h.below hb0.out)
  have hf := h.top.lt
  have hq := h.row.lt
  obtain ⟨M, hM⟩ : ∃ M, c.length = M := ⟨_, rfl⟩
  have HM := hid hM
  have t0 := HX.out.top.cellv (i := 0) rfl
  have t1 := HX.out.top.cellv (i := 1) rfl
  have t2 := HX.out.top.cellv (i := 2) rfl
  rw [hM] at t2 hm1 hm2 c1
  clear h hp hM
  obtain ⟨⟨a, b⟩, n⟩ := p
  simp only at c1 HX hb0 t0 t1 t2
  go_enter Tryz.func27, Tryz.ntmps27
  go_wp2_with fail
  refine wp_region_tail 14 (by kernel_rfl) (by kernel_rfl) ?_
  simp only [List.take_succ_cons, List.take_zero, List.drop_succ_cons, List.drop_zero]
  repeat still_step
  refine wpStill_nil ?_
  go_wp2_with fail
  refine (c1.out _).mono ?_
  rintro _ w1 ⟨v, rfl, hO, hb⟩
  have HRd := hid (Rd.of_owns (en := nEn) (l := L) (by rw [nEn_flat]; exact hO) nEn_len)
  have HV := hid (fun z (hz : v.ownBlock = some z) => (show w.heap.size ≤ z from Nat.le_trans hb0.out.size (Owns.base_le hO z hz).1))
  obtain ⟨A, cap, rfl, hnc, hcm, _⟩ := Owns.form hO
  unfold maxLen at hcm
  have hb' := (((Below.refl _ (w.alloc (.cells #[.int .u64 (a : Int), .int .u64 (b : Int), .int .i64 n] 38))).drew).trans hb)
  have HX1 := hid (HX.out.below hb')
  have HB := hid (hb0.out.trans (hb'.mono hb0.out.size))
  have hs1 := HB.out.size
  clear hO hb hb' c1 HX hb0 t0 t1 t2
  obtain ⟨N, hN⟩ : ∃ N, L.length = N := ⟨_, rfl⟩
  have HL := hid hN
  rw [hN] at hnc hl16 ⊢
  clear hN
  go_wp2_with fail
  go_loopw [5] (fun i wr => RPlc w1 c (fun j => remC (L.take j) c) f q s k N i wr) (fun i _ => N - (intOf i).toNat)
  case atStart => exact ⟨0, Nat.zero_le _, rfl, HX1.out, Chg.refl _ _⟩
  case round =>
    clear HX1
    obtain ⟨j, hj, rfl, hX, hC⟩ := hrel
    have hX : RFlt wr f q s k (remC (L.take j) c) := hX
    have HX := hid hX
    have HC := hid hC
    by_cases hjN : j < N
    · obtain ⟨x, hx⟩ : ∃ x, L[j]? = some x := ⟨_, List.getElem?_eq_getElem (by rw [HL.out]; exact hjN)⟩
      obtain ⟨ba, oa, ca, hv, _, _, la, sa⟩ := (HRd.out.chg nEn_len hC (fun z hz e => by have := HV.out z hz; omega)).get nEn_len (by decide) hx
      injection hv with hA hxx hc
      subst hA hc
      have y0 : wr.cell? ⟨ba, oa + j, none⟩ = some (.int .i64 (x : Int)) := by simpa using sa 0 _ rfl
      have HS := hid (remC_snoc hx c)
      have hxl := hlt.out x (List.mem_of_getElem? hx)
      rw [HM.out] at hxl
      have hsl := remC_len (L.take j) c
      rw [HM.out] at hsl
      have hup := downN_eq (remC (L.take j) c) x
      have hle := hX.le x
      generalize remC (L.take j) c = cc at HX HS hX hsl hup hle
      have t2 := hX.top.cellv (i := 2) rfl
      rw [hsl] at t2
      have z0 := hX.cell (i := x) (by rw [hsl]; exact hxl)
      have zf := hX.row.frozen x
      obtain ⟨z, hz⟩ : ∃ z, cc.getD x 0 = z := ⟨_, rfl⟩
      rw [hz] at z0 hup hle
      have HSL := hid hsl
      have HUP := hid hup
      clear sa hxx hx hX hC hsl hup hz
      have hx0 : (0 : Int) ≤ (x : Int) := by omega
      have hxM : (x : Int) < (M : Int) := by omega
      by_cases h15 : 0 < z ∧ z < 15
      · have hd : decide ((z : Int) < 15) = true := decide_eq_true (by omega)
        have hd0 : decide ((0 : Int) < (z : Int)) = true := decide_eq_true (by omega)
        have hz1 : 1 ≤ z := h15.1
        have hsub : IntKind.i64.wrap ((z : Int) - 1) = ((z - 1 : Nat) : Int) := by rw [IntKind.wrap_i64]; omega
        go_wp2_with fail
        go_quiet (fail)
        go_wp2_with fail
        refine wp_region_tail 12 (by kernel_rfl) (by kernel_rfl) ?_
        simp only [List.take_succ_cons, List.take_zero, List.drop_succ_cons, List.drop_zero]
        repeat still_step
        refine wpStill_nil ?_
        go_wp2_with fail
        go_roundw
        case rel =>
          refine ⟨j + 1, by omega, by go_num, ?_, ?_⟩
          · show RFlt _ f q s k (remC (L.take (j + 1)) c)
            rw [HS.out, HUP.out, if_pos ⟨by rw [HSL.out]; exact hxl, h15⟩]
            have hX := HX.out
            exact { top := by rw [List.length_set]; exact hX.top.set_ne (a := ⟨q, x, none⟩) hX.ne _, row := by rw [List.map_set]; exact hX.row.set x _, ne := hX.ne, le := by have h := hX.le.down x; rw [HUP.out, if_pos ⟨by rw [HSL.out]; exact hxl, h15⟩] at h; exact h, s64 := hX.s64, m1 := by rw [List.length_set]; exact hX.m1, m2 := by rw [List.length_set]; exact hX.m2 }
          · exact (((HC.out.drewN _).drew).setCell (fun _ => rfl) _)
        case measure => simp [intOf]; omega
      · rcases (show z = 0 ∨ z = 15 by omega) with rfl | rfl
        all_goals
          go_wp2_with fail
          go_quiet (fail)
          go_wp2_with fail
          go_roundw
          case rel =>
            refine ⟨j + 1, by omega, by go_num, ?_, HC.out.drewN _⟩
            show RFlt _ f q s k (remC (L.take (j + 1)) c)
            rw [HS.out, HUP.out, if_neg (fun h => h15 h.2)]
            exact HX.out.below ((Below.refl _ _).drewN _)
          case measure => simp [intOf]; omega
    · have hjj : L.take j = L := List.take_of_length_le (by rw [HL.out]; omega)
      have hX2 := hX
      rw [hjj] at hX2
      have HX2 := hid hX2
      clear hX hC hX2 HX
      go_wp2_with fail
      go_returns
      exact ⟨rfl, HX2.out, (Chg.of_below HB.out _).trans' HC.out⟩
def RMayRel (w1 : World) (f q s : Nat) (k : Int) (c L : List Nat) (n : Nat) (i : Value) (wr : World) : Prop := ∃ j : Nat, j ≤ n ∧ i = .int .i64 j ∧ (∀ (m x : Nat), m < j → L[m]? = some x → 0 < c.getD x 0) ∧ Below w1.heap.size w1 wr
set_option maxHeartbeats 2000000 in
theorem ref_fmay (h : RFlt w f q s k c) (p : Pf) (hp : p.1.ok) (B : Bool) (hB : mayB (placesN s p k c.length) c = B) :
    Calls Tryz.prog 32 #[.pointer (some ⟨f, 0, none⟩), .agg #[.int .u64 (p.1.1 : Int), .int .u64 (p.1.2 : Int), .int .i64 p.2]] w fun e w' => e = .returned (.bool B) ∧ Below w.heap.size w w' := by
  have hb0 := hid ((Below.refl w.heap.size w).alloc (Nat.le_refl _) (.cells #[.int .u64 (p.1.1 : Int), .int .u64 (p.1.2 : Int), .int .i64 p.2] 38))
  have hm1 := h.m1
  have hm2 := h.m2
  have c1 := hid (fun w => ref_places s h.s64 p hp k c.length (by omega) w)
  have hlt := hid (placesN_lt (s := s) (p := p) (k := k) (m := c.length) (by omega))
  have hl16 := placesN_le s p k c.length
  generalize placesN s p k c.length = L at c1 hlt hl16 hB
  have HX := hid (h.below hb0.out)
  have HBB := hid hB
  obtain ⟨M, hM⟩ : ∃ M, c.length = M := ⟨_, rfl⟩
  have HM := hid hM
  have t0 := HX.out.top.cellv (i := 0) rfl
  have t1 := HX.out.top.cellv (i := 1) rfl
  have t2 := HX.out.top.cellv (i := 2) rfl
  rw [hM] at t2 hm1 hm2 c1
  clear h hp hM hB
  obtain ⟨⟨a, b⟩, n⟩ := p
  simp only at c1 HX hb0 t0 t1 t2
  go_enter Tryz.func32, Tryz.ntmps32
  go_wp2_with fail
  refine wp_region_tail 14 (by kernel_rfl) (by kernel_rfl) ?_
  simp only [List.take_succ_cons, List.take_zero, List.drop_succ_cons, List.drop_zero]
  repeat still_step
  refine wpStill_nil ?_
  go_wp2_with fail
  refine (c1.out _).mono ?_
  rintro _ w1 ⟨v, rfl, hO, hb⟩
  have HRd := hid (Rd.of_owns (en := nEn) (l := L) (by rw [nEn_flat]; exact hO) nEn_len)
  obtain ⟨A, cap, rfl, hnc, hcm, _⟩ := Owns.form hO
  unfold maxLen at hcm
  have hb' := (((Below.refl _ (w.alloc (.cells #[.int .u64 (a : Int), .int .u64 (b : Int), .int .i64 n] 38))).drew).trans hb)
  have HX1 := hid (HX.out.below hb')
  have HB := hid (hb0.out.trans (hb'.mono hb0.out.size))
  clear hO hb hb' c1 HX hb0 t0 t1 t2
  obtain ⟨N, hN⟩ : ∃ N, L.length = N := ⟨_, rfl⟩
  have HL := hid hN
  rw [hN] at hnc hl16 ⊢
  clear hN
  go_wp2_with fail
  go_loopw [6] (fun i wr => RMayRel w1 f q s k c L N i wr) (fun i _ => N - (intOf i).toNat)
  case atStart => exact ⟨0, Nat.zero_le _, rfl, fun m x hm => by omega, Below.refl _ _⟩
  case round =>
    obtain ⟨j, hj, rfl, hall, hbr⟩ := hrel
    have HA := hid hall
    have HBR := hid hbr
    have HX := hid (HX1.out.below hbr)
    clear hall
    by_cases hjN : j < N
    · obtain ⟨x, hx⟩ : ∃ x, L[j]? = some x := ⟨_, List.getElem?_eq_getElem (by rw [HL.out]; exact hjN)⟩
      obtain ⟨ba, oa, ca, hv, _, _, la, sa⟩ := (HRd.out.below nEn_len hbr).get nEn_len (by decide) hx
      injection hv with hA hxx hc
      subst hA hc
      have y0 : wr.cell? ⟨ba, oa + j, none⟩ = some (.int .i64 (x : Int)) := by simpa using sa 0 _ rfl
      have hxl := hlt.out x (List.mem_of_getElem? hx)
      have z0 := HX.out.cell (i := x) hxl
      rw [HM.out] at hxl
      have t2 := HX.out.top.cellv (i := 2) rfl
      rw [HM.out] at t2
      have HXJ := hid hx
      obtain ⟨z, hz⟩ : ∃ z, c.getD x 0 = z := ⟨_, rfl⟩
      rw [hz] at z0
      have HZ := hid hz
      clear sa hxx hx hz hbr
      have hx0 : (0 : Int) ≤ (x : Int) := by omega
      have hxM : (x : Int) < (M : Int) := by omega
      by_cases h0 : 0 < z
      · have hd : ((z : Int) == 0) = false := by rw [beq_eq_false_iff_ne]; omega
        go_wp2_with fail
        go_quiet (fail)
        go_wp2_with fail
        go_roundw
        case rel =>
          refine ⟨j + 1, by omega, by go_num, fun m y hm hy => ?_, HBR.out.drewN _⟩
          by_cases e : m = j
          · subst e; rw [HXJ.out] at hy; injection hy with hy; subst hy; rw [HZ.out]; exact h0
          · exact HA.out m y (by omega) hy
        case measure => simp [intOf]; omega
      · obtain rfl : z = 0 := by omega
        go_wp2_with fail
        go_quiet (fail)
        go_wp2_with fail
        go_ret
        have e : B = false := by rw [← HBB.out]; exact mayB_no HXJ.out (by rw [HZ.out]; exact h0)
        exact ⟨by rw [e]; rfl, HB.out.trans ((HBR.out.drewN _).mono HB.out.size)⟩
    · clear hbr
      go_wp2_with fail
      go_ret
      have e : B = true := by
        rw [← HBB.out]
        exact mayB_all fun m x hm => HA.out m x (by have := (List.getElem?_eq_some_iff.1 hm).1; have := HL.out; omega) hm
      exact ⟨by rw [e]; rfl, HB.out.trans (HBR.out.mono HB.out.size)⟩

end

end Go.Proofs.YtpjjijhojcfmnaaGreat
