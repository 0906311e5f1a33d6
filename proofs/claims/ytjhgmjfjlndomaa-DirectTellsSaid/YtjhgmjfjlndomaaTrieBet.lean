/-
  Contracts of Between, Longest, Cover over a trie in memory: the longest prefix of an address within bounds. No condition but that words are words.
-/
import Derived.Test.YtjhgmjfjlndomaaTriePut
import Derived.Deep.RegionHeld3
namespace Go.Proofs.Ytjhgmjfjlndomaa
open Go.RowKit
set_option linter.unusedVariables false
set_option linter.unusedSimpArgs false
set_option maxRecDepth 100000
attribute [local go_sem high] eq_ad eq_pf eq_rt

theorem cell_set_ne (w : World) (a b : Addr) (v : Value) (h : a.block ≠ b.block) : (w.setCell b v).cell? a = w.cell? a := World.cell?_of_block (Below.heap_setCell _ _ _ _ h)
/-- Of the first k lengths the greatest, above low, that has a value. -/
def bestT (m : Ad → Nat → Option Int) (a : Ad) (low : Int) : Nat → Option (Nat × Int)
  | 0 => none
  | k + 1 => if low < (k : Int) then (match m (a.cut k) k with | some h => some (k, h) | none => bestT m a low k) else bestT m a low k
theorem bestT_lt {m : Ad → Nat → Option Int} {a : Ad} {low : Int} : ∀ {k i : Nat} {h : Int}, bestT m a low k = some (i, h) → i < k ∧ low < (i : Int) ∧ m (a.cut i) i = some h
  | 0, i, h, e => by simp [bestT] at e
  | k + 1, i, h, e => by
    unfold bestT at e
    by_cases h1 : low < (k : Int)
    · rw [if_pos h1] at e
      cases h2 : m (a.cut k) k with
      | some h' =>
        rw [h2] at e
        injection e with e
        injection e with e1 e2
        subst e1 e2
        exact ⟨by omega, h1, h2⟩
      | none => rw [h2] at e; have := bestT_lt e; exact ⟨by omega, this.2⟩
    · rw [if_neg h1] at e; have := bestT_lt e; exact ⟨by omega, this.2⟩
theorem bestT_none {m : Ad → Nat → Option Int} {a : Ad} {low : Int} {k : Nat} : ∀ {K : Nat}, k ≤ K → (∀ j, k ≤ j → j < K → m (a.cut j) j = none) → bestT m a low K = bestT m a low k
  | 0, hk, _ => by obtain rfl : k = 0 := by omega
                   rfl
  | K + 1, hk, h => by
    by_cases e : k = K + 1
    · rw [e]
    · rw [bestT, h K (by omega) (by omega)]
      simp only
      rw [bestT_none (show k ≤ K by omega) (fun j h1 h2 => h j h1 (by omega))]
      split <;> rfl
def btK (high : Int) : Nat := (min high 128 + 1).toNat
def btR (a : Ad) : Option (Nat × Int) → Rt
  | none => (((0, 0), 0), 0)
  | some (i, h) => ((a.cut i, (i : Int)), h)
/-- The pair that such a search hands back. -/
def rtPair (r : Rt) (b : Bool) : Value := .tuple #[.agg #[.int .u64 (r.1.1.1 : Int), .int .u64 (r.1.1.2 : Int), .int .i64 r.1.2, .int .i64 r.2], .bool b]
def BetPost (w : World) (a : Ad) (v : Option (Nat × Int)) (e : Ending) (w' : World) : Prop := e = .returned (rtPair (btR a v) v.isSome) ∧ Below w.heap.size w w'

def BetLoop (w : World) (p : Ad) (N : Ad → Nat → Option Nat) (m : Ad → Nat → Option Int) (low high : Int) (fo x i : Value) (wr : World) : Prop :=
  ∃ k : Nat, k ≤ 128 ∧ (k = 0 ∨ (k : Int) ≤ high + 1) ∧ i = .int .i64 k ∧ x = ptrV (N (p.cut k) k) ∧ fo = .bool (bestT m p low k).isSome ∧
    Blk wr w.heap.size 24 [.int .u64 (p.1 : Int), .int .u64 (p.2 : Int)] ∧ Blk wr (w.heap.size + 1) 51 [.int .u64 0, .int .u64 0, .int .i64 0, .int .i64 0] ∧
    Blk wr (w.heap.size + 2) 51 (rtEn (btR p (bestT m p low k))) ∧ Below w.heap.size w wr

theorem bt_nil {w : World} {g : Nat} {F : Nat → Prop} {N : Ad → Nat → Option Nat} {m : Ad → Nat → Option Int} {n : Int} (H : TrieN w g F N m n) {a : Ad} (ha : a.ok) {k : Nat} (hN : N (a.cut k) k = none) (low : Int) {high : Int} (hk : k = 0 ∨ (k : Int) ≤ high + 1) (h128 : k ≤ 128) :
    bestT m a low (btK high) = bestT m a low k := by
  by_cases h0 : k ≤ btK high
  · refine bestT_none h0 fun j h1 h2 => ?_
    have hj : j ≤ 128 := by unfold btK at h2; omega
    exact H.val _ _ (Kok.of_cut ha hj) (H.none_below ha hN j h1 hj)
  · unfold btK at h0; omega

theorem trie_between {w : World} {g : Nat} {F : Nat → Prop} {N : Ad → Nat → Option Nat} {m : Ad → Nat → Option Int} {n : Int} (H : TrieN w g F N m n) (a : Ad) (ha : a.ok) (low high : Int) :
    Calls Try.prog 61 #[.pointer (some ⟨g, 0, none⟩), .agg #[.int .u64 (a.1 : Int), .int .u64 (a.2 : Int)], .int .i64 low, .int .i64 high] w (BetPost w a (bestT m a low (btK high))) := by
  have HT := hid H
  have HP := hid ha
  have c1 := hid fun k w => addr_bitN a ha k _ rfl w
  have c2 := hid fun k (hk : k ≤ 128) w => addr_cutN a ha k hk _ rfl w
  have hgl := H.lt g H.rootF
  have hnil := hid fun k hk1 hk2 hN => bt_nil H ha (k := k) hN low (high := high) hk1 hk2
  clear H ha
  obtain ⟨x, y⟩ := a
  go_enter Try.func61, Try.ntmps61
  go_wp2_with fail
  go_loopw [11, 12, 13] (fun fo x' i wr => BetLoop w (x, y) N m low high fo x' i wr) (fun _ _ i _ => 129 - (intOf i).toNat)
  case atStart =>
    refine ⟨0, by omega, .inl rfl, rfl, ?_, rfl, ?_, ?_, ?_, ?_⟩
    · rw [cut_none HP.out, HT.out.root]; rfl
    · exact ((Blk.new_at w #[.int .u64 (x : Int), .int .u64 (y : Int)] 24 w.heap.size rfl).alloc _).alloc _
    · exact (Blk.new_at (w.alloc _) #[.int .u64 0, .int .u64 0, .int .i64 0, .int .i64 0] 51 (w.heap.size + 1) (by simp)).alloc _
    · exact Blk.new_at ((w.alloc _).alloc _) #[.int .u64 0, .int .u64 0, .int .i64 0, .int .i64 0] 51 (w.heap.size + 2) (by simp)
    · exact (((Below.refl _ _).alloc (Nat.le_refl _) _).alloc (by simp) _).alloc (by simp; omega) _
  case round =>
    obtain ⟨k, hk, hkh, rfl, rfl, rfl, hA, hR, hO, hB⟩ := hrel
    cases hN : N (Ad.cut (x, y) k) k with
    | none =>
      have HV := hid ((hnil.out k hkh hk hN).symm)
      have HB := hid hB
      generalize bestT m (x, y) low k = bv at HV hO
      have o0 := hO.cellv (i := 0) rfl
      have o1 := hO.cellv (i := 1) rfl
      have o2 := hO.cellv (i := 2) rfl
      have o3 := hO.cellv (i := 3) rfl
      have r0 := hR.cellv (i := 0) rfl
      have r1 := hR.cellv (i := 1) rfl
      have r2 := hR.cellv (i := 2) rfl
      have r3 := hR.cellv (i := 3) rfl
      have rf0 := hR.frozen 0
      have rf1 := hR.frozen 1
      have rf2 := hR.frozen 2
      have rf3 := hR.frozen 3
      clear hN hA hR hO hB
      unfold ptrV
      go_wp2_with fail
      refine bodyPost_ret (v := rtPair (btR (x, y) bv) bv.isSome) (by simp [results, Try.results61, go_sem, r0, r1, r2, r3, rtPair]) rfl ⟨congrArg (fun u => Ending.returned (rtPair (btR (x, y) u) u.isSome)) HV.out, ?_⟩
      exact (((HB.out.setCell (by simp) _).setCell (by simp) _).setCell (by simp) _).setCell (by simp) _
    | some q =>
      have hnd := (HT.out.node _ _ _ (Kok.of_cut HP.out hk) hN).2
      have n0 := (hB.cell (p := ⟨q, 0, none⟩) hnd.lt).trans (hnd.cellv (i := 0) rfl)
      have n1 := (hB.cell (p := ⟨q, 1, none⟩) hnd.lt).trans (hnd.cellv (i := 1) rfl)
      have hql := hnd.lt
      clear hnd
      by_cases hhi : (k : Int) ≤ high
      · have hqlr := Nat.lt_of_lt_of_le hql hB.size
        have HN := hid hN
        have HA := hid hA
        have HR := hid hR
        have HO := hid hO
        have HB := hid hB
        have a0 := hA.cellv (i := 0) rfl
        have a1 := hA.cellv (i := 1) rfl
        have hstep : bestT m (x, y) low (k + 1) = if low < (k : Int) then (match m (Ad.cut (x, y) k) k with | some h => some (k, h) | none => bestT m (x, y) low k) else bestT m (x, y) low k := rfl
        have cc := hid (c2.out k hk)
        generalize hbv : bestT m (x, y) low k = bv at HO hstep
        clear hN hA hR hO hB hbv
        cases hv : m (Ad.cut (x, y) k) k with
        | none =>
          have HS := hid (show bestT m (x, y) low (k + 1) = bv by rw [hstep, hv]; simp)
          rw [hv] at n0 n1
          clear hstep hv
          simp only [Option.isSome_none, Option.getD_none] at n0 n1
          have HSB := hid HS.out
          by_cases e128 : k = 128
          · have e128' : ((k : Int) == 128) = true := by simp [e128]
            have HV := hid (show bv = bestT m (x, y) low (btK high) by rw [show btK high = k + 1 from by unfold btK; omega]; exact HS.out.symm)
            clear e128
            have o0 := HO.out.cellv (i := 0) rfl
            have o1 := HO.out.cellv (i := 1) rfl
            have o2 := HO.out.cellv (i := 2) rfl
            have o3 := HO.out.cellv (i := 3) rfl
            have r0 := HR.out.cellv (i := 0) rfl
            have r1 := HR.out.cellv (i := 1) rfl
            have r2 := HR.out.cellv (i := 2) rfl
            have r3 := HR.out.cellv (i := 3) rfl
            have rf0 := HR.out.frozen 0
            have rf1 := HR.out.frozen 1
            have rf2 := HR.out.frozen 2
            have rf3 := HR.out.frozen 3
            have HBE := hid HB.out
            clear HA HR HO HB a0 a1 HS
            unfold ptrV
            go_wp2_with fail
            refine bodyPost_ret (v := rtPair (btR (x, y) (bv)) (Option.isSome (bv))) (by simp [results, Try.results61, go_sem, r0, r1, r2, r3, rtPair]) rfl ⟨congrArg (fun u => Ending.returned (rtPair (btR (x, y) u) u.isSome)) HV.out, ?_⟩
            exact (((HBE.out.setCell (by simp) _).setCell (by simp) _).setCell (by simp) _).setCell (by simp) _
          · have e128' : ((k : Int) == 128) = false := beq_eq_false_iff_ne.2 (by omega)
            have hkid := HT.out.kid HP.out (show k < 128 by omega) HN.out
            have hkid := (HB.out.cell (p := ⟨q, 2 + Ad.bit (x, y) k, none⟩) hql).trans hkid
            have hbl := Ad.bit_le (x, y) k
            have cb := hid (c1.out k)
            generalize Ad.bit (x, y) k = bit at hkid cb hbl
            have hc0 : (0 : Int) ≤ (bit : Int) := by omega
            have hc1 : (bit : Int) < 2 := by omega
            have b0 := HA.out.cellv (i := 0) rfl
            have b1 := HA.out.cellv (i := 1) rfl
            clear a0 a1
            cases hN2 : N (Ad.cut (x, y) (k + 1)) (k + 1)
            all_goals
              rw [hN2] at hkid
              have HN2 := hid hN2
              clear hN2
              unfold ptrV at hkid
              unfold ptrV
              go_wp2_with fail
              refine wp_region_later (fun w' => w'.cell? ⟨w.heap.size, 0, none⟩ = some (.int .u64 (x : Int)) ∧ w'.cell? ⟨w.heap.size, 1, none⟩ = some (.int .u64 (y : Int)) ∧ w'.cell? ⟨q, 2 + bit, none⟩ = some _)
                (fun x => ⟨x.cell b0, x.cell b1, x.cell hkid⟩) (by kernel_rfl) (by kernel_rfl) (fun HS => ?_)
              repeat (go_big_quiet_step (with_reducible exact Later.calls _ (cb.out _)))
              refine wpQuiet_nil ?_
              rintro w6 ⟨⟨_, hb6⟩, rfl⟩
              have HA6 := hid (HA.out.below' hb6)
              have HR6 := hid (HR.out.below' hb6)
              have HO6 := hid (HO.out.below' hb6)
              have HB6 := hid (held_next HB.out hb6)
              clear b0 b1 hkid hb6
              go_wp2_with fail
              go_roundw
              case rel => exact ⟨k + 1, by omega, .inr (by omega), by go_num, by rw [HN2.out]; rfl, by (rw [HSB.out]; try rfl), HA6.out, HR6.out, by rw [HSB.out]; exact HO6.out, HB6.out⟩
              case measure => simp [intOf]; omega
        | some h =>
          rw [hv] at n0 n1
          simp only [Option.isSome_some, Option.getD_some] at n0 n1
          by_cases hlow : low < (k : Int)
          · have HS := hid (show bestT m (x, y) low (k + 1) = some (k, h) by rw [hstep, hv, if_pos hlow])
            have hlo : decide (low < (k : Int)) = true := decide_eq_true hlow
            clear hstep hv
            generalize hcu : Ad.cut (x, y) k = cu at cc
            have HCU := hid hcu
            clear hcu
            obtain ⟨cx, cy⟩ := cu
            unfold ptrV
            go_wp2_with fail
            have hB0 : Below wr.heap.size wr wr.drew := (Below.refl _ _).drew
            go_region_held3 (fun w' => w'.cell? ⟨w.heap.size, 0, none⟩ = some (.int .u64 (x : Int)) ∧ w'.cell? ⟨w.heap.size, 1, none⟩ = some (.int .u64 (y : Int)) ∧ w'.cell? ⟨q, 1, none⟩ = some (.int .i64 h)) (first | go_keep | (refine ⟨?_, ?_, ?_⟩ <;> ((repeat (refine (cell_set_ne _ _ _ _ (by simp; omega)).trans ?_)); assumption)))
              (first
                | ((with_reducible refine (cc.out _).mono ?_); rintro _ w3 ⟨rfl, hb3⟩; have hB3 : Below wr.heap.size wr w3 := held_next hB0 hb3; have a0 := (HA.out.below' hB3).cellv (i := 0) rfl; have a1 := (HA.out.below' hB3).cellv (i := 1) rfl; have n1 := (hB3.cell (p := ⟨q, 1, none⟩) hqlr).trans n1
                   have o0 := (HO.out.below' hB3).cellv (i := 0) rfl; have o1 := (HO.out.below' hB3).cellv (i := 1) rfl; have o2 := (HO.out.below' hB3).cellv (i := 2) rfl; have o3 := (HO.out.below' hB3).cellv (i := 3) rfl
                   have p0 := (HO.out.below' hB3).frozen 0; have p1 := (HO.out.below' hB3).frozen 1; have p2 := (HO.out.below' hB3).frozen 2; have p3 := (HO.out.below' hB3).frozen 3; clear hb3))
            have HO5 := hid (((((HO.out.below' hB3).set 0 (.int .u64 (cx : Int))).set 1 (.int .u64 (cy : Int))).set 2 (.int .i64 (k : Int))).set 3 (.int .i64 h))
            have HA5 := hid (((((HA.out.below' hB3).set_ne (a := ⟨w.heap.size + 1 + 1, 0, none⟩) (by simp; omega) (.int .u64 (cx : Int))).set_ne (a := ⟨w.heap.size + 1 + 1, 1, none⟩) (by simp; omega) (.int .u64 (cy : Int))).set_ne (a := ⟨w.heap.size + 1 + 1, 2, none⟩) (by simp; omega) (.int .i64 (k : Int))).set_ne (a := ⟨w.heap.size + 1 + 1, 3, none⟩) (by simp; omega) (.int .i64 h))
            have HR5 := hid (((((HR.out.below' hB3).set_ne (a := ⟨w.heap.size + 1 + 1, 0, none⟩) (by simp) (.int .u64 (cx : Int))).set_ne (a := ⟨w.heap.size + 1 + 1, 1, none⟩) (by simp) (.int .u64 (cy : Int))).set_ne (a := ⟨w.heap.size + 1 + 1, 2, none⟩) (by simp) (.int .i64 (k : Int))).set_ne (a := ⟨w.heap.size + 1 + 1, 3, none⟩) (by simp) (.int .i64 h))
            have HB5 := hid ((((((HB.out.trans (hB3.mono HB.out.size)).setCell (p := ⟨w.heap.size + 1 + 1, 0, none⟩) (by simp; omega) (.int .u64 (cx : Int))).setCell (p := ⟨w.heap.size + 1 + 1, 1, none⟩) (by simp; omega) (.int .u64 (cy : Int))).setCell (p := ⟨w.heap.size + 1 + 1, 2, none⟩) (by simp; omega) (.int .i64 (k : Int))).setCell (p := ⟨w.heap.size + 1 + 1, 3, none⟩) (by simp; omega) (.int .i64 h)))
            clear HA HR HO HB hB3 hB0 o0 o1 o2 o3 p0 p1 p2 p3
            generalize (((w3.setCell ⟨w.heap.size + 1 + 1, 0, none⟩ (.int .u64 (cx : Int))).setCell ⟨w.heap.size + 1 + 1, 1, none⟩ (.int .u64 (cy : Int))).setCell ⟨w.heap.size + 1 + 1, 2, none⟩ (.int .i64 (k : Int))).setCell ⟨w.heap.size + 1 + 1, 3, none⟩ (.int .i64 h) = w5 at HO5 HA5 HR5 HB5 ⊢
            have HSB := hid HS.out
            have hO5 : Blk w5 (w.heap.size + 2) 51 (rtEn (btR (x, y) (some (k, h)))) := by
              have e := HO5.out
              show Blk w5 _ _ (rtEn ((Ad.cut (x, y) k, (k : Int)), h))
              rw [HCU.out]; exact e
            have HA := hid HA5.out
            have HR := hid HR5.out
            have HO := hid hO5
            have HB := hid HB5.out
            clear HA5 HR5 HO5 HB5 hO5
            by_cases e128 : k = 128
            · have e128' : ((k : Int) == 128) = true := by simp [e128]
              have HV := hid (show some (k, h) = bestT m (x, y) low (btK high) by rw [show btK high = k + 1 from by unfold btK; omega]; exact HS.out.symm)
              clear e128
              have o0 := HO.out.cellv (i := 0) rfl
              have o1 := HO.out.cellv (i := 1) rfl
              have o2 := HO.out.cellv (i := 2) rfl
              have o3 := HO.out.cellv (i := 3) rfl
              have r0 := HR.out.cellv (i := 0) rfl
              have r1 := HR.out.cellv (i := 1) rfl
              have r2 := HR.out.cellv (i := 2) rfl
              have r3 := HR.out.cellv (i := 3) rfl
              have rf0 := HR.out.frozen 0
              have rf1 := HR.out.frozen 1
              have rf2 := HR.out.frozen 2
              have rf3 := HR.out.frozen 3
              have HBE := hid HB.out
              clear HA HR HO HB a0 a1 HS
              go_wp2_with fail
              refine bodyPost_ret (v := rtPair (btR (x, y) (some (k, h))) (Option.isSome (some (k, h)))) (by simp [results, Try.results61, go_sem, r0, r1, r2, r3, rtPair, btR, HCU.out]) rfl ⟨congrArg (fun u => Ending.returned (rtPair (btR (x, y) u) u.isSome)) HV.out, ?_⟩
              exact (((HBE.out.setCell (by simp) _).setCell (by simp) _).setCell (by simp) _).setCell (by simp) _
            · have e128' : ((k : Int) == 128) = false := beq_eq_false_iff_ne.2 (by omega)
              have hkid := HT.out.kid HP.out (show k < 128 by omega) HN.out
              have hkid := (HB.out.cell (p := ⟨q, 2 + Ad.bit (x, y) k, none⟩) hql).trans hkid
              have hbl := Ad.bit_le (x, y) k
              have cb := hid (c1.out k)
              generalize Ad.bit (x, y) k = bit at hkid cb hbl
              have hc0 : (0 : Int) ≤ (bit : Int) := by omega
              have hc1 : (bit : Int) < 2 := by omega
              have b0 := HA.out.cellv (i := 0) rfl
              have b1 := HA.out.cellv (i := 1) rfl
              clear a0 a1
              cases hN2 : N (Ad.cut (x, y) (k + 1)) (k + 1)
              all_goals
                rw [hN2] at hkid
                have HN2 := hid hN2
                clear hN2
                unfold ptrV at hkid
                go_wp2_with fail
                refine wp_region_later (fun w' => w'.cell? ⟨w.heap.size, 0, none⟩ = some (.int .u64 (x : Int)) ∧ w'.cell? ⟨w.heap.size, 1, none⟩ = some (.int .u64 (y : Int)) ∧ w'.cell? ⟨q, 2 + bit, none⟩ = some _)
                  (fun x => ⟨x.cell b0, x.cell b1, x.cell hkid⟩) (by kernel_rfl) (by kernel_rfl) (fun HS => ?_)
                repeat (go_big_quiet_step (with_reducible exact Later.calls _ (cb.out _)))
                refine wpQuiet_nil ?_
                rintro w6 ⟨⟨_, hb6⟩, rfl⟩
                have HA6 := hid (HA.out.below' hb6)
                have HR6 := hid (HR.out.below' hb6)
                have HO6 := hid (HO.out.below' hb6)
                have HB6 := hid (held_next HB.out hb6)
                clear b0 b1 hkid hb6
                go_wp2_with fail
                go_roundw
                case rel => exact ⟨k + 1, by omega, .inr (by omega), by go_num, by rw [HN2.out]; rfl, by (rw [HSB.out]; try rfl), HA6.out, HR6.out, by rw [HSB.out]; exact HO6.out, HB6.out⟩
                case measure => simp [intOf]; omega
          · have HS := hid (show bestT m (x, y) low (k + 1) = bv by rw [hstep, if_neg hlow])
            have hlo : decide (low < (k : Int)) = false := decide_eq_false hlow
            clear hstep hv
            have HSB := hid HS.out
            by_cases e128 : k = 128
            · have e128' : ((k : Int) == 128) = true := by simp [e128]
              have HV := hid (show bv = bestT m (x, y) low (btK high) by rw [show btK high = k + 1 from by unfold btK; omega]; exact HS.out.symm)
              clear e128
              have o0 := HO.out.cellv (i := 0) rfl
              have o1 := HO.out.cellv (i := 1) rfl
              have o2 := HO.out.cellv (i := 2) rfl
              have o3 := HO.out.cellv (i := 3) rfl
              have r0 := HR.out.cellv (i := 0) rfl
              have r1 := HR.out.cellv (i := 1) rfl
              have r2 := HR.out.cellv (i := 2) rfl
              have r3 := HR.out.cellv (i := 3) rfl
              have rf0 := HR.out.frozen 0
              have rf1 := HR.out.frozen 1
              have rf2 := HR.out.frozen 2
              have rf3 := HR.out.frozen 3
              have HBE := hid HB.out
              clear HA HR HO HB a0 a1 HS
              unfold ptrV
              go_wp2_with fail
              refine bodyPost_ret (v := rtPair (btR (x, y) (bv)) (Option.isSome (bv))) (by simp [results, Try.results61, go_sem, r0, r1, r2, r3, rtPair]) rfl ⟨congrArg (fun u => Ending.returned (rtPair (btR (x, y) u) u.isSome)) HV.out, ?_⟩
              exact (((HBE.out.setCell (by simp) _).setCell (by simp) _).setCell (by simp) _).setCell (by simp) _
            · have e128' : ((k : Int) == 128) = false := beq_eq_false_iff_ne.2 (by omega)
              have hkid := HT.out.kid HP.out (show k < 128 by omega) HN.out
              have hkid := (HB.out.cell (p := ⟨q, 2 + Ad.bit (x, y) k, none⟩) hql).trans hkid
              have hbl := Ad.bit_le (x, y) k
              have cb := hid (c1.out k)
              generalize Ad.bit (x, y) k = bit at hkid cb hbl
              have hc0 : (0 : Int) ≤ (bit : Int) := by omega
              have hc1 : (bit : Int) < 2 := by omega
              have b0 := HA.out.cellv (i := 0) rfl
              have b1 := HA.out.cellv (i := 1) rfl
              clear a0 a1
              cases hN2 : N (Ad.cut (x, y) (k + 1)) (k + 1)
              all_goals
                rw [hN2] at hkid
                have HN2 := hid hN2
                clear hN2
                unfold ptrV at hkid
                unfold ptrV
                go_wp2_with fail
                refine wp_region_later (fun w' => w'.cell? ⟨w.heap.size, 0, none⟩ = some (.int .u64 (x : Int)) ∧ w'.cell? ⟨w.heap.size, 1, none⟩ = some (.int .u64 (y : Int)) ∧ w'.cell? ⟨q, 2 + bit, none⟩ = some _)
                  (fun x => ⟨x.cell b0, x.cell b1, x.cell hkid⟩) (by kernel_rfl) (by kernel_rfl) (fun HS => ?_)
                repeat (go_big_quiet_step (with_reducible exact Later.calls _ (cb.out _)))
                refine wpQuiet_nil ?_
                rintro w6 ⟨⟨_, hb6⟩, rfl⟩
                have HA6 := hid (HA.out.below' hb6)
                have HR6 := hid (HR.out.below' hb6)
                have HO6 := hid (HO.out.below' hb6)
                have HB6 := hid (held_next HB.out hb6)
                clear b0 b1 hkid hb6
                go_wp2_with fail
                go_roundw
                case rel => exact ⟨k + 1, by omega, .inr (by omega), by go_num, by rw [HN2.out]; rfl, by (rw [HSB.out]; try rfl), HA6.out, HR6.out, by rw [HSB.out]; exact HO6.out, HB6.out⟩
                case measure => simp [intOf]; omega
      · have HV := hid (show bestT m (x, y) low k = bestT m (x, y) low (btK high) by
          rcases hkh with rfl | hkh
          · rw [show btK high = 0 from by unfold btK; omega]
          · rw [show btK high = k from by unfold btK; omega])
        have HB := hid hB
        generalize bestT m (x, y) low k = bv at HV hO
        have o0 := hO.cellv (i := 0) rfl
        have o1 := hO.cellv (i := 1) rfl
        have o2 := hO.cellv (i := 2) rfl
        have o3 := hO.cellv (i := 3) rfl
        have r0 := hR.cellv (i := 0) rfl
        have r1 := hR.cellv (i := 1) rfl
        have r2 := hR.cellv (i := 2) rfl
        have r3 := hR.cellv (i := 3) rfl
        have rf0 := hR.frozen 0
        have rf1 := hR.frozen 1
        have rf2 := hR.frozen 2
        have rf3 := hR.frozen 3
        clear hN hA hR hO hB n0 n1
        unfold ptrV
        go_wp2_with fail
        refine bodyPost_ret (v := rtPair (btR (x, y) bv) bv.isSome) (by simp [results, Try.results61, go_sem, r0, r1, r2, r3, rtPair]) rfl ⟨congrArg (fun u => Ending.returned (rtPair (btR (x, y) u) u.isSome)) HV.out, ?_⟩
        exact (((HB.out.setCell (by simp) _).setCell (by simp) _).setCell (by simp) _).setCell (by simp) _

theorem trie_longest {w : World} {g : Nat} {F : Nat → Prop} {N : Ad → Nat → Option Nat} {m : Ad → Nat → Option Int} {n : Int} (H : TrieN w g F N m n) (a : Ad) (ha : a.ok) :
    Calls Try.prog 30 #[.pointer (some ⟨g, 0, none⟩), .agg #[.int .u64 (a.1 : Int), .int .u64 (a.2 : Int)]] w (BetPost w a (bestT m a (-1) 129)) := by
  have c1 := hid (trie_between (H.below (((Below.refl w.heap.size w).alloc (Nat.le_refl _) (.cells #[.int .u64 (a.1 : Int), .int .u64 (a.2 : Int)] 24)).alloc (by simp) (.cells #[.int .u64 0, .int .u64 0, .int .i64 0, .int .i64 0] 51))) a ha (-1) 128)
  rw [show btK 128 = 129 from by decide] at c1
  generalize bestT m a (-1) 129 = v at c1 ⊢
  obtain ⟨r, hr⟩ : ∃ r, btR a v = r := ⟨_, rfl⟩
  obtain ⟨f, hf⟩ : ∃ f, v.isSome = f := ⟨_, rfl⟩
  unfold BetPost at c1 ⊢
  rw [hr, hf] at c1 ⊢
  clear hr hf H ha
  obtain ⟨x, y⟩ := a
  obtain ⟨⟨⟨rx, ry⟩, ri⟩, rh⟩ := r
  go_enter Try.func30, Try.ntmps30
  go_wp2_with fail
  refine c1.out.mono ?_
  rintro _ w1 ⟨rfl, hb1⟩
  have hB := (Below.trans (b := _) (((Below.refl w.heap.size w).alloc (Nat.le_refl _) (.cells #[.int .u64 (x : Int), .int .u64 (y : Int)] 24)).alloc (by simp) (.cells #[.int .u64 0, .int .u64 0, .int .i64 0, .int .i64 0] 51)) (hb1.mono (by simp; omega)))
  have BR := (Blk.new_at (w.alloc (.cells #[.int .u64 (x : Int), .int .u64 (y : Int)] 24)) #[.int .u64 0, .int .u64 0, .int .i64 0, .int .i64 0] 51 (w.heap.size + 1) (by simp)).below' hb1
  have HB := hid hB
  have r0 := BR.cellv (i := 0) rfl
  have r1 := BR.cellv (i := 1) rfl
  have r2 := BR.cellv (i := 2) rfl
  have r3 := BR.cellv (i := 3) rfl
  have f0 := BR.frozen 0
  have f1 := BR.frozen 1
  have f2 := BR.frozen 2
  have f3 := BR.frozen 3
  clear hb1 hB BR
  unfold rtPair
  go_wp2_with fail
  refine bodyPost_ret (v := .tuple #[.agg #[.int .u64 (rx : Int), .int .u64 (ry : Int), .int .i64 ri, .int .i64 rh], .bool f]) (by simp [results, Try.results30, go_sem, r0, r1, r2, r3]) rfl ⟨rfl, ?_⟩
  exact (((HB.out.setCell (by simp) _).setCell (by simp) _).setCell (by simp) _).setCell (by simp) _

/-- What Cover tells: nothing of what is no prefix. -/
def coverT (m : Ad → Nat → Option Int) (p : Pf) (low high : Int) : Option (Nat × Int) := if p.right then bestT m p.1 low (btK (min high p.2)) else none
theorem trie_cover {w : World} {g : Nat} {F : Nat → Prop} {N : Ad → Nat → Option Nat} {m : Ad → Nat → Option Int} {n : Int} (H : TrieN w g F N m n) (p : Pf) (hp : p.1.ok) (low high : Int) :
    Calls Try.prog 27 #[.pointer (some ⟨g, 0, none⟩), .agg #[.int .u64 (p.1.1 : Int), .int .u64 (p.1.2 : Int), .int .i64 p.2], .int .i64 low, .int .i64 high] w (BetPost w p.1 (coverT m p low high)) := by
  obtain ⟨b, hb⟩ : ∃ b : Bool, b = decide p.right := ⟨_, rfl⟩
  have c0 := hid fun w => addr_right p.1 hp p.2 b hb w
  by_cases hr : p.right
  · obtain rfl : b = true := by rw [hb]; exact decide_eq_true hr
    have c1 := hid fun (w1 : World) (h1 : Below w.heap.size w w1) => trie_between (H.below h1) p.1 hp low (min high p.2)
    have hmin := min_at .i64 high p.2 (min high p.2) (by split <;> omega)
    unfold coverT
    rw [if_pos hr]
    generalize min high p.2 = hi at c1 hmin ⊢
    generalize bestT m p.1 low (btK hi) = v at c1 ⊢
    obtain ⟨r, hr⟩ : ∃ r, btR p.1 v = r := ⟨_, rfl⟩
    obtain ⟨f, hf⟩ : ∃ f, v.isSome = f := ⟨_, rfl⟩
    unfold BetPost at c1 ⊢
    rw [hr, hf] at c1 ⊢
    clear hr hf H hp hb
    obtain ⟨⟨x, y⟩, i⟩ := p
    obtain ⟨⟨⟨rx, ry⟩, ri⟩, rh⟩ := r
    go_enter Try.func27, Try.ntmps27
    go_wp2_with fail
    refine (c0.out _).mono ?_
    rintro _ w1 ⟨rfl, hb1⟩
    have hB := (Below.trans (b := _) (((Below.refl w.heap.size w).alloc (Nat.le_refl _) (.cells #[.int .u64 (x : Int), .int .u64 (y : Int), .int .i64 i] 26)).alloc (by simp) (.cells #[.int .u64 0, .int .u64 0, .int .i64 0, .int .i64 0] 51)) (hb1.mono (by simp; omega)))
    have BP := ((Blk.new_at w #[.int .u64 (x : Int), .int .u64 (y : Int), .int .i64 i] 26 w.heap.size rfl).alloc (.cells #[.int .u64 0, .int .u64 0, .int .i64 0, .int .i64 0] 51)).below' hb1
    have BR := hid ((Blk.new_at (w.alloc (.cells #[.int .u64 (x : Int), .int .u64 (y : Int), .int .i64 i] 26)) #[.int .u64 0, .int .u64 0, .int .i64 0, .int .i64 0] 51 (w.heap.size + 1) (by simp)).below' hb1)
    have s0 := BP.cellv (i := 0) rfl
    have s1 := BP.cellv (i := 1) rfl
    have s2 := BP.cellv (i := 2) rfl
    have HB := hid hB
    clear hb1 hB BP
    go_wp2_with fail
    refine (c1.out _ HB.out).mono ?_
    rintro _ w2 ⟨rfl, hb2⟩
    have BR2 := BR.out.below' hb2
    have HB2 := hid (held_next HB.out hb2)
    have r0 := BR2.cellv (i := 0) rfl
    have r1 := BR2.cellv (i := 1) rfl
    have r2 := BR2.cellv (i := 2) rfl
    have r3 := BR2.cellv (i := 3) rfl
    have f0 := BR2.frozen 0
    have f1 := BR2.frozen 1
    have f2 := BR2.frozen 2
    have f3 := BR2.frozen 3
    clear hb2 HB BR2 BR s0 s1 s2
    unfold rtPair
    go_wp2_with fail
    refine bodyPost_ret (v := .tuple #[.agg #[.int .u64 (rx : Int), .int .u64 (ry : Int), .int .i64 ri, .int .i64 rh], .bool f]) (by simp [results, Try.results27, go_sem, r0, r1, r2, r3]) rfl ⟨rfl, ?_⟩
    exact (((HB2.out.setCell (by simp) _).setCell (by simp) _).setCell (by simp) _).setCell (by simp) _
  · obtain rfl : b = false := by rw [hb]; exact decide_eq_false hr
    have e : coverT m p low high = none := if_neg hr
    rw [e]
    clear e hb hr H hp
    obtain ⟨⟨x, y⟩, i⟩ := p
    unfold BetPost
    go_enter Try.func27, Try.ntmps27
    go_wp2_with fail
    refine (c0.out _).mono ?_
    rintro _ w1 ⟨rfl, hb1⟩
    have hB := (Below.trans (b := _) (((Below.refl w.heap.size w).alloc (Nat.le_refl _) (.cells #[.int .u64 (x : Int), .int .u64 (y : Int), .int .i64 i] 26)).alloc (by simp) (.cells #[.int .u64 0, .int .u64 0, .int .i64 0, .int .i64 0] 51)) (hb1.mono (by simp; omega)))
    have BR := (Blk.new_at (w.alloc (.cells #[.int .u64 (x : Int), .int .u64 (y : Int), .int .i64 i] 26)) #[.int .u64 0, .int .u64 0, .int .i64 0, .int .i64 0] 51 (w.heap.size + 1) (by simp)).below' hb1
    have HB := hid hB
    have r0 := BR.cellv (i := 0) rfl
    have r1 := BR.cellv (i := 1) rfl
    have r2 := BR.cellv (i := 2) rfl
    have r3 := BR.cellv (i := 3) rfl
    have f0 := BR.frozen 0
    have f1 := BR.frozen 1
    have f2 := BR.frozen 2
    have f3 := BR.frozen 3
    clear hb1 hB BR
    go_wp2_with fail
    refine bodyPost_ret (v := .tuple #[.agg #[.int .u64 0, .int .u64 0, .int .i64 0, .int .i64 0], .bool false]) (by simp [results, Try.results27, go_sem, r0, r1, r2, r3]) rfl ⟨rfl, ?_⟩
    exact (((HB.out.setCell (by simp) _).setCell (by simp) _).setCell (by simp) _).setCell (by simp) _

/-- The same with the answer written out. -/
theorem BetPost.out {w w' : World} {a : Ad} {v : Option (Nat × Int)} {e : Ending} {r : Rt} {f : Bool} (h : BetPost w a v e w') (hr : btR a v = r) (hf : v.isSome = f) :
    e = .returned (.tuple #[.agg #[.int .u64 (r.1.1.1 : Int), .int .u64 (r.1.1.2 : Int), .int .i64 r.1.2, .int .i64 r.2], .bool f]) ∧ Below w.heap.size w w' := by
  subst hr hf; exact h
theorem trie_longest' {w : World} {g : Nat} {F : Nat → Prop} {N : Ad → Nat → Option Nat} {m : Ad → Nat → Option Int} {n : Int} (H : TrieN w g F N m n) (a : Ad) (ha : a.ok) (v : Option (Nat × Int)) (hv : bestT m a (-1) 129 = v) (r : Rt) (f : Bool) (hr : btR a v = r) (hf : v.isSome = f) :
    Calls Try.prog 30 #[.pointer (some ⟨g, 0, none⟩), .agg #[.int .u64 (a.1 : Int), .int .u64 (a.2 : Int)]] w fun e w' => e = .returned (.tuple #[.agg #[.int .u64 (r.1.1.1 : Int), .int .u64 (r.1.1.2 : Int), .int .i64 r.1.2, .int .i64 r.2], .bool f]) ∧ Below w.heap.size w w' :=
  (trie_longest H a ha).mono fun _ _ h => BetPost.out h (by rw [hv]; exact hr) (by rw [hv]; exact hf)
theorem trie_cover' {w : World} {g : Nat} {F : Nat → Prop} {N : Ad → Nat → Option Nat} {m : Ad → Nat → Option Int} {n : Int} (H : TrieN w g F N m n) (p : Pf) (hp : p.1.ok) (low high : Int) (v : Option (Nat × Int)) (hv : coverT m p low high = v) (r : Rt) (f : Bool) (hr : btR p.1 v = r) (hf : v.isSome = f) :
    Calls Try.prog 27 #[.pointer (some ⟨g, 0, none⟩), .agg #[.int .u64 (p.1.1 : Int), .int .u64 (p.1.2 : Int), .int .i64 p.2], .int .i64 low, .int .i64 high] w fun e w' => e = .returned (.tuple #[.agg #[.int .u64 (r.1.1.1 : Int), .int .u64 (r.1.1.2 : Int), .int .i64 r.1.2, .int .i64 r.2], .bool f]) ∧ Below w.heap.size w w' :=
  (trie_cover H p hp low high).mono fun _ _ h => BetPost.out h (by rw [hv]; exact hr) (by rw [hv]; exact hf)

end Go.Proofs.Ytjhgmjfjlndomaa
