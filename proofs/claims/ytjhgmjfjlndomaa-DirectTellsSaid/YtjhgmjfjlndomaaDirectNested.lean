/-
  The walk of the law DirectNested, and of the example of package direct: for all inputs it returns true and leaves memory alone. No condition.
-/
import Derived.Test.YtjhgmjfjlndomaaDirect
import Derived.Test.YtjhgmjfjlndomaaTrieNested
namespace Go.Proofs.Ytjhgmjfjlndomaa
open Go.RowKit
set_option linter.unusedVariables false
set_option linter.unusedSimpArgs false
set_option maxRecDepth 100000
attribute [local go_sem high] eq_ad eq_pf eq_rt

theorem and_15 (x : Int) : bits .and .i64 x 15 = x % 16 := by
  unfold bits
  have h1 : ((BitVec.ofInt IntKind.i64.bits x) &&& (BitVec.ofInt IntKind.i64.bits 15)).toNat = (BitVec.ofInt 64 x).toNat % 2 ^ 4 := by
    show ((BitVec.ofInt 64 x) &&& (BitVec.ofInt 64 15)).toNat = _
    rw [BitVec.toNat_and, show (BitVec.ofInt 64 15).toNat = 2 ^ 4 - 1 from by decide, Nat.and_two_pow_sub_one_eq_mod]
  show IntKind.i64.wrap ((((BitVec.ofInt IntKind.i64.bits x) &&& (BitVec.ofInt IntKind.i64.bits 15)).toNat : Nat) : Int) = _
  rw [h1, BitVec.toNat_ofInt, IntKind.wrap_i64]
  omega
theorem com_same (a : Ad) : a.com a = 128 := Ad.com_eq ⟨Nat.le_refl _, fun _ _ => rfl, fun h => by omega⟩
theorem bI_lt {m : Ad → Nat → Option Int} {a : Ad} {K : Nat} : bI (bestT m a (-1) K) < (K : Int) := by
  cases h : bestT m a (-1) K with
  | none => show (-1 : Int) < K; omega
  | some x => obtain ⟨i, v⟩ := x; have := (bestT_lt h).1; show (i : Int) < K; omega
theorem nest_add {a : Ad} (ha : a.ok) {th : List Bool} (hl : th.length = 129) {n : Nat} (hn : n ≤ 128) : ∀ K, K ≤ 129 →
    bestT (nestM a (th.set n true)) a (-1) K = if n < K ∧ bI (bestT (nestM a th) a (-1) K) < (n : Int) then some (n, (n : Int)) else bestT (nestM a th) a (-1) K
  | 0, _ => by rw [if_neg (by omega)]; rfl
  | K + 1, hK => by
    have ih := nest_add ha hl hn K (by omega)
    have e1 := nest_step ha ha (th := th.set n true) (k := K) (by rw [com_same]; omega)
    have e2 := nest_step ha ha (th := th) (k := K) (by rw [com_same]; omega)
    rw [getD_set_b th n true (by omega)] at e1
    rw [e1, e2]
    have hb := bI_lt (m := nestM a th) (a := a) (K := K)
    by_cases h : K = n
    · subst h
      rw [if_pos rfl]
      simp only [if_true]
      by_cases h2 : th.getD K false = true
      · rw [if_pos h2]; split <;> rfl
      · rw [if_neg h2, if_pos ⟨by omega, hb⟩]
    · rw [if_neg h]
      by_cases h2 : th.getD K false = true
      · rw [if_pos h2, if_pos h2, if_neg]
        rintro ⟨h3, h4⟩
        have : (K : Int) < n := h4
        omega
      · rw [if_neg h2, if_neg h2, ih]
        by_cases h3 : n < K ∧ bI (bestT (nestM a th) a (-1) K) < (n : Int)
        · rw [if_pos h3, if_pos ⟨by omega, h3.2⟩]
        · rw [if_neg h3, if_neg (fun h4 => h3 ⟨by omega, h4.2⟩)]
theorem bestT_congr {m : Ad → Nat → Option Int} {a b : Ad} {low : Int} : ∀ {K : Nat}, (∀ k, k < K → a.cut k = b.cut k) → bestT m a low K = bestT m b low K
  | 0, _ => rfl
  | K + 1, h => by
    rw [bestT, bestT, h K (by omega), bestT_congr (K := K) fun k hk => h k (by omega)]
theorem ofM_app (rs : List Rt) (r : Rt) : ofM (rs ++ [r]) = putM (ofM rs) r.1 r.2 := by unfold ofM; rw [List.foldl_append]; rfl
/-- The place of an address. -/
theorem key_place {a : Ad} (ha : a.ok) {b : Nat} (hb : b ≤ 8) : a.1 / 2 ^ (64 - b) < 2 ^ b ∧ keyAt (0, 0) b (a.1 / 2 ^ (64 - b)) = a.cut b := by
  have h1 : a.1 < 2 ^ b * 2 ^ (64 - b) := by rw [← Nat.pow_add, show b + (64 - b) = 64 by omega]; exact ha.1
  have hlt : a.1 / 2 ^ (64 - b) < 2 ^ b := by rw [Nat.div_lt_iff_lt_mul (Nat.pow_pos (by decide))]; exact h1
  refine ⟨hlt, ?_⟩
  have hk := key_ok (a := (0, 0)) (m := 0) (n := b) (i := a.1 / 2 ^ (64 - b)) ⟨by decide, by decide⟩ (by decide) (Nat.zero_le _) (by omega) hlt
  have hnum := key_num (a := (0, 0)) (m := 0) (n := b) (i := a.1 / 2 ^ (64 - b)) ⟨by decide, by decide⟩ (by decide) (Nat.zero_le _) (by omega) hlt
  apply Ad.num_inj hk (Ad.cut_ok ha b)
  rw [hnum, Ad.cut_num ha]
  unfold cutN
  have e : a.num / 2 ^ (128 - b) = a.1 / 2 ^ (64 - b) := by
    rw [show 128 - b = 64 + (64 - b) by omega, Nat.pow_add, ← Nat.div_div_eq_div_mul]
    congr 1
    have := ha.2
    unfold Ad.num
    omega
  rw [e]
  show 0 * 2 ^ 64 + 0 + _ = _
  omega
theorem fill_at (l : List Rt) {a : Ad} (ha : a.ok) {b : Nat} (hb : b ≤ 8) : (fillL l b)[a.1 / 2 ^ (64 - b)]? = some ((bestT (ofM l) a (-1) (b + 1)).map (·.2)) := by
  obtain ⟨h1, h2⟩ := key_place ha hb
  unfold fillL
  rw [List.getElem?_map, keysOf_get _ _ _ _ (by simpa using h1), h2]
  show some (atV (ofM l) (a.cut b, (b : Int)) (-1)) = _
  unfold atV
  show some ((bestT (ofM l) (a.cut b) (-1) (btK (b : Int))).map (·.2)) = _
  rw [show btK (b : Int) = b + 1 by unfold btK; omega, bestT_congr (b := a) fun k hk => by rw [Ad.cut_cut ha b k (by omega) (by omega), Nat.min_eq_right (by omega)]]
theorem ofM_nil (a : Ad) (low : Int) : ∀ K, bestT (ofM []) a low K = none
  | 0 => rfl
  | K + 1 => by rw [bestT, ofM_nil a low K]; show (if _ then none else none) = _; split <;> rfl

theorem direct_alive (w : World) : Calls Try.prog 47 #[] w fun e w' => e = .returned (.bool true) ∧ Below w.heap.size w w' := by
  have ok0 : Ad.ok (0, 0) := ⟨by decide, by decide⟩
  have c1 := hid (show Calls Try.prog 48 #[.int .i64 3] w (NewPost w 3) from direct_new w 3)
  have c2 := hid fun (w1 : World) (g q : Nat) ps (h : DirA w1 g q 3 ps) v (hR : Rd rtEn 4 w1 v [(((0, 0), 0), 9)]) => direct_fill h v _ hR (fun r hr => by simp at hr; subst hr; exact ok0) (by decide)
  have hbest : bestT (ofM [(((0, 0), 0), 9)]) (0, 0) (-1) 4 = some (0, 9) := by
    have e : ofM [(((0, 0), 0), 9)] = updN (fun _ _ => none) (0, 0) 0 (some 9) := by
      show putM (fun _ _ => none) ((0, 0), 0) 9 = _
      unfold putM
      rw [if_pos (by decide)]; rfl
    rw [e, bestT_none (k := 1) (by omega) (fun j h1 h2 => updN_ne _ _ (by omega))]
    rfl
  have hat := fill_at [(((0, 0), 0), 9)] ok0 (b := 3) (by omega)
  rw [hbest] at hat
  have HAT := hid hat
  clear hat hbest
  go_enter Try.func47, Try.ntmps47
  go_wp2_with fail
  refine c1.out.mono ?_
  rintro _ w1 ⟨g, q, rfl, hD, hg, hq, hb⟩
  have HD := hid hD
  have HB := hid hb
  have hs1 := hb.size
  clear hD hb c1
  go_wp2_with fail
  have HD2 := hid (HD.out.below ((Below.refl w1.heap.size w1).alloc (Nat.le_refl _) (.cells #[.int .u64 0, .int .u64 0, .int .i64 0, .int .i64 9] 51)))
  have c3 := hid (c2.out _ _ _ _ HD2.out _ (Rd.of_blk (en := rtEn) (l := [(((0, 0), 0), 9)]) (Blk.new w1 [.int .u64 0, .int .u64 0, .int .i64 0, .int .i64 9] 51) rtEn_length (by unfold maxLen; simp)))
  refine c3.out.mono ?_
  rintro _ w2 ⟨rfl, hD2, hC2⟩
  have HD3 := hid hD2
  have HB2 := hid ((HB.out.alloc HB.out.size _).trans (hC2.below (HB.out.alloc HB.out.size _).size (fun z hz e => by omega)))
  have c4 := hid (direct_get hD2 (0, 0) ok0 _ HAT.out)
  clear hD2 hC2 HD2 c3 c2
  go_wp2_with fail
  refine c4.out.mono ?_
  rintro _ w3 ⟨rfl, hb3⟩
  have c5 := hid (direct_len (HD3.out.below hb3))
  have HB3 := hid (held_next HB2.out hb3)
  clear hb3
  simp only [Option.map_some, Option.getD_some, Option.isSome_some]
  go_wp2_with fail
  refine c5.out.mono ?_
  rintro _ w4 ⟨rfl, rfl⟩
  go_wp2_with fail
  go_ret
  exact ⟨rfl, HB3.out⟩

def NestD (W : World) (B g q b L : Nat) (ps : List (Option Int)) (a : Ad) (vl be i : Value) (wr : World) : Prop :=
  ∃ (k : Nat) (rs : List Rt) (th : List Bool), k ≤ L ∧ i = .int .i64 k ∧ rs.length = k ∧ (∀ r ∈ rs, r.1.1.ok) ∧ ofM rs = nestM a th ∧ th.length = 129 ∧ be = .int .i64 (bI (bestT (nestM a th) a (-1) (b + 1))) ∧
    Owns wr B 51 4 vl rs.length (rtsV rs) ∧ DirA wr g q b ps ∧ Blk wr W.heap.size 24 [.int .u64 (a.1 : Int), .int .u64 (a.2 : Int)] ∧ B ≤ wr.heap.size ∧ Below W.heap.size W wr

theorem directNested_out (W : World) (bits : Int) (a : Ad) (A : Option Addr) (cap n : Nat) (hl : n ≤ cap) (hc : cap ≤ maxLen) (h : ¬ (0 ≤ bits ∧ bits ≤ 8 ∧ n ≤ 20)) :
    Calls Try.prog 13 #[.int .i64 bits, .agg #[.int .u64 (a.1 : Int), .int .u64 (a.2 : Int)], .slice A n cap] W fun e W' => e = .returned (.bool true) ∧ Below W.heap.size W W' := by
  unfold maxLen at hc
  obtain ⟨x, y⟩ := a
  go_enter Try.func13, Try.ntmps13
  go_wp2_with fail
  refine (direct_alive _).mono ?_
  rintro e w1 ⟨rfl, hb⟩
  have hb' := hid (Below.trans (b := _) ((Below.refl W.heap.size W).alloc (Nat.le_refl _) (.cells #[.int .u64 (x : Int), .int .u64 (y : Int)] 24)) (hb.mono (by simp)))
  clear hb
  go_wp2_with fail
  all_goals (go_ret; exact ⟨rfl, hb'.out⟩)

set_option maxHeartbeats 2000000 in
theorem directNested_in (W : World) (b : Nat) (hb8 : b ≤ 8) (a : Ad) (ha : a.ok) (v : Value) (ls : List Int) (R : Rd iEn 1 W v ls) (h20 : ls.length ≤ 20) :
    Calls Try.prog 13 #[.int .i64 (b : Int), .agg #[.int .u64 (a.1 : Int), .int .u64 (a.2 : Int)], v] W fun e W' => e = .returned (.bool true) ∧ Below W.heap.size W W' := by
  have HR := hid fun k x (h : ls[k]? = some x) => R.get iEn_len (by decide) h
  obtain ⟨A, cap, rfl, hl, hc⟩ := R.form
  unfold maxLen at hc
  obtain ⟨L, hL⟩ : ∃ L, ls.length = L := ⟨_, rfl⟩
  have HL := hid hL
  have HA := hid ha
  rw [hL] at h20 hl ⊢
  have d1 : decide ((b : Int) < 0) = false := decide_eq_false (by omega)
  have d2 : decide ((8 : Int) < (b : Int)) = false := decide_eq_false (by omega)
  have d3 : decide ((20 : Int) < (L : Int)) = false := decide_eq_false (by omega)
  have hcap : capB (b : Int) = b := by unfold capB; omega
  have cnew := hid fun w => direct_new w (b : Int)
  rw [hcap] at cnew
  have ccut := hid fun k (hk : k ≤ 128) w => ref_cutN a ha k hk _ rfl w
  clear R hL hcap ha
  obtain ⟨x, y⟩ := a
  go_enter Try.func13, Try.ntmps13
  go_wp2_with fail
  refine (direct_alive _).mono ?_
  rintro e w1 ⟨rfl, hb⟩
  have HB := hid (Below.trans (b := _) ((Below.refl W.heap.size W).alloc (Nat.le_refl _) (.cells #[.int .u64 (x : Int), .int .u64 (y : Int)] 24)) (hb.mono (by simp)))
  have HX := hid ((Blk.new_at W #[.int .u64 (x : Int), .int .u64 (y : Int)] 24 W.heap.size rfl).below' hb)
  have hlt1 : W.heap.size < w1.heap.size := HX.out.lt
  clear hb
  go_wp2_with fail
  refine (cnew.out _).mono ?_
  rintro _ w2 ⟨g, q, rfl, hD, hg, hq, hb2⟩
  have HD := hid hD
  have HX2 := hid (HX.out.below' hb2)
  have HB2 := hid (held_next HB.out hb2)
  have hgl := hD.ba.lt
  have hql := hD.bl.lt
  have hs2 := hb2.size
  generalize List.replicate (2 ^ b) (none : Option Int) = ps at HD
  clear hb2 hD HX HB cnew
  go_wp2_with fail
  go_loopw [9, 10, 11] (fun vl be i wr => NestD W w2.heap.size g q b L ps (x, y) vl be i wr) (fun _ _ i _ => L - (intOf i).toNat)
  case atStart =>
    refine ⟨0, [], List.replicate 129 false, Nat.zero_le _, rfl, rfl, fun r hr => by simp at hr, ?_, by simp, ?_, Owns.nil _ _ _ _, HD.out, HX2.out, Nat.le_refl _, HB2.out⟩
    · rw [nest_none]; rfl
    · have : bestT (nestM (x, y) (List.replicate 129 false)) (x, y) (-1) (b + 1) = none := by
        rw [nest_none]; exact ofM_nil _ _ _
      rw [this]; rfl
  case round =>
    clear HD HX2 HB2
    obtain ⟨k, rs, th, hk, rfl, hrs, hok, hof, hth, rfl, hO, hD, hX, hsz, hB⟩ := hrel
    have HRS := hid hrs
    have HOK := hid hok
    have HOF := hid hof
    have HTH := hid hth
    have HO := hid hO
    have HD := hid hD
    have HX := hid hX
    have HB := hid hB
    obtain ⟨A', cap', rfl, hl', hc', _⟩ := Owns.form hO
    unfold maxLen at hc'
    obtain ⟨z, hz⟩ : ∃ z, bI (bestT (nestM (x, y) th) (x, y) (-1) (b + 1)) = z := ⟨_, rfl⟩
    rw [hz]
    have HZ := hid hz
    have x0 := hX.cellv (i := 0) rfl
    have x1 := hX.cellv (i := 1) rfl
    clear hok hof hth hO hD hX hB hz
    by_cases hlt : k < L
    · have hget : ls[k]? = some (ls[k]'(by rw [HL.out]; exact hlt)) := List.getElem?_eq_getElem _
      generalize ls[k]'_ = lv at hget
      obtain ⟨b2, o2, ca, hv2, _, _, hbl2, hc2'⟩ := HR.out k lv hget
      injection hv2 with hA2 hx2 hca
      subst hA2 hca
      have y2 : wr.cell? ⟨b2, o2 + k, none⟩ = some (.int .i64 lv) := by
        have := (HB.out.cell (p := ⟨b2, o2 + k * 1 + 0, none⟩) hbl2).trans (hc2' 0 _ rfl)
        simpa using this
      obtain ⟨n, hn⟩ : ∃ n : Nat, lv % 16 = (n : Int) := Int.eq_ofNat_of_zero_le (Int.emod_nonneg _ (by decide))
      have hn16 : n < 16 := by omega
      have hand := and_15 lv
      rw [hn] at hand
      have cc := hid (ccut.out n (by omega))
      generalize hcut : Ad.cut (x, y) n = r at cc
      have HCUT := hid hcut
      clear hx2 hget hc2' hn hcut
      obtain ⟨rx, ry⟩ := r
      rw [hrs] at hl' ⊢
      go_wp2_with fail
      refine (cc.out _).mono ?_
      rintro _ w3 ⟨rfl, hb3⟩
      have HO3 := hid (HO.out.below hb3)
      have HD3 := hid (HD.out.below hb3)
      have HX3 := hid (HX.out.below' hb3)
      have HB3 := hid (held_next HB.out hb3)
      have hs3 := hb3.size
      rw [hrs] at HO3
      clear hb3 HO HD HX HB x0 x1 y2 cc
      go_wp2_with (at_builtin; refine wpList_pushm rfl _ _ 40 rfl 51 _ 4 32 Try.underlying40 rt_row rfl (by decide) w2.heap.size _ k _ rfl HO3.out _ rfl 1 [.int .u64 _, .int .u64 _, .int .i64 _, .int .i64 _] rfl rfl ?c1 ?c2 ?c3 ?c4 ?_)
      case c1 => intro u hu; simp at hu; rcases hu with rfl | rfl | rfl | rfl <;> rfl
      case c2 => unfold maxLen; omega
      case c3 => omega
      case c4 => omega
      intro v' w4 hO4 hC4
      have hC4' := hid hC4
      have hne := hid (HO3.out.base_le)
      have HX4 := hid (HX3.out.chg hC4'.out (fun h => by have := (hne.out _ h).1; omega))
      have HD4 := hid (HD3.out.chg hC4'.out (fun h => by have := (hne.out _ h).1; omega) (fun h => by have := (hne.out _ h).1; omega))
      have HB4 := hid (HB3.out.trans (hC4'.out.below HB3.out.size (fun g' hg' h => by have := (hne.out g' h).1; omega)))
      have HO4 := hid (show Owns w4 w2.heap.size 51 4 v' (rs ++ [((((rx, ry), (n : Int)), (n : Int)) : Rt)]).length (rtsV (rs ++ [((((rx, ry), (n : Int)), (n : Int)) : Rt)])) by
        rw [rtsV_snoc, List.length_append, hrs]; exact hO4)
      have hs4 := hC4'.out.size
      have hro : Ad.ok (rx, ry) := by rw [← HCUT.out]; exact Ad.cut_ok HA.out n
      have HOK4 := hid (show ∀ r ∈ rs ++ [((((rx, ry), (n : Int)), (n : Int)) : Rt)], r.1.1.ok from fun r hr => by
        rcases List.mem_append.1 hr with h | h
        · exact HOK.out r h
        · simp at h; subst h; exact hro)
      have hput := (nest_put HA.out th n (by omega) HTH.out).1
      rw [HCUT.out] at hput
      have HOF4 := hid (show ofM (rs ++ [((((rx, ry), (n : Int)), (n : Int)) : Rt)]) = nestM (x, y) (th.set n true) by rw [ofM_app, HOF.out]; exact hput)
      have hadd := nest_add HA.out HTH.out (n := n) (by omega) (b + 1) (by omega)
      rw [HZ.out] at hadd
      clear hO4 hC4 hC4' hne HX3 HD3 HB3 HO3 hput hro
      have hcase : (n ≤ b ∧ z < (n : Int)) ∨ (n ≤ b ∧ ¬ z < (n : Int)) ∨ ¬ n ≤ b := by omega
      rcases hcase with ⟨h1, h2⟩ | ⟨h1, h2⟩ | h1
      · rw [if_pos ⟨by omega, h2⟩] at hadd
        have HADD := hid (show bI (bestT (nestM (x, y) (th.set n true)) (x, y) (-1) (b + 1)) = (n : Int) by rw [hadd]; rfl)
        clear hadd
        go_wp2_with fail
        go_roundw
        case rel => exact ⟨k + 1, _, th.set n true, by omega, by go_num, by rw [List.length_append, hrs]; rfl, HOK4.out, HOF4.out, by rw [List.length_set]; exact HTH.out, by rw [HADD.out], HO4.out, HD4.out, HX4.out, by omega, HB4.out⟩
        case measure => simp [intOf]; omega
      · rw [if_neg (fun h => h2 h.2)] at hadd
        have HADD := hid (show bI (bestT (nestM (x, y) (th.set n true)) (x, y) (-1) (b + 1)) = z by rw [hadd]; exact HZ.out)
        clear hadd
        go_wp2_with fail
        go_roundw
        case rel => exact ⟨k + 1, _, th.set n true, by omega, by go_num, by rw [List.length_append, hrs]; rfl, HOK4.out, HOF4.out, by rw [List.length_set]; exact HTH.out, by rw [HADD.out], HO4.out, HD4.out, HX4.out, by omega, HB4.out⟩
        case measure => simp [intOf]; omega
      · rw [if_neg (fun h => h1 (by omega))] at hadd
        have HADD := hid (show bI (bestT (nestM (x, y) (th.set n true)) (x, y) (-1) (b + 1)) = z by rw [hadd]; exact HZ.out)
        clear hadd
        go_wp2_with fail
        go_roundw
        case rel => exact ⟨k + 1, _, th.set n true, by omega, by go_num, by rw [List.length_append, hrs]; rfl, HOK4.out, HOF4.out, by rw [List.length_set]; exact HTH.out, by rw [HADD.out], HO4.out, HD4.out, HX4.out, by omega, HB4.out⟩
        case measure => simp [intOf]; omega
    · have hkL : k = L := by omega
      have c1 := direct_fill HD.out _ rs (Rd.of_owns (l := rs) HO.out rtEn_length) HOK.out (by omega)
      rw [hrs] at c1 hl' ⊢
      have c1 := hid c1
      have hgr0 : w2.heap.size ≤ wr.heap.size := hsz
      subst hkL
      clear hrs hlt
      have hat := fill_at rs HA.out hb8
      rw [HOF.out] at hat
      have hself : ∀ j h, bestT (nestM (x, y) th) (x, y) (-1) (b + 1) = some (j, h) → h = (j : Int) := fun j h e => nest_best e
      have hz := HZ.out
      generalize bestT (nestM (x, y) th) (x, y) (-1) (b + 1) = bv at hat hself hz
      have hatn := fill_at [] HA.out hb8
      rw [ofM_nil] at hatn
      have HAT := hid hat
      have HATN := hid hatn
      have hgr : g < wr.heap.size := by omega
      have hqr : q < wr.heap.size := by omega
      have hfin : (bv = none ∧ z = -1) ∨ ∃ j : Nat, bv = some (j, (j : Int)) ∧ z = (j : Int) := by
        cases bv with
        | none => exact .inl ⟨rfl, hz.symm⟩
        | some p => obtain ⟨j, h⟩ := p; right; obtain rfl := hself j h rfl; exact ⟨j, rfl, hz.symm⟩
      have HFIN := hid hfin
      clear hat hatn hself hz hfin HZ
      go_wp2_with fail
      refine c1.out.mono ?_
      rintro _ w3 ⟨rfl, hD3, hC3⟩
      have HX3 := hid (HX.out.chg hC3 (fun e => by omega))
      have HB3 := hid (HB.out.trans (hC3.below HB.out.size (fun z hz e => by omega)))
      have c2 := hid (direct_get hD3 (x, y) HA.out _ HAT.out)
      have HD3 := hid hD3
      have hs3 := hC3.size
      clear hD3 hC3 HX HB HD HO c1 x0 x1
      have x0 := HX3.out.cellv (i := 0) rfl
      have x1 := HX3.out.cellv (i := 1) rfl
      go_wp2_with fail
      refine c2.out.mono ?_
      rintro _ w4 ⟨rfl, hb4⟩
      have HX4 := hid (HX3.out.below' hb4)
      have HB4 := hid (held_next HB3.out hb4)
      have c3 := hid (direct_fill (HD3.out.below hb4) _ [] (Rd.nil _) (fun r hr => by simp at hr) (by decide))
      have hs4 := hb4.size
      clear hb4 HX3 HB3 HD3 c2 x0 x1
      rcases HFIN.out with ⟨rfl, rfl⟩ | ⟨j, rfl, rfl⟩
      all_goals
        simp only [Option.map_none, Option.map_some, Option.getD_none, Option.getD_some, Option.isSome_none, Option.isSome_some]
        go_wp2_with fail
        refine c3.out.mono ?_
        rintro _ w5 ⟨rfl, hD5, hC5⟩
        have HX5 := HX4.out.chg hC5 (fun e => by omega)
        have HB5 := hid (HB4.out.trans (hC5.below HB4.out.size (fun z hz e => by omega)))
        have c4 := hid (direct_get hD5 (x, y) HA.out _ HATN.out)
        have x0 := HX5.cellv (i := 0) rfl
        have x1 := HX5.cellv (i := 1) rfl
        clear hD5 hC5 HX4 HB4 c3 HX5
        go_wp2_with fail
        refine c4.out.mono ?_
        rintro _ w6 ⟨rfl, hb6⟩
        have HB6 := hid (held_next HB5.out hb6)
        clear hb6 c4 HB5
        simp only [Option.map_none, Option.getD_none, Option.isSome_none]
        go_wp2_with fail
        go_ret
        exact ⟨rfl, HB6.out⟩

theorem directNested_walk (W : World) (bits : Int) (_ : (Lit.int .i64 bits).wf = true) (a : Ad) (ha : a.ok) (v : Value) (ls : List Int) (R : Rd iEn 1 W v ls) (_ : ∀ x ∈ ls, (Lit.int .i64 x).wf = true) :
    Calls Try.prog 13 #[.int .i64 bits, .agg #[.int .u64 (a.1 : Int), .int .u64 (a.2 : Int)], v] W fun e W' => e = .returned (.bool true) ∧ Below W.heap.size W W' := by
  by_cases h : 0 ≤ bits ∧ bits ≤ 8 ∧ ls.length ≤ 20
  · obtain ⟨b, rfl⟩ := Int.eq_ofNat_of_zero_le h.1
    exact directNested_in W b (by omega) a ha v ls R h.2.2
  · obtain ⟨A, cap, rfl, h1, h2⟩ := R.form
    exact directNested_out W bits a A cap _ h1 h2 h

end Go.Proofs.Ytjhgmjfjlndomaa
