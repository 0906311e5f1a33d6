/-
  The walk of the law DirectTells: for all inputs it returns true and leaves memory alone. No condition.
-/
import Derived.Test.YtjhgmjfjlndomaaDirectNested
import Derived.Test.YtjhgmjfjlndomaaOpenW
namespace Go.Proofs.Ytjhgmjfjlndomaa
open Go.RowKit
set_option linter.unusedVariables false
set_option linter.unusedSimpArgs false
set_option maxRecDepth 100000
attribute [local go_sem high] eq_ad eq_pf eq_rt

def placeV (l : List Rt) (x : Ad) (b : Nat) : Option Int := (bestT (ofM l) x (-1) (b + 1)).map (·.2)
def PlPost (w : World) (o : Option Int) (e : Ending) (w' : World) : Prop := e = .returned (.tuple #[.int .i64 (o.getD 0), .bool o.isSome]) ∧ Below w.heap.size w w'
theorem hopV_place (l : List Rt) {x : Ad} (hx : x.ok) {b : Nat} (hb : b ≤ 128) : hopV l (x.cut b, (b : Int)) (-1) = placeV l x b := by
  unfold hopV placeV
  show ((bestT (ofM l) (x.cut b) (-1) (btK (b : Int))).map (·.2)) = _
  rw [show btK (b : Int) = b + 1 by unfold btK; omega, bestT_congr (b := x) fun k hk => by rw [Ad.cut_cut hx b k (by omega) (by omega), Nat.min_eq_right (by omega)]]
theorem ref_direct (w : World) (v : Value) (l : List Rt) (hR : Rd rtEn 4 w v l) (hlen : l.length ≤ 100000) (hok : ∀ r ∈ l, r.1.1.ok) (n : Int) (b : Nat) (hb : (if n < 0 then 0 else if 8 < n then 8 else n) = (b : Int)) (hb8 : b ≤ 8) (x : Ad) (hx : x.ok) :
    Calls Try.prog 52 #[v, .int .i64 n, .agg #[.int .u64 (x.1 : Int), .int .u64 (x.2 : Int)]] w (PlPost w (placeV l x b)) := by
  have c1 := hid (fun w => ref_cap n 0 8 w)
  rw [hb] at c1
  have c2 := hid (fun w => ref_cutN x hx b (by omega) _ rfl w)
  have hp := hopV_place l hx (b := b) (by omega)
  have c3 := hid (fun (w1 : World) (h : Below w.heap.size w w1) => ref_hop w1 v l (hR.below rtEn_length h) hlen hok (x.cut b, (b : Int)) (Ad.cut_ok hx b) (-1))
  unfold HopPost at c3
  rw [hp] at c3
  generalize placeV l x b = o at c3
  generalize x.cut b = y at c2 c3
  obtain ⟨A, cap, rfl, n1, m1⟩ := hR.form
  clear hp hR hlen hok hb hx
  obtain ⟨x, x'⟩ := x
  obtain ⟨y, y'⟩ := y
  go_enter Try.func52, Try.ntmps52
  go_wp2_with fail
  refine (c1.out _).mono ?_
  rintro _ w1 ⟨rfl, rfl⟩
  have HB := hid ((Below.refl w.heap.size w).alloc (Nat.le_refl _) (.cells #[.int .u64 (x : Int), .int .u64 (x' : Int)] 24))
  go_wp2_with fail
  refine (c2.out _).mono ?_
  rintro _ w1 ⟨rfl, hb1⟩
  have HB1 := hid (HB.out.trans (hb1.mono HB.out.size))
  clear hb1 c1 c2
  go_wp2_with fail
  refine (c3.out _ HB1.out).mono ?_
  rintro _ w2 ⟨rfl, hb2⟩
  have HB2 := hid (HB1.out.trans (hb2.mono HB1.out.size))
  clear hb2 c3 HB1
  go_wp2_with fail
  go_ret2
  exact ⟨rfl, HB2.out⟩

def TellD (W : World) (g q b L : Nat) (a : Ad) (i : Value) (wr : World) : Prop :=
  ∃ (k : Nat) (ps : List (Option Int)), k ≤ L ∧ i = .int .i64 k ∧ DirA wr g q b ps ∧ Blk wr W.heap.size 24 [.int .u64 (a.1 : Int), .int .u64 (a.2 : Int)] ∧ Below W.heap.size W wr

theorem directTells_walk (W : World) (bits : Int) (wf : (Lit.int .i64 bits).wf = true) (v : Value) (ls : List (List Rt)) (R : Rd2 rtEn Rt.fit 4 W v ls) (a : Ad) (ha : a.ok) :
    Calls Try.prog 12 #[.int .i64 bits, v, .agg #[.int .u64 (a.1 : Int), .int .u64 (a.2 : Int)]] W fun e W' => e = .returned (.bool true) ∧ Below W.heap.size W W' := by
  obtain ⟨vs, hvl, R1, R2⟩ := R
  have HR := hid fun k x (h : vs[k]? = some x) => R1.get (fun _ => rfl) (by decide) h
  have HR2 := hid R2
  have HVL := hid hvl
  obtain ⟨A, cap, rfl, hl, hc⟩ := R1.form
  unfold maxLen at hc
  obtain ⟨L, hL⟩ : ∃ L, vs.length = L := ⟨_, rfl⟩
  have HL := hid hL
  have HA := hid ha
  rw [hL] at hl ⊢
  obtain ⟨b, hb⟩ : ∃ b, capB bits = b := ⟨_, rfl⟩
  have hb8 : b ≤ 8 := by unfold capB at hb; omega
  have hbi : (if bits < 0 then 0 else if 8 < bits then 8 else bits) = (b : Int) := by unfold capB at hb; split <;> (try split) <;> omega
  have cnew := hid fun w => direct_new w bits
  rw [hb] at cnew
  have ccap := hid fun w => ref_cap bits 0 8 w
  rw [hbi] at ccap
  have cdir := hid fun w v l hR hlen hok => ref_direct w v l hR hlen hok bits b hbi hb8 a ha
  have hp := Nat.pow_le_pow_right (show 0 < 2 by decide) hb8
  obtain ⟨N, hN⟩ : ∃ N, 2 ^ b = N := ⟨_, rfl⟩
  have hw : wrap64 (2 ^ b) = (N : Int) := by
    rw [← hN, Int.natCast_pow]
    have : ((2 : Int) ^ b) ≤ 256 := by have h1 : ((2 ^ b : Nat) : Int) ≤ 256 := by omega
                                       rwa [Int.natCast_pow] at h1
    have h2 : (0 : Int) ≤ 2 ^ b := Int.pow_nonneg (by decide)
    unfold wrap64
    show _ = (2 : Int) ^ b
    omega
  have clen := hid fun w g q ps (h : DirA w g q b ps) => direct_len h
  rw [hN] at clen
  have h0 := fill_at [] ha hb8
  rw [ofM_nil] at h0
  have hfl : (List.replicate (2 ^ b) (none : Option Int))[a.1 / 2 ^ (64 - b)]? = some none := by
    rw [List.getElem?_replicate, if_pos (key_place ha hb8).1]
  have HFL := hid hfl
  have HN := hid hN
  clear R1 R2 hL hvl ha hb hbi hp hN h0 hfl wf
  obtain ⟨x, y⟩ := a
  by_cases h5 : 5 < L
  · have d1 : decide ((5 : Int) < (L : Int)) = true := decide_eq_true (by omega)
    go_enter Try.func12, Try.ntmps12
    go_wp2_with fail
    refine (direct_alive _).mono ?_
    rintro e w1 ⟨rfl, hb⟩
    have hb' := hid (Below.trans (b := _) ((Below.refl W.heap.size W).alloc (Nat.le_refl _) (.cells #[.int .u64 (x : Int), .int .u64 (y : Int)] 24)) (hb.mono (by simp)))
    clear hb
    go_wp2_with fail
    go_ret
    exact ⟨rfl, hb'.out⟩
  have d1 : decide ((5 : Int) < (L : Int)) = false := decide_eq_false (by omega)
  go_enter Try.func12, Try.ntmps12
  go_wp2_with fail
  refine (direct_alive _).mono ?_
  rintro e w1 ⟨rfl, hb⟩
  have HB := hid (Below.trans (b := _) ((Below.refl W.heap.size W).alloc (Nat.le_refl _) (.cells #[.int .u64 (x : Int), .int .u64 (y : Int)] 24)) (hb.mono (by simp)))
  have HX := hid ((Blk.new_at W #[.int .u64 (x : Int), .int .u64 (y : Int)] 24 W.heap.size rfl).below' hb)
  have hlt1 : W.heap.size < w1.heap.size := HX.out.lt
  clear hb
  go_wp2_with fail
  refine (cnew.out _).mono ?_
  rintro _ w2 ⟨g, q, rfl, hD, hg, hq, hb2⟩
  have HD := hid hD
  have HX2 := hid (HX.out.below' hb2)
  have HB2 := hid (held_next HB.out hb2)
  have c1 := hid (clen.out w2 g q _ hD)
  have c2 := hid (direct_get hD (x, y) HA.out none HFL.out)
  generalize List.replicate (2 ^ b) (none : Option Int) = ps at HD
  have x0 := HX2.out.cellv (i := 0) rfl
  have x1 := HX2.out.cellv (i := 1) rfl
  clear hb2 hD HX HB cnew HFL clen
  go_wp2_with fail
  refine c1.out.mono ?_
  rintro _ w3 ⟨rfl, rfl⟩
  go_wp2_with fail
  refine (ccap.out _).mono ?_
  rintro _ w3 ⟨rfl, rfl⟩
  go_wp2_with fail
  refine c2.out.mono ?_
  rintro _ w3 ⟨rfl, hb3⟩
  have HD3 := hid (HD.out.below hb3)
  have HX3 := hid (HX2.out.below' hb3)
  have HB3 := hid (held_next HB2.out hb3)
  have hs3 := hb3.size
  clear hb3 HD HX2 HB2 x0 x1 c1 c2 ccap
  simp only [Option.getD_none, Option.isSome_none]
  go_wp2_with fail
  rw [hw]
  clear hw
  go_loopw [11] (fun i wr => TellD W g q b L (x, y) i wr) (fun i _ => L - (intOf i).toNat)
  case atStart => exact ⟨0, ps, Nat.zero_le _, rfl, HD3.out, HX3.out, HB3.out⟩
  case round =>
    clear HD3 HX3 HB3
    obtain ⟨k, ps', hk, rfl, hD, hX, hB⟩ := hrel
    have HD := hid hD
    have HX := hid hX
    have HB := hid hB
    have x0 := hX.cellv (i := 0) rfl
    have x1 := hX.cellv (i := 1) rfl
    clear hD hX hB
    by_cases hlt : k < L
    · have hget : vs[k]? = some (vs[k]'(by rw [HL.out]; exact hlt)) := List.getElem?_eq_getElem _
      generalize vs[k]'_ = lv at hget
      obtain ⟨b2, o2, ca, hv2, _, _, hbl2, hc2'⟩ := HR.out k lv hget
      injection hv2 with hA2 hx2 hca
      subst hA2 hca
      have y2 : wr.cell? ⟨b2, o2 + k, none⟩ = some lv := by
        have := (HB.out.cell (p := ⟨b2, o2 + k * 1 + 0, none⟩) hbl2).trans (hc2' 0 _ rfl)
        simpa using this
      have hlt' : k < ls.length := by rw [← HVL.out, HL.out]; exact hlt
      obtain ⟨R, hfit⟩ := HR2.out k lv ls[k] hget (List.getElem?_eq_getElem hlt')
      generalize ls[k] = l at R hfit
      have HOK := hid (show ∀ r ∈ l, r.1.1.ok from fun r hr => (hfit r hr).1.1)
      have HRk := hid (R.below rtEn_length HB.out)
      have HRW := hid R
      obtain ⟨A2, cap2, rfl, n2, m2⟩ := R.form
      unfold maxLen at m2
      obtain ⟨n, hn⟩ : ∃ n, l.length = n := ⟨_, rfl⟩
      have HNl := hid hn
      rw [hn] at y2 n2
      rw [hn] at HRk HRW
      have y3 : W.cell? ⟨b2, o2 + k, none⟩ = some (.slice A2 n cap2) := by
        have := hc2' 0 _ rfl
        rw [hn] at this
        simpa using this
      have HY := hid y3
      clear y3
      clear hx2 hget hc2' R hfit hn
      by_cases h30 : 30 < n
      · have d3 : decide ((30 : Int) < (n : Int)) = true := decide_eq_true (by omega)
        go_wp2_with fail
        go_ret
        exact ⟨rfl, HB.out⟩
      have d3 : decide ((30 : Int) < (n : Int)) = false := decide_eq_false (by omega)
      have hdg := HD.out.ba.lt
      have hdq := HD.out.bl.lt
      go_wp2_with (at_builtin; refine wpList_append_rd rfl (.const (.slice none 0 0)) _ 40 rfl 51 _ 4 32 Try.underlying40 rt_row rfl (by decide) wr.heap.size _ 0 [] rfl (Owns.nil _ _ _ _) _ rfl l HRk.out rtEn_length cells_rt ?c1 ?c2 ?c3 ?_)
      case c1 => rw [HNl.out]; unfold maxLen; omega
      case c2 => rw [HNl.out]; omega
      intro v' w4 hO4 hC4
      have hb4 : Below wr.heap.size wr w4 := hC4.below (Nat.le_refl _) (fun z hz e => by cases e)
      have hO5 : Owns w4 wr.heap.size 51 4 v' l.length (l.flatMap rtEn) := by simpa using hO4
      have c1 := direct_fill (HD.out.below hb4) v' l (Rd.of_owns hO5 rtEn_length) HOK.out (by rw [HNl.out]; omega)
      obtain ⟨A3, cap3, rfl, n3, m3, _⟩ := Owns.form hO5
      have HX4 := hid (HX.out.below' hb4)
      have HB4 := hid (held_next HB.out hb4)
      have hs4 := hb4.size
      have c1 := hid c1
      clear hO4 hC4 hO5 hb4 n3 m3
      go_wp2_with fail
      refine c1.out.mono ?_
      rintro _ w5 ⟨rfl, hD5, hC5⟩
      have hgW : W.heap.size ≤ g := by omega
      have hqW : W.heap.size ≤ q := by omega
      have HX5 := hid (HX4.out.chg hC5 (fun e => by omega))
      have HB5 := hid (HB4.out.trans (hC5.below HB4.out.size (fun z hz e => by omega)))
      have c2 := hid (direct_get hD5 (x, y) HA.out _ (fill_at l HA.out hb8))
      have HD5 := hid hD5
      have c3 := hid (show ∀ w6, Below w5.heap.size w5 w6 → Calls Try.prog 52 #[.slice A2 n cap2, .int .i64 bits, .agg #[.int .u64 (x : Int), .int .u64 (y : Int)]] w6 fun e w' => e = .returned (.tuple #[.int .i64 ((placeV l (x, y) b).getD 0), .bool (placeV l (x, y) b).isSome]) ∧ Below w6.heap.size w6 w' from
        fun w6 h => cdir.out w6 _ l (HRW.out.below rtEn_length (HB5.out.trans (h.mono HB5.out.size))) (by rw [HNl.out]; omega) HOK.out)
      have hs5 := hC5.size
      have z1 := (HB5.out.cell (p := ⟨b2, o2 + k, none⟩) hbl2).trans HY.out
      have x0 := HX5.out.cellv (i := 0) rfl
      have x1 := HX5.out.cellv (i := 1) rfl
      have HPV := hid (show (bestT (ofM l) (x, y) (-1) (b + 1)).map (·.2) = placeV l (x, y) b from rfl)
      rw [HPV.out] at c2
      generalize placeV l (x, y) b = o at c2 c3
      clear hD5 hC5 y2 c1 HX4 HB4 cdir HPV
      go_wp2_with fail
      refine c2.out.mono ?_
      rintro _ w6 ⟨rfl, hb6⟩
      have HX6 := hid (HX5.out.below' hb6)
      have HB6 := hid (held_next HB5.out hb6)
      have HD6 := hid (HD5.out.below hb6)
      have c4 := hid (fun w7 (h : Below w6.heap.size w6 w7) => c3.out w7 (held_next hb6 h))
      have z1 := (hb6.cell (p := ⟨b2, o2 + k, none⟩) (show b2 < w5.heap.size by have := HB5.out.size; omega)).trans z1
      have x0 := HX6.out.cellv (i := 0) rfl
      have x1 := HX6.out.cellv (i := 1) rfl
      have Z1 := hid z1
      clear hb6 c2 c3 HX5 HB5 HD5
      go_wp2_with fail
      refine wp_region_later (fun w' => w'.cell? ⟨W.heap.size, 0, none⟩ = some (.int .u64 (x : Int)) ∧ w'.cell? ⟨W.heap.size, 1, none⟩ = some (.int .u64 (y : Int)) ∧ w'.cell? ⟨b2, o2 + k, none⟩ = some (.slice A2 n cap2))
        (fun z => ⟨z.cell (HX6.out.cellv rfl), z.cell (HX6.out.cellv rfl), z.cell Z1.out⟩) (by kernel_rfl) (by kernel_rfl) (fun HS => ?_)
      repeat (go_big_quiet_step (with_reducible exact Later.calls _ (c4.out _ (Later.below _))))
      refine wpQuiet_nil ?_
      rintro _ ⟨⟨w7, hb7⟩, rfl⟩
      have HX7 := hid (HX6.out.below' hb7)
      have HB7 := hid (held_next HB6.out hb7)
      have HD7 := hid (HD6.out.below hb7)
      clear hb7 c4 HX6 HB6 HD6 HS z1 x0 x1 Z1
      go_wp2_with fail
      go_roundw
      case rel => exact ⟨k + 1, _, by omega, by go_num, HD7.out, HX7.out, HB7.out⟩
      case measure => simp [intOf]; omega
    · have hkL : k = L := by omega
      subst hkL
      go_wp2_with fail
      go_ret
      exact ⟨rfl, HB.out⟩

end Go.Proofs.Ytjhgmjfjlndomaa
