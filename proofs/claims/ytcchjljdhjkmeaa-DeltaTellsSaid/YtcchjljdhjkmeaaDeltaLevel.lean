/-
  The contract of delta.Level: what turns in a level when a prefix leads to another hop, or goes. No condition but that there are no more than 900 routes, and that words are words.
-/
import Derived.Test.YtcchjljdhjkmeaaDelFn
import Derived.Test.YtcchjljdhjkmeaaCoverSet
import Derived.Test.YtcchjljdhjkmeaaDeltaLaw
import Derived.Test.YtcchjljdhjkmeaaRefSet
namespace Go.Proofs.Ytcchjljdhjkmeaa
open Go.RowKit
set_option linter.unusedVariables false
set_option linter.unusedSimpArgs false
set_option maxRecDepth 100000
attribute [local go_sem high] eq_ad eq_pf

theorem sorted_fix {T : List Rt} (h : T.Pairwise (fun x y => x.1.lt y.1)) : sortedL T = T := by
  refine ord_unique (sorted_ord T) h fun x => ?_
  rw [sorted_has, last_SL h]
/-- A list when a prefix leads to a hop, or, below 0, to none. -/
def withL (l : List Rt) (p : Pf) (hop : Int) : List Rt := withoutL l p ++ if 0 ≤ hop then [(p, hop)] else []
def levelD (l : List Rt) (p : Pf) (hop low high : Int) : List Ch := mergeD (setL l low high) (setL (withL l p hop) low high)
theorem with_len (l : List Rt) (p : Pf) (hop : Int) : (withL l p hop).length ≤ l.length + 1 := by
  unfold withL
  have := without_le l p
  rw [List.length_append]
  split <;> (simp; omega)
theorem with_ok {l : List Rt} (h : ∀ r ∈ l, r.1.1.ok) {p : Pf} (hp : p.1.ok) (hop : Int) : ∀ r ∈ withL l p hop, r.1.1.ok := by
  intro r hr
  unfold withL at hr
  rcases List.mem_append.1 hr with hr | hr
  · exact h r (without_has.1 hr).1
  · split at hr
    · rw [List.mem_singleton.1 hr]; exact hp
    · simp at hr

/-- Behind slices.DeleteFunc of a row that a call owns. -/
def DlOwn (base : Nat) (w : World) (v : Value) (K : List Rt) (e : Ending) (w' : World) : Prop :=
  ∃ v', e = .returned v' ∧ Owns w' base 39 4 v' K.length (rtsV K) ∧ Chg (fun b => v.ownBlock = some b) w w' ∧ ∀ b, v'.ownBlock = some b → v.ownBlock = some b
theorem del_own {w : World} {base : Nat} {v : Value} {l : List Rt} {f : FuncId} {lb : Array Value} {P : Rt → Bool} (hO : Owns w base 39 4 v l.length (rtsV l)) (eg : ∀ args w, (callFunc f args).run Try.prog w = .ok (.enter f args) w)
    (hT : ∀ g, v.ownBlock = some g → TellsOf g w f lb P) (hl : l.length ≤ 1000000000) :
    Calls Try.prog 54 #[v, .func (.func f) #[] lb] w (DlOwn base w v (l.filter fun r => !P r)) := by
  rcases hO.2 with ⟨rfl, hn0⟩ | ⟨g, cap, cur, rfl, hbg, hcur, hnc, hcm, hcs, htk⟩
  · have hU : l = [] := List.length_eq_zero_iff.1 hn0
    subst hU
    refine (del_func_nil w f lb).mono ?_
    rintro _ w' ⟨rfl, rfl⟩
    exact ⟨_, rfl, Owns.nil _ _ _ _, Chg.refl _ _, fun b h => h⟩
  · obtain ⟨n, hn⟩ : ∃ n, l.length = n := ⟨_, rfl⟩
    rw [hn] at hnc htk hl ⊢
    have hm : (l.map fun r => ((r, 0) : Tg)).map (·.1) = l := by rw [List.map_map]; exact List.map_id' l
    have hRow : RowT w g (l.map fun r => ((r, 0) : Tg)) (cur.toList.drop (n * 4)) := by
      unfold RowT Blk
      rw [hm, ← htk, List.take_append_drop]; simpa using hcur
    have hcm2 : cap ≤ 9223372036854775807 := by unfold maxLen at hcm; omega
    have hfm : (l.map fun r => ((r, 0) : Tg)).filter (fun x => !P x.1) = (l.filter fun r => !P r).map fun r => ((r, 0) : Tg) := by rw [List.filter_map]; rfl
    have hm2 : ((l.filter fun r => !P r).map fun r => ((r, 0) : Tg)).map (·.1) = l.filter fun r => !P r := by rw [List.map_map]; exact List.map_id' _
    refine (del_func (n := n) (cap := cap) hRow eg (hT g rfl) (by rw [List.length_map, hn]) hnc hcm2 hl).mono ?_
    rintro _ w' ⟨rfl, Z', hR, hZ, hC⟩
    rw [hfm] at hR hZ ⊢
    rw [List.length_map] at hZ ⊢
    unfold RowT at hR
    rw [hm2] at hR
    have hcl := List.length_filter_le (fun r => !P r) l
    have hcs' : cur.toList.length = cap * 4 := by simpa using hcs
    rw [List.length_map, List.length_drop, hn] at hZ
    refine ⟨_, rfl, Owns.of_blk hR hbg ?_ (by omega) hcm ?_ (rtsV_len _), hC.mono fun i _ e => by subst e; rfl, fun b h => h⟩
    · rw [List.length_append, rtsV_len]; omega
    · rw [List.take_append_of_le_length (by rw [rtsV_len]; omega), List.take_of_length_le (by rw [rtsV_len]; omega)]

theorem lvl_tells {w : World} {g pb : Nat} {p : Pf} (hB : Blk w pb 37 [.int .u64 (p.1.1 : Int), .int .u64 (p.1.2 : Int), .int .i64 p.2]) (hne : pb ≠ g) : TellsOf g w 55 #[.pointer (some ⟨pb, 0, none⟩)] (fun r => decide (r.1 = p)) := by
  intro w' r hc
  have hB' := hB.chg hc hne
  have hg := guard_pf
  have HE := hid (pf_beq r.1 p)
  obtain ⟨b, hb⟩ : ∃ b, decide (r.1 = p) = b := ⟨_, rfl⟩
  show Calls Try.prog _ _ w' fun e w'' => e = .returned (.bool (decide (r.1 = p))) ∧ Below w'.heap.size w' w''
  rw [hb] at HE ⊢
  obtain ⟨⟨⟨x1, x2⟩, x3⟩, x4⟩ := r
  obtain ⟨⟨y1, y2⟩, y3⟩ := p
  have hB2 := hB'.alloc (.cells #[.int .u64 (x1 : Int), .int .u64 (x2 : Int), .int .i64 x3, .int .i64 x4] 39)
  have p0 := hB2.cellv (i := 0) rfl
  have p1 := hB2.cellv (i := 1) rfl
  have p2 := hB2.cellv (i := 2) rfl
  have HBX := hid ((Below.refl w'.heap.size w').alloc (Nat.le_refl _) (.cells #[.int .u64 (x1 : Int), .int .u64 (x2 : Int), .int .i64 x3, .int .i64 x4] 39))
  simp only at HE p0 p1 p2
  clear hB hB' hB2 hc hb
  show Calls Try.prog 55 #[.agg #[.int .u64 (x1 : Int), .int .u64 (x2 : Int), .int .i64 x3, .int .i64 x4], .pointer (some ⟨pb, 0, none⟩)] w' _
  go_enter Try.func55, Try.ntmps55
  go_wp2_with fail
  all_goals
    go_ret
    refine ⟨ret_bool ?_, ?_⟩
    · rw [← HE.out]
    · repeat (first | exact HBX.out | apply Below.drew | apply go_below_drewN)

set_option maxHeartbeats 2000000 in
theorem delta_level (w : World) (v : Value) (l : List Rt) (hR : Rd rtEn 4 w v l) (hok : ∀ r ∈ l, r.1.1.ok) (hlen : l.length ≤ 900) (p : Pf) (hp : p.1.ok) (hop low high : Int) :
    Calls Try.prog 34 #[v, .agg #[.int .u64 (p.1.1 : Int), .int .u64 (p.1.2 : Int), .int .i64 p.2], .int .i64 hop, .int .i64 low, .int .i64 high] w (RetChs w (levelD l p hop low high)) := by
  have HR := hid hR
  have HLEN := hid hlen
  have cCl := hid (fun (w' : World) (h : Below w.heap.size w w') => st_clone w' v l (hR.below rtEn_length h) (by omega))
  have cS1 := hid (fun (w' : World) (h : Below w.heap.size w w') => cover_set w' v l (hR.below rtEn_length h) hok (by omega) low high)
  have cS2 := hid (fun (w' : World) (v' : Value) (h : Rd rtEn 4 w' v' (withL l p hop)) => cover_set w' v' (withL l p hop) h (with_ok hok hp hop) (by have := with_len l p hop; omega) low high)
  have cOf := hid (fun (w' : World) (v1 v2 : Value) (h1 : Rd rtEn 4 w' v1 (setL l low high)) (h2 : Rd rtEn 4 w' v2 (setL (withL l p hop) low high)) => delta_of w' v1 v2 _ _ h1 h2 (by have := set_len l low high; omega) (by have := set_len (withL l p hop) low high; have := with_len l p hop; omega))
  rw [sorted_fix (set_ord _ _ _), sorted_fix (set_ord _ _ _)] at cOf
  have HD := hid (show mergeD (setL l low high) (setL (withL l p hop) low high) = levelD l p hop low high from rfl)
  rw [HD.out] at cOf
  have HFL := hid (show (l.filter fun r => !decide (r.1 = p)) = withoutL l p from by unfold withoutL; congr 1; funext r; simp)
  have HWT := hid (show (0 ≤ hop → withL l p hop = withoutL l p ++ [(p, hop)]) ∧ (¬ 0 ≤ hop → withL l p hop = withoutL l p) from by unfold withL; exact ⟨fun h => by rw [if_pos h], fun h => by rw [if_neg h]; simp⟩)
  have HWL := hid (without_le l p)
  obtain ⟨A, cap, rfl, n1, m1⟩ := hR.form
  unfold maxLen at m1
  have eg := enters_of (P := Try.prog) Try.func55 (by kernel_rfl) rfl
  have EG := hid eg
  generalize setL l low high = S1 at cS1 cOf
  generalize setL (withL l p hop) low high = S2 at cS2 cOf
  generalize levelD l p hop low high = D at cOf ⊢
  have HTL := hid (fun (w' : World) (pb g : Nat) (hB : Blk w' pb 37 [.int .u64 (p.1.1 : Int), .int .u64 (p.1.2 : Int), .int .i64 p.2]) (hne : pb ≠ g) => lvl_tells hB hne)
  generalize hWW : withoutL l p = WW at HFL HWT HWL
  have HB0 := hid ((Below.refl w.heap.size w).alloc (Nat.le_refl _) (.cells #[.int .u64 (p.1.1 : Int), .int .u64 (p.1.2 : Int), .int .i64 p.2] 37))
  have BP := hid (Blk.new w [.int .u64 (p.1.1 : Int), .int .u64 (p.1.2 : Int), .int .i64 p.2] 37)
  obtain ⟨n, hn⟩ : ∃ n, l.length = n := ⟨_, rfl⟩
  rw [hn] at cCl cS1 n1 ⊢
  clear hR hok hlen eg hWW HD hn
  obtain ⟨⟨px, py⟩, pn⟩ := p
  simp only at HB0 BP HTL
  go_enter Try.func34, Try.ntmps34
  go_wp2_with fail
  refine (cCl.out _ HB0.out).mono ?_
  rintro _ w1 ⟨v1, rfl, hO1, hb1⟩
  have HB1 := hid (held_next HB0.out hb1)
  have BP1 := hid (BP.out.below' hb1)
  have cD := hid (del_own (f := 55) (lb := #[.pointer (some ⟨w.heap.size, 0, none⟩)]) (P := fun r => decide (r.1 = (((px, py), pn) : Pf))) hO1 EG.out (fun g hg => HTL.out w1 w.heap.size g BP1.out (fun e => by have := (Owns.base_le hO1 g hg).1; simp at this; omega)) (by have := HLEN.out; omega))
  rw [HFL.out] at cD
  have HOB := hid (fun b h => show w.heap.size + 1 ≤ b from by have := (Owns.base_le hO1 b h).1; simpa using this)
  clear hb1 hO1 cCl BP
  go_wp2_with fail
  refine cD.out.mono ?_
  rintro _ w2 ⟨v2, rfl, hO2, hC2, hv2⟩
  have HB2 := hid (HB1.out.trans (hC2.below HB1.out.size (fun i hi h => by have := HOB.out i h; omega)))
  have BP2 := hid (BP1.out.chg hC2 (fun h => by have := HOB.out _ h; omega))
  have HO2 := hid hO2
  have HOB2 := hid (fun b h => HOB.out b (hv2 b h))
  clear hO2 hC2 hv2 cD BP1
  have p0 := BP2.out.cellv (i := 0) rfl
  have p1 := BP2.out.cellv (i := 1) rfl
  have p2 := BP2.out.cellv (i := 2) rfl
  obtain ⟨A2, c2, rfl, _⟩ := Owns.form HO2.out
  obtain ⟨nw, hnw⟩ : ∃ n, WW.length = n := ⟨_, rfl⟩
  have hO2 := HO2.out
  rw [hnw] at hO2 HWL HOB2 ⊢
  have HO3 := hid hO2
  have HNW := hid hnw
  have hnw2 : nw ≤ 900 := by have := HWL.out; have := HLEN.out; omega
  clear hO2 hnw HO2
  have hsz : (w.alloc (.cells #[.int .u64 (px : Int), .int .u64 (py : Int), .int .i64 pn] 37)).heap.size ≤ w2.heap.size := by have := BP2.out.lt; simp; omega
  by_cases hh : 0 ≤ hop
  · have HW := hid (HWT.out.1 hh)
    go_wp2_with (at_builtin; refine wpList_pushm rfl _ _ 22 rfl 39 _ 4 32 Try.underlying22 rt_row rfl (by decide) _ _ nw _ rfl HO3.out _ rfl 1 [.int .u64 _, .int .u64 _, .int .i64 _, .int .i64 _] rfl rfl ?c1 ?c2 ?c3 ?c4 ?_)
    case c1 => intro u hu; simp at hu; rcases hu with rfl | rfl | rfl | rfl <;> rfl
    case c2 => unfold maxLen; omega
    case c3 => omega
    case c4 => exact hsz
    intro v3 w3 hO3 hC3
    have HB3 := hid (HB2.out.trans (hC3.below HB2.out.size (fun i hi h => by have := HOB2.out i h; omega)))
    have HRW := hid (show Rd rtEn 4 w3 v3 (withL l ((px, py), pn) hop) from by
      rw [HW.out]
      refine Rd.of_owns (l := WW ++ [(((px, py), pn), hop)]) (by rw [List.length_append, HNW.out, List.flatMap_append]; exact hO3) rtEn_length)
    clear hO3 hC3
    go_wp2_with fail
    refine (cS1.out _ HB3.out).mono ?_
    rintro _ w4 ⟨v4, rfl, hO4, hb4⟩
    have HB4 := hid (held_next HB3.out hb4)
    have HR4 := hid hO4.rd
    have HRW4 := hid (HRW.out.below rtEn_length hb4)
    have c5 := hid (cS2.out w4 v3 HRW4.out)
    clear hO4 hb4
    go_wp2_with fail
    refine c5.out.mono ?_
    rintro _ w5 ⟨v5, rfl, hO5, hb5⟩
    have HB5 := hid (held_next HB4.out hb5)
    have c6 := hid (cOf.out w5 v4 v5 (HR4.out.below rtEn_length hb5) hO5.rd)
    clear hO5 hb5 c5
    go_wp2_with fail
    refine c6.out.mono ?_
    rintro _ w6 ⟨v6, rfl, hO6, hb6⟩
    have HB6 := hid (held_next HB5.out hb6)
    have HO6 := hid (hO6.lower HB5.out.size)
    clear hO6 hb6 c6
    go_wp2_with fail
    go_ret
    exact ⟨_, rfl, HO6.out, HB6.out⟩
  · have HW := hid (HWT.out.2 (by omega))
    have HRW := hid (show Rd rtEn 4 w2 (.slice A2 nw c2) (withL l ((px, py), pn) hop) from by
      rw [HW.out]
      exact Rd.of_owns (l := WW) (by rw [HNW.out]; exact HO3.out) rtEn_length)
    go_wp2_with fail
    refine (cS1.out _ HB2.out).mono ?_
    rintro _ w4 ⟨v4, rfl, hO4, hb4⟩
    have HB4 := hid (held_next HB2.out hb4)
    have HR4 := hid hO4.rd
    have HRW4 := hid (HRW.out.below rtEn_length hb4)
    have c5 := hid (cS2.out w4 _ HRW4.out)
    clear hO4 hb4
    go_wp2_with fail
    refine c5.out.mono ?_
    rintro _ w5 ⟨v5, rfl, hO5, hb5⟩
    have HB5 := hid (held_next HB4.out hb5)
    have c6 := hid (cOf.out w5 v4 v5 (HR4.out.below rtEn_length hb5) hO5.rd)
    clear hO5 hb5 c5
    go_wp2_with fail
    refine c6.out.mono ?_
    rintro _ w6 ⟨v6, rfl, hO6, hb6⟩
    have HB6 := hid (held_next HB5.out hb6)
    have HO6 := hid (hO6.lower HB5.out.size)
    clear hO6 hb6 c6
    go_wp2_with fail
    go_ret
    exact ⟨_, rfl, HO6.out, HB6.out⟩

end Go.Proofs.Ytcchjljdhjkmeaa
