/-
  Of routes in a block those left out that a function tells of (slices.IndexFunc, slices.DeleteFunc). No condition but that there are no more than a thousand million, and that the function turns nothing that was there.
-/
import Derived.Test.YtcchjljdhjkmeaaCompact2
namespace Go.Proofs.Ytcchjljdhjkmeaa
open Go.RowKit
set_option linter.unusedVariables false
set_option linter.unusedSimpArgs false
set_option maxRecDepth 100000

def rtA (r : Rt) : Value := .agg #[.int .u64 (r.1.1.1 : Int), .int .u64 (r.1.1.2 : Int), .int .i64 r.1.2, .int .i64 r.2]
/-- A function that tells of a route, whatever block g has, and turns nothing that was there. -/
def TellsOf (g : Nat) (w : World) (f : FuncId) (lb : Array Value) (P : Rt → Bool) : Prop := ∀ (w' : World) (r : Rt), Chg (· = g) w w' →
  Calls Try.prog f (#[.agg #[.int .u64 (r.1.1.1 : Int), .int .u64 (r.1.1.2 : Int), .int .i64 r.1.2, .int .i64 r.2]] ++ lb) w' fun e w'' => e = .returned (.bool (P r)) ∧ Below w'.heap.size w' w''
def idxF (P : Rt → Bool) (U : List Tg) : Int := match U.findIdx? (fun x => P x.1) with | some k => (k : Int) | none => -1
def IfRel (w : World) (P : Rt → Bool) (U : List Tg) (iv : Value) (wr : World) : Prop := ∃ i : Nat, i ≤ U.length ∧ iv = .int .i64 i ∧ (∀ x ∈ U.take i, P x.1 = false) ∧ Below w.heap.size w wr
theorem idx_func {w : World} {g cap n : Nat} {U : List Tg} {Z : List Value} {f : FuncId} {lb : Array Value} {P : Rt → Bool} (H : RowT w g U Z) (eg : ∀ args w, (callFunc f args).run Try.prog w = .ok (.enter f args) w) (hT : TellsOf g w f lb P) (hn : U.length = n) (hnm : n ≤ 1000000000) :
    Calls Try.prog 67 #[.slice (some ⟨g, 0, none⟩) n cap, .func (.func f) #[] lb] w fun e w' => e = .returned (.int .i64 (idxF P U)) ∧ Below w.heap.size w w' := by
  have HN := hid hn
  have HH := hid H
  have HT := hid hT
  clear H hT hn
  go_enter Try.func67, Try.ntmps67
  go_wp2_with fail
  go_loopw [8] (fun iv wr => IfRel w P U iv wr) (fun iv _ => n - (intOf iv).toNat)
  case atStart => exact ⟨0, Nat.zero_le _, rfl, fun x hx => by simp at hx, Below.refl _ _⟩
  case round =>
    obtain ⟨i, hi, rfl, hP, hB⟩ := hrel
    have HB := hid hB
    have HP := hid hP
    have hr := HH.out.below hB
    clear hP hB
    rw [HN.out] at hi
    by_cases hin : i < n
    · obtain ⟨x, hx⟩ : ∃ x, U[i]? = some x := ⟨_, List.getElem?_eq_getElem (by rw [HN.out]; exact hin)⟩
      obtain ⟨c0, c1, c2, c3⟩ := hr.cells hx
      have cb := hid (HT.out wr x.1 (Chg.of_below HB.out _))
      have i0 : (0 : Int) ≤ (i : Int) := by omega
      have i1 : (i : Int) < (n : Int) := by omega
      have HX := hid hx
      have HI := hid hin
      have HPX := hid (show P x.1 = P x.1 from rfl)
      cases hp : P x.1 with
      | true =>
        have HF := hid (show idxF P U = (i : Int) from by
          unfold idxF
          have : U.findIdx? (fun x => P x.1) = some i := by
            rw [List.findIdx?_eq_some_iff_getElem]
            obtain ⟨h1, h2⟩ := List.getElem?_eq_some_iff.1 hx
            refine ⟨h1, by rw [h2]; exact hp, fun j hj => ?_⟩
            have := HP.out U[j] (by rw [List.mem_take_iff_getElem]; exact ⟨j, by omega, rfl⟩)
            simpa using this
          rw [this])
        rw [hp] at cb
        obtain ⟨⟨⟨⟨x1, x2⟩, x3⟩, x4⟩, x5⟩ := x
        simp only at c0 c1 c2 c3 cb
        clear hx hp hr
        go_wp2_with fail
        refine cb.out.mono ?_
        rintro _ w5 ⟨rfl, hb5⟩
        have HB5 := hid (held_next HB.out hb5)
        clear hb5 cb c0 c1 c2 c3
        go_wp2_with fail
        go_ret
        exact ⟨by rw [HF.out]; rfl, HB5.out⟩
      | false =>
        have HNX := hid (show ∀ y ∈ U.take (i + 1), P y.1 = false from fun y hy => by
          obtain ⟨h1, h2⟩ := List.getElem?_eq_some_iff.1 hx
          rw [List.take_succ_eq_append_getElem h1, h2] at hy
          rcases List.mem_append.1 hy with hy | hy
          · exact HP.out y hy
          · rw [List.mem_singleton.1 hy]; exact hp)
        rw [hp] at cb
        obtain ⟨⟨⟨⟨x1, x2⟩, x3⟩, x4⟩, x5⟩ := x
        simp only at c0 c1 c2 c3 cb
        clear hx hp hr
        go_wp2_with fail
        refine cb.out.mono ?_
        rintro _ w5 ⟨rfl, hb5⟩
        have HB5 := hid (held_next HB.out hb5)
        clear hb5 cb c0 c1 c2 c3
        go_wp2_with fail
        go_roundw
        case rel => exact ⟨i + 1, by have := HI.out; have := HN.out; omega, by go_num, HNX.out, HB5.out⟩
        case measure => have := HI.out; simp [intOf]; omega
    · have HF := hid (show idxF P U = -1 from by
        unfold idxF
        have : U.findIdx? (fun x => P x.1) = none := by
          rw [List.findIdx?_eq_none_iff]
          intro x hx
          have h1 : U.take i = U := List.take_of_length_le (by rw [HN.out]; omega)
          have := HP.out x (by rw [h1]; exact hx)
          simpa using this
        rw [this])
      have c1 : ¬ (i : Int) < (n : Int) := by omega
      clear hr
      go_wp2_with fail
      go_ret
      exact ⟨by rw [HF.out]; rfl, HB.out⟩

structure DfSt (g : Nat) (U : List Tg) (Z : List Value) (P : Rt → Bool) (i j : Nat) (w0 wr : World) (K J R : List Tg) : Prop where
  ki : K.length = i
  jj : K.length + J.length = j
  j1 : 1 ≤ J.length
  n : j + R.length = U.length
  u : U.drop j = R
  c : U.filter (fun x => !P x.1) = K ++ R.filter (fun x => !P x.1)
  r : RowT wr g (K ++ J ++ R) Z
  h : Chg (· = g) w0 wr
def DfRel (g : Nat) (U : List Tg) (Z : List Value) (P : Rt → Bool) (w0 : World) (iv jv : Value) (wr : World) : Prop := ∃ (i j : Nat) (K J R : List Tg), iv = .int .i64 i ∧ jv = .int .i64 j ∧ DfSt g U Z P i j w0 wr K J R
def DfPost (g cap : Nat) (U : List Tg) (Z : List Value) (P : Rt → Bool) (w : World) (e : Ending) (w' : World) : Prop :=
  e = .returned (.slice (some ⟨g, 0, none⟩) (U.filter (fun x => !P x.1)).length cap) ∧ ∃ Z' : List Value, RowT w' g (U.filter (fun x => !P x.1)) Z' ∧ (U.filter (fun x => !P x.1)).length * 4 + Z'.length = U.length * 4 + Z.length ∧ Chg (· = g) w w'
variable {g : Nat} {U : List Tg} {Z : List Value} {P : Rt → Bool}
theorem DfSt.gone {i j : Nat} {w0 wr w1 : World} {K J R : List Tg} {x : Tg} (h : DfSt g U Z P i j w0 wr K J (x :: R)) (hb : Below wr.heap.size wr w1) (hp : P x.1 = true) : DfSt g U Z P i (j + 1) w0 w1 K (J ++ [x]) R :=
  ⟨h.ki, by have := h.jj; simp; omega, by simp, by have := h.n; simp at this ⊢; omega, by rw [← List.drop_drop, h.u]; rfl, by rw [h.c]; simp [hp], by have := h.r.below hb; simpa using this, h.h.trans' (Chg.of_below hb _)⟩
theorem DfSt.kept {i j : Nat} {w0 wr w1 : World} {K J R : List Tg} {x : Tg} (h : DfSt g U Z P i j w0 wr K J (x :: R)) (hb : Below wr.heap.size wr w1) (hp : P x.1 = false) : ∃ J', DfSt g U Z P (i + 1) (j + 1) w0 (st4 w1 g i x.1) (K ++ [x]) J' R := by
  cases J with
  | nil => have := h.j1; simp at this
  | cons a J =>
    have hr := h.r.below hb
    have e2 : K ++ a :: J ++ x :: R = K ++ a :: (J ++ x :: R) := by simp
    rw [e2] at hr
    have hk := h.ki
    have h1 := hr.st4 (i := i) (by simp; omega) x
    rw [set_mid hk.symm] at h1
    exact ⟨J ++ [x], by simp; omega, by have := h.jj; simp at this ⊢; omega, by simp, by have := h.n; simp at this ⊢; omega, by rw [← List.drop_drop, h.u]; rfl, by rw [h.c]; simp [hp], by simpa using h1, (h.h.trans' (Chg.of_below hb _)).trans' (st4_chg _ _ _ _)⟩
theorem DfSt.fin {i j : Nat} {w0 wr : World} {K J : List Tg} (h : DfSt g U Z P i j w0 wr K J []) {zs : List Value} (hz : zs.length = (U.length - i) * 4) {w' : World}
    (hB : Blk w' g 39 ((rtsV ((K ++ J).map (·.1)) ++ Z).take (i * 4) ++ zs ++ (rtsV ((K ++ J).map (·.1)) ++ Z).drop (i * 4 + zs.length))) (hc : Chg (· = g) wr w') :
    U.filter (fun x => !P x.1) = K ∧ RowT w' g K (zs ++ Z) ∧ i * 4 + (zs ++ Z).length = U.length * 4 + Z.length ∧ Chg (· = g) w0 w' := by
  have hk := h.ki
  have hn := h.n
  have hj := h.jj
  simp only [List.length_nil, Nat.add_zero] at hn
  have e1 : rtsV ((K ++ J).map (·.1)) = rtsV (K.map (·.1)) ++ rtsV (J.map (·.1)) := by rw [List.map_append, rtsV_app]
  have l1 : (rtsV (K.map (·.1))).length = i * 4 := by rw [rtsV_len, List.length_map, hk]
  have l2 : (rtsV (J.map (·.1))).length = zs.length := by rw [rtsV_len, hz, List.length_map]; omega
  rw [e1, lay_rest l1 l2] at hB
  refine ⟨by rw [h.c]; simp, hB, by rw [List.length_append, hz]; omega, h.h.trans' hc⟩
theorem DfSt.first {k : Nat} {x : Tg} {w0 wr : World} (hx : U[k]? = some x) (hpx : P x.1 = true) (hk : ∀ j y, j < k → U[j]? = some y → P y.1 = false) (hr : RowT wr g U Z) (hc : Chg (· = g) w0 wr) : DfSt g U Z P k (k + 1) w0 wr (U.take k) [x] (U.drop (k + 1)) := by
  obtain ⟨h1, h2⟩ := List.getElem?_eq_some_iff.1 hx
  have e : U = U.take k ++ [x] ++ U.drop (k + 1) := by
    conv => lhs; rw [← List.take_append_drop (k + 1) U, List.take_succ_eq_append_getElem h1, h2]
  have hf : (U.take k).filter (fun x => !P x.1) = U.take k := by
    rw [List.filter_eq_self]
    intro y hy
    obtain ⟨j, hj, e⟩ := List.getElem_of_mem hy
    have hjk : j < k := by simp at hj; omega
    rw [List.getElem_take] at e
    rw [hk j y hjk (by rw [← e]; exact List.getElem?_eq_getElem _)]; rfl
  refine ⟨by rw [List.length_take]; omega, by rw [List.length_take]; simp; omega, by simp, by rw [List.length_drop]; omega, rfl, ?_, by rw [← e]; exact hr, hc⟩
  conv => lhs; rw [e, List.filter_append, List.filter_append, hf]
  simp [hpx]

set_option maxHeartbeats 4000000 in
theorem del_func {w : World} {g cap n : Nat} {U : List Tg} {Z : List Value} {f : FuncId} {lb : Array Value} {P : Rt → Bool} (H : RowT w g U Z) (eg : ∀ args w, (callFunc f args).run Try.prog w = .ok (.enter f args) w) (hT : TellsOf g w f lb P) (hn : U.length = n) (hc : n ≤ cap) (hcm : cap ≤ 9223372036854775807) (hnm : n ≤ 1000000000) :
    Calls Try.prog 54 #[.slice (some ⟨g, 0, none⟩) n cap, .func (.func f) #[] lb] w (DfPost g cap U Z P w) := by
  have HN := hid hn
  have HT := hid hT
  have HH := hid H
  have cI := hid (idx_func (cap := cap) H eg hT hn hnm)
  have hnI : (n : Int) ≤ 1000000000 := by omega
  have hcI : (cap : Int) ≤ 9223372036854775807 := by omega
  have hnc : (n : Int) ≤ (cap : Int) := by omega
  clear H hT hn
  cases hf : U.findIdx? (fun x => P x.1) with
  | none =>
    have HU := hid (show U.filter (fun x => !P x.1) = U from by
      rw [List.filter_eq_self]; intro x hx; have := List.findIdx?_eq_none_iff.1 hf x hx; simpa using this)
    have HI := hid (show idxF P U = -1 from by unfold idxF; rw [hf])
    rw [HI.out] at cI
    clear hf
    go_enter Try.func54, Try.ntmps54
    go_wp2_with fail
    refine cI.out.mono ?_
    rintro _ w1 ⟨rfl, hb1⟩
    have HF := hid (show DfPost g cap U Z P w (.returned (.slice (some ⟨g, 0, none⟩) n cap)) w1 from ⟨by rw [HU.out, HN.out], Z, by rw [HU.out]; exact HH.out.below hb1, by rw [HU.out], Chg.of_below hb1 _⟩)
    clear hb1 cI
    go_wp2_with fail
    go_ret
    exact HF.out
  | some k =>
    have hk := List.findIdx?_eq_some_iff_getElem.1 hf
    obtain ⟨k1, k2, k3⟩ := hk
    have hx : U[k]? = some U[k] := List.getElem?_eq_getElem _
    have HFST := hid (fun (w1 : World) (h : Below w.heap.size w w1) => DfSt.first (w0 := w) hx k2 (fun j y hj hy => by
      obtain ⟨h1, h2⟩ := List.getElem?_eq_some_iff.1 hy
      have := k3 j hj
      rw [h2] at this; simpa using this) (HH.out.below h) (Chg.of_below h _))
    have HI := hid (show idxF P U = (k : Int) from by unfold idxF; rw [hf])
    rw [HI.out] at cI
    generalize U[k] = x0 at HFST
    have hkn : k < n := by rw [← HN.out]; exact k1
    have hkI : (k : Int) ≤ 1000000000 := by omega
    have hk2 : ¬ (k : Int) = -1 := by omega
    have hk3 : ((k : Int) == -1) = false := by rw [beq_eq_false_iff_ne]; exact hk2
    clear hf k1 k2 k3 hx
    go_enter Try.func54, Try.ntmps54
    go_wp2_with fail
    refine cI.out.mono ?_
    rintro _ w1 ⟨rfl, hb1⟩
    have H0 := hid (HFST.out w1 hb1)
    clear hb1 cI HFST
    go_wp2_with fail
    go_loopw [5, 6] (fun iv jv wr => DfRel g U Z P w iv jv wr) (fun _ jv _ => n - (intOf jv).toNat)
    case atStart => exact ⟨k, k + 1, _, _, _, rfl, by go_num, H0.out⟩
    case round =>
      obtain ⟨i, j, K, J, R, rfl, rfl, hS⟩ := hrel
      clear H0
      have hki := hS.ki
      have hjj := hS.jj
      have hj1 := hS.j1
      have hnn := hS.n
      rw [HN.out] at hnn
      cases R with
      | nil =>
        have hjn : j = n := by simpa using hnn
        have hzl := zeros_len (#[.int .u64 0, .int .u64 0, .int .i64 0, .int .i64 0] : Array Value) (n - i)
        obtain ⟨zs, hzs⟩ : ∃ zs, (Builtin.zeroCells (Value.agg #[.int .u64 0, .int .u64 0, .int .i64 0, .int .i64 0]).cells (n - i)).toList = zs := ⟨_, rfl⟩
        have hz1 : ∀ v ∈ zs, v.oneCell' = true := by
          rw [← hzs]; exact zeros_one (by intro u hu; simp [Value.cells] at hu; rcases hu with rfl | rfl <;> rfl) (by decide) _
        have HZL := hid (show zs.length = (n - i) * 4 by rw [← hzs]; exact hzl)
        have HFIN := hid (fun (w' : World) hB hC => hS.fin (zs := zs) (by rw [HZL.out, HN.out]) (w' := w') hB hC)
        have HR := hid (show Blk wr g 39 (rtsV ((K ++ J).map (·.1)) ++ Z) from by have := hS.r; unfold RowT at this; simpa using this)
        have HL := hid (show i * 4 + zs.length ≤ (rtsV ((K ++ J).map (·.1)) ++ Z).length by rw [HZL.out, List.length_append, rtsV_len, List.length_map, List.length_append]; omega)
        have HKK := hid (show K.length = i from hki)
        have HN0 := hid (show 0 < n - i by omega)
        have HZS := hid hzs
        have s0 : (0 : Int) ≤ (i : Int) := by omega
        have s1 : (i : Int) ≤ (n : Int) := by omega
        have s2 : ¬ cap = i := by omega
        have s3 : (i : Int) ≤ (cap : Int) := by omega
        subst hjn
        clear hS hki hjj hj1 hnn hzl hzs
        go_wp2_with (refine wpList_clear_m rfl _ 22 rfl 39 Try.underlying22 (.agg #[.int .u64 0, .int .u64 0, .int .i64 0, .int .i64 0]) (fun _ => by kernel_rfl) g (i * 4) (j - i) _ rfl HN0.out _ 39 HR.out zs HZS.out HL.out hz1 ?_)
        intro w7 hB7 hC7
        have hf := HFIN.out w7 (by simpa using hB7) hC7
        have HF := hid (show DfPost g cap U Z P w (.returned (.slice (some ⟨g, 0, none⟩) i cap)) w7 from ⟨by rw [hf.1, HKK.out], zs ++ Z, by rw [hf.1]; exact hf.2.1, by rw [hf.1, HKK.out]; exact hf.2.2.1, hf.2.2.2⟩)
        clear hf hB7 hC7 HFIN HR HL
        go_wp2_with fail
        go_ret
        exact HF.out
      | cons x R =>
        have hjn : j < n := by simp at hnn; omega
        have hx1 : (K ++ J ++ x :: R)[j]? = some x := at_pre (by simp; omega)
        obtain ⟨c0, c1, c2, c3⟩ := hS.r.cells hx1
        have cb := hid (fun (w' : World) (h : Chg (· = g) w w') => HT.out w' x.1 h)
        have HCW := hid hS.h
        have HGG := hid hS.r.lt
        have HST := hid hS
        have i0 : (0 : Int) ≤ (i : Int) := by omega
        have i1 : (i : Int) < (n : Int) := by omega
        have j0 : (0 : Int) ≤ (j : Int) := by omega
        have j1 : (j : Int) < (n : Int) := by omega
        have e5 : IntKind.i64.wrap ((j : Int) + 1) = (j : Int) + 1 := by rw [IntKind.wrap_i64]; omega
        have HJN := hid hjn
        have HKI := hid hki
        have HHP := hid (And.intro HST.out HKI.out)
        obtain ⟨⟨⟨⟨x1, x2⟩, x3⟩, x4⟩, x5⟩ := x
        simp only at c0 c1 c2 c3 cb
        have HPV := hid (Blk.new wr [.int .u64 (x1 : Int), .int .u64 (x2 : Int), .int .i64 x3, .int .i64 x4] 39)
        have HBV := hid ((Below.refl wr.heap.size wr).alloc (Nat.le_refl _) (.cells #[.int .u64 (x1 : Int), .int .u64 (x2 : Int), .int .i64 x3, .int .i64 x4] 39))
        have cb1 := hid (cb.out _ (HCW.out.trans' (Chg.of_below HBV.out _)))
        clear hS hki hjj hj1 hnn hx1 hjn cb
        cases hp : P (((x1, x2), x3), x4) with
        | true =>
          rw [hp] at cb1
          go_wp2_with fail
          refine cb1.out.mono ?_
          rintro _ w5 ⟨rfl, hb5⟩
          have HF := hid (HST.out.gone (HBV.out.trans (hb5.mono HBV.out.size)) hp)
          clear hb5 cb1 c0 c1 c2 c3
          go_wp2_with fail
          go_roundw
          case rel => exact ⟨i, j + 1, _, _, _, rfl, by go_num, HF.out⟩
          case measure => have := HJN.out; simp [intOf]; omega
        | false =>
          rw [hp] at cb1
          go_wp2_with fail
          refine cb1.out.mono ?_
          rintro _ w5 ⟨rfl, hb5⟩
          have hbb := HBV.out.trans (hb5.mono HBV.out.size)
          obtain ⟨J', hJ'⟩ := HST.out.kept hbb hp
          have HF := hid hJ'
          have hr6 := HST.out.r.below hbb
          have f0 := hr6.frozen (i * 4)
          have f1 := hr6.frozen (i * 4 + 1)
          have f2 := hr6.frozen (i * 4 + 2)
          have f3 := hr6.frozen (i * 4 + 3)
          have hpv := HPV.out.below' hb5
          have z0 := hpv.cellv (i := 0) rfl
          have z1 := hpv.cellv (i := 1) rfl
          have z2 := hpv.cellv (i := 2) rfl
          have z3 := hpv.cellv (i := 3) rfl
          obtain ⟨t0, t1, t2, t3⟩ : (∃ u, w5.cell? ⟨g, i * 4, none⟩ = some u) ∧ (∃ u, w5.cell? ⟨g, i * 4 + 1, none⟩ = some u) ∧ (∃ u, w5.cell? ⟨g, i * 4 + 2, none⟩ = some u) ∧ (∃ u, w5.cell? ⟨g, i * 4 + 3, none⟩ = some u) := by
            have hlt : i < (K ++ J ++ (((((x1, x2), x3), x4), x5) : Tg) :: R).length := by
              have := HKI.out; simp; omega
            obtain ⟨a0, a1, a2, a3⟩ := hr6.cells (List.getElem?_eq_getElem hlt)
            exact ⟨⟨_, a0⟩, ⟨_, a1⟩, ⟨_, a2⟩, ⟨_, a3⟩⟩
          obtain ⟨u0, t0⟩ := t0
          obtain ⟨u1, t1⟩ := t1
          obtain ⟨u2, t2⟩ := t2
          obtain ⟨u3, t3⟩ := t3
          have hne : wr.heap.size ≠ g := by have := HGG.out; omega
          have e6 : IntKind.i64.wrap ((i : Int) + 1) = (i : Int) + 1 := by rw [IntKind.wrap_i64]; omega
          clear hb5 cb1 c0 c1 c2 c3 hbb hJ' hr6 hpv
          go_wp2_with fail
          go_roundw
          case rel => exact ⟨i + 1, j + 1, _, _, _, by go_num, by go_num, HF.out⟩
          case measure => have := HJN.out; simp [intOf]; omega

theorem del_func_nil (w : World) (f : FuncId) (lb : Array Value) : Calls Try.prog 54 #[.slice none 0 0, .func (.func f) #[] lb] w fun e w' => e = .returned (.slice none 0 0) ∧ w = w' := by
  have cI : Calls Try.prog 67 #[.slice none 0 0, .func (.func f) #[] lb] w fun e w' => e = .returned (.int .i64 (-1)) ∧ w = w' := by
    go_enter Try.func67, Try.ntmps67
    go_wp2_with fail
    go_loopw [8] (fun iv wr => iv = .int .i64 0 ∧ w = wr) (fun _ _ => 0)
    case atStart => exact ⟨rfl, rfl⟩
    case round =>
      obtain ⟨rfl, rfl⟩ := hrel
      go_wp2_with fail
      go_ret
      exact ⟨rfl, rfl⟩
  go_enter Try.func54, Try.ntmps54
  go_wp2_with fail
  refine cI.mono ?_
  rintro _ w1 ⟨rfl, rfl⟩
  go_wp2_with fail
  go_ret
  exact ⟨rfl, rfl⟩
end Go.Proofs.Ytcchjljdhjkmeaa
