/-
  The document's book: a new one, why a command can't be done, a row of commands. No condition but that words are words.
-/
import Derived.Test.YtcnecjjgnnkjkaaBatchM
import Derived.Test.YtcnecjjgnnkjkaaSliceOp
namespace Go.Proofs.Ytcnecjjgnnkjkaa
open Go.RowKit
set_option linter.unusedVariables false
set_option linter.unusedSimpArgs false
set_option maxRecDepth 100000
attribute [local go_sem high] eq_ad eq_pf eq_rt

def HasRel (w : World) (U : List Int) (n : Int) (iv : Value) (wr : World) : Prop := ∃ k : Nat, k ≤ U.length ∧ iv = .int .i64 k ∧ n ∉ U.take k ∧ Below w.heap.size w wr
theorem not_take {U : List Int} {n x : Int} {k : Nat} (h : n ∉ U.take k) (hx : U[k]? = some x) (hne : x ≠ n) : n ∉ U.take (k + 1) := by
  obtain ⟨hk, e⟩ := List.getElem?_eq_some_iff.1 hx
  rw [List.take_succ_eq_append_getElem hk, e, List.mem_append, List.mem_singleton]
  rintro (h1 | h1)
  · exact h h1
  · exact hne h1.symm
theorem ref_hasI (w : World) (v : Value) (U : List Int) (R : Rd iEn 1 w v U) (n : Int) (b : Bool) (hb : b = decide (n ∈ U)) :
    Calls Try.prog 38 #[v, .int .i64 n] w fun e w' => e = .returned (.bool b) ∧ Below w.heap.size w w' := by
  have HB := hid hb
  have HR := hid fun k x (h : U[k]? = some x) => R.get iEn_len (by decide) h
  obtain ⟨A, cap, rfl, n1, m1⟩ := R.form
  unfold maxLen at m1
  clear hb R
  go_enter Try.func38, Try.ntmps38
  go_wp2_with fail
  go_loopw [5] (fun iv wr => HasRel w U n iv wr) (fun iv _ => U.length - (intOf iv).toNat)
  case atStart => exact ⟨0, Nat.zero_le _, rfl, by simp, Below.refl _ _⟩
  case round =>
    obtain ⟨k, hk, rfl, hnm, hB⟩ := hrel
    have HNM := hid hnm
    have HBW := hid hB
    clear hnm
    by_cases hlt : k < U.length
    · obtain ⟨x, hx⟩ : ∃ x, U[k]? = some x := ⟨_, List.getElem?_eq_getElem hlt⟩
      have HX := hid hx
      obtain ⟨ba, oa, ca, ha, _, _, la, sa⟩ := HR.out k x hx
      injection ha with ha _ hc1
      subst ha hc1
      have y : wr.cell? ⟨ba, oa + k, none⟩ = some (.int .i64 x) := by
        have := sa 0 _ rfl
        rw [Nat.mul_one, Nat.add_zero] at this
        exact (hB.cell (p := ⟨ba, oa + k, none⟩) la).trans this
      clear hx sa hB
      by_cases he : x = n
      · have e1 : (x == n) = true := by simp [he]
        have HE := hid he
        clear he
        go_wp2_with fail
        go_ret
        refine ⟨ret_bool ?_, HBW.out⟩
        rw [HB.out, decide_eq_true (by rw [← HE.out]; exact List.mem_of_getElem? HX.out)]
      · have e1 : (x == n) = false := by simp [he]
        have HE := hid he
        clear he
        go_wp2_with fail
        go_roundw
        case rel => exact ⟨k + 1, by omega, by go_num, not_take HNM.out HX.out HE.out, HBW.out⟩
        case measure => simp [intOf]; omega
    · go_wp2_with fail
      go_ret
      refine ⟨ret_bool ?_, HBW.out⟩
      have := HNM.out
      rw [List.take_of_length_le (by omega)] at this
      rw [HB.out, decide_eq_false this]

/-- The document's book at block b; its routes are never written again. -/
structure RBkQ (w : World) (b : Nat) (m : Lim) (R : List Rt) (v : Value) : Prop where
  top : Blk w b 63 [.int .i64 (m.wd : Int), .int .i64 (m.rt : Int), .int .i64 (m.mh : Int), v]
  rd : Rd rtEn 4 w v R
  lt : ∀ z, v.ownBlock = some z → z < w.heap.size ∧ z ≠ b
def RBkAt (w : World) (b : Nat) (m : Lim) (R : List Rt) : Prop := ∃ v, RBkQ w b m R v
theorem RBkQ.below {w w' : World} {b : Nat} {m : Lim} {R : List Rt} {v : Value} (h : RBkQ w b m R v) (k : Below w.heap.size w w') : RBkQ w' b m R v :=
  ⟨h.top.below' k, h.rd.below rtEn_length k, fun z hz => ⟨Nat.lt_of_lt_of_le (h.lt z hz).1 k.size, (h.lt z hz).2⟩⟩
theorem RBkAt.below {w w' : World} {b : Nat} {m : Lim} {R : List Rt} (h : RBkAt w b m R) (k : Below w.heap.size w w') : RBkAt w' b m R := let ⟨v, h⟩ := h; ⟨v, h.below k⟩
theorem RBkQ.chg {w w' : World} {b : Nat} {m : Lim} {R : List Rt} {v : Value} {S : Nat → Prop} (h : RBkQ w b m R v) (k : Chg S w w') (h1 : ¬ S b) (h2 : ∀ z, v.ownBlock = some z → ¬ S z) : RBkQ w' b m R v :=
  ⟨h.top.chg k h1, h.rd.chg rtEn_length k h2, fun z hz => ⟨Nat.lt_of_lt_of_le (h.lt z hz).1 k.size, (h.lt z hz).2⟩⟩
/-- The hops of all routes but those of a prefix, each once. -/
def RcRel (w : World) (R : List Rt) (p : Pf) (uv iv : Value) (wr : World) : Prop :=
  ∃ (j : Nat) (U : List Int), j ≤ R.length ∧ iv = .int .i64 (j : Int) ∧ Owns wr w.heap.size 3 1 uv U.length (U.flatMap iEn) ∧ U.length = dist (hopsL (withoutL (R.take j) p)) ∧ (∀ h, h ∈ U ↔ h ∈ hopsL (withoutL (R.take j) p)) ∧ Below w.heap.size w wr
theorem hopsW_snoc {R : List Rt} {j : Nat} {x : Rt} (hx : R[j]? = some x) (p : Pf) : hopsL (withoutL (R.take (j + 1)) p) = hopsL (withoutL (R.take j) p) ++ if x.1 = p then [] else [x.2] := by
  obtain ⟨hj, e⟩ := List.getElem?_eq_some_iff.1 hx
  unfold withoutL hopsL
  rw [List.take_succ_eq_append_getElem hj, e, List.filter_append, List.map_append]
  congr 1
  by_cases h : x.1 = p <;> simp [h]
theorem dist_snoc (A : List Int) (x : Int) : dist (A ++ [x]) = dist A + if x ∈ A then 0 else 1 := by
  rw [dist_perm (List.perm_append_singleton x A), dist_cons]
  split <;> omega
theorem used_same {R : List Rt} {j : Nat} {x : Rt} {p : Pf} {U : List Int} (hx : R[j]? = some x) (hl : U.length = dist (hopsL (withoutL (R.take j) p))) (hm : ∀ h, h ∈ U ↔ h ∈ hopsL (withoutL (R.take j) p)) (h : x.1 = p ∨ x.2 ∈ U) :
    U.length = dist (hopsL (withoutL (R.take (j + 1)) p)) ∧ ∀ h, h ∈ U ↔ h ∈ hopsL (withoutL (R.take (j + 1)) p) := by
  rw [hopsW_snoc hx]
  by_cases e : x.1 = p
  · rw [if_pos e, List.append_nil]; exact ⟨hl, hm⟩
  · rw [if_neg e]
    have h2 := h.resolve_left e
    refine ⟨by rw [dist_snoc, if_pos ((hm _).1 h2), hl]; rfl, fun y => ?_⟩
    rw [List.mem_append, List.mem_singleton, hm y]
    exact ⟨.inl, fun k => k.elim id (fun k => k ▸ (hm _).1 h2)⟩
theorem used_more {R : List Rt} {j : Nat} {x : Rt} {p : Pf} {U : List Int} (hx : R[j]? = some x) (hl : U.length = dist (hopsL (withoutL (R.take j) p))) (hm : ∀ h, h ∈ U ↔ h ∈ hopsL (withoutL (R.take j) p)) (h1 : x.1 ≠ p) (h2 : x.2 ∉ U) :
    (U ++ [x.2]).length = dist (hopsL (withoutL (R.take (j + 1)) p)) ∧ ∀ h, h ∈ U ++ [x.2] ↔ h ∈ hopsL (withoutL (R.take (j + 1)) p) := by
  rw [hopsW_snoc hx, if_neg h1]
  refine ⟨by rw [dist_snoc, if_neg (fun k => h2 ((hm _).2 k)), List.length_append, hl]; rfl, fun y => ?_⟩
  rw [List.mem_append, List.mem_append, hm y]
theorem getV_find {R : List Rt} (hs : Srt R) (p : Pf) : findI R p < 0 ↔ getV (mapOf R) p = none := by
  rcases find_parts hs p with ⟨h1, h2⟩ | ⟨k, u, h1, _, h3⟩
  · rw [h1, h2]; simp
  · rw [h1, h3]; simp

set_option maxHeartbeats 4000000 in
theorem ref_check {w : World} {b : Nat} {m : Lim} {R : List Rt} (H : RBkAt w b m R) (hi : Inv m R) (hlim : m.rt ≤ 300) (c : Cm) (hc : c.ok) :
    Calls Try.prog 23 #[.pointer (some ⟨b, 0, none⟩), .agg #[.int .i64 c.k, .int .i64 c.hop, .int .i64 c.n, .int .u64 (c.p.1.1 : Int), .int .u64 (c.p.1.2 : Int), .int .i64 c.p.2, .int .u64 (c.a.1 : Int), .int .u64 (c.a.2 : Int), .int .u64 (c.s : Int), c.b]] w fun e w' => e = .returned (.int .i64 (cmErr m R c)) ∧ Below w.heap.size w w' := by
  have hok := hc
  obtain ⟨v0, H⟩ := H
  obtain ⟨k, hop, n, ⟨⟨p1, p2⟩, p3⟩, ⟨a1, a2⟩, s, bv⟩ := c
  have hpo := hok.p
  simp only [cmErr] at *
  have hg := guard_pf
  have hb0 := (Below.refl w.heap.size w).alloc (Nat.le_refl _) (.cells #[.int .i64 k, .int .i64 hop, .int .i64 n, .int .u64 (p1 : Int), .int .u64 (p2 : Int), .int .i64 p3, .int .u64 (a1 : Int), .int .u64 (a2 : Int), .int .u64 (s : Int), bv] 53)
  have hpb := Blk.new_at w #[.int .i64 k, .int .i64 hop, .int .i64 n, .int .u64 (p1 : Int), .int .u64 (p2 : Int), .int .i64 p3, .int .u64 (a1 : Int), .int .u64 (a2 : Int), .int .u64 (s : Int), bv] 53 w.heap.size rfl
  have H1 := H.below hb0
  have HLEN := hid (show R.length ≤ 300 by have := hi.len; omega)
  have HSR := hid hi.srt
  obtain ⟨gv, hgv⟩ : ∃ v, getV (mapOf R) ((p1, p2), p3) = v := ⟨_, rfl⟩
  obtain ⟨r, hr⟩ : ∃ r : Bool, decide (Pf.right ((p1, p2), p3)) = r := ⟨_, rfl⟩
  obtain ⟨fi, hfi⟩ : ∃ fi, findI R ((p1, p2), p3) = fi := ⟨_, rfl⟩
  have hfn := getV_find hi.srt ((p1, p2), p3)
  rw [hgv, hfi] at hfn
  have HFI := hid hfi
  have HFN := hid hfn
  have cR := hid (fun (w' : World) => ref_right (p1, p2) hpo p3 r hr.symm w')
  have hE : checkE m R k hop ((p1, p2), p3) = if k ≠ 1 ∧ k ≠ 2 then 1 else if r = false ∨ (m.wd : Int) < p3 then 3 else if k = 1 then (if hop < 0 then 1 else if fi < 0 ∧ (m.rt : Int) ≤ R.length then 5 else if hop ∉ hopsL (withoutL R ((p1, p2), p3)) ∧ m.mh ≤ dist (hopsL (withoutL R ((p1, p2), p3))) then 6 else 0) else if fi < 0 then 4 else 0 := by
    unfold checkE addE
    rw [hgv]
    have h1 : (¬ Pf.right ((p1, p2), p3)) ↔ r = false := by rw [← hr]; simp
    have h2 : (m.rt ≤ R.length) ↔ ((m.rt : Int) ≤ (R.length : Int)) := by omega
    simp only [h1, ← hfn, h2]
  have HE := hid hE
  generalize checkE m R k hop ((p1, p2), p3) = res at *
  obtain ⟨w0, hw0⟩ : ∃ w0, w.alloc (.cells #[.int .i64 k, .int .i64 hop, .int .i64 n, .int .u64 (p1 : Int), .int .u64 (p2 : Int), .int .i64 p3, .int .u64 (a1 : Int), .int .u64 (a2 : Int), .int .u64 (s : Int), bv] 53) = w0 := ⟨_, rfl⟩
  rw [hw0] at hb0 hpb H1
  have hpb0 := hpb
  have hsz : w0.heap.size = w.heap.size + 1 := by rw [← hw0]; simp
  have HB0 := hid hb0
  have HC0 := hid hpb
  have HQ0 := hid H1
  have x0 := hpb.cellv (i := 0) rfl
  have x1 := hpb.cellv (i := 1) rfl
  have x3 := hpb.cellv (i := 3) rfl
  have x4 := hpb.cellv (i := 4) rfl
  have x5 := hpb.cellv (i := 5) rfl
  clear hE H hgv hr hfi hfn hok hc hi hpo
  subst hw0
  have HR := hid fun j x (h : R[j]? = some x) => HQ0.out.rd.get rtEn_length (by decide) h
  obtain ⟨A, cap, rfl, n1, m1⟩ := HQ0.out.rd.form
  unfold maxLen at m1
  by_cases hk : k ≠ 1 ∧ k ≠ 2
  · rw [if_pos hk] at HE
    have e1 : (k != 1) = true := by simpa using hk.1
    have e2 : (k != 2) = true := by simpa using hk.2
    clear hk HR
    go_enter Try.func23, Try.ntmps23
    go_wp2_with fail
    go_ret
    exact ⟨by rw [HE.out]; rfl, HB0.out⟩
  rw [if_neg hk] at HE
  have hk2 : k = 1 ∨ k = 2 := by omega
  clear hk
  rcases hk2 with rfl | rfl
  · skip
    cases r with
    | false =>
      rw [if_pos (.inl rfl)] at HE
      go_enter Try.func23, Try.ntmps23
      go_wp2_with fail
      have hb2 := HB0.out.alloc (by simp) (.cells #[.int .u64 (p1 : Int), .int .u64 (p2 : Int), .int .i64 p3] 51)
      have hp2 := Blk.new_at (w.alloc (.cells #[.int .i64 1, .int .i64 hop, .int .i64 n, .int .u64 (p1 : Int), .int .u64 (p2 : Int), .int .i64 p3, .int .u64 (a1 : Int), .int .u64 (a2 : Int), .int .u64 (s : Int), bv] 53)) #[.int .u64 (p1 : Int), .int .u64 (p2 : Int), .int .i64 p3] 51 (w.heap.size + 1) (by simp)
      have hbb2 : Below (w.alloc (.cells #[.int .i64 1, .int .i64 hop, .int .i64 n, .int .u64 (p1 : Int), .int .u64 (p2 : Int), .int .i64 p3, .int .u64 (a1 : Int), .int .u64 (a2 : Int), .int .u64 (s : Int), bv] 53)).heap.size (w.alloc (.cells #[.int .i64 1, .int .i64 hop, .int .i64 n, .int .u64 (p1 : Int), .int .u64 (p2 : Int), .int .i64 p3, .int .u64 (a1 : Int), .int .u64 (a2 : Int), .int .u64 (s : Int), bv] 53)) ((w.alloc (.cells #[.int .i64 1, .int .i64 hop, .int .i64 n, .int .u64 (p1 : Int), .int .u64 (p2 : Int), .int .i64 p3, .int .u64 (a1 : Int), .int .u64 (a2 : Int), .int .u64 (s : Int), bv] 53)).alloc (.cells #[.int .u64 (p1 : Int), .int .u64 (p2 : Int), .int .i64 p3] 51)) := (Below.refl _ _).alloc (Nat.le_refl _) _
      have HcB := hid hb2
      have HcP := hid hp2
      have HcC := hid (HC0.out.below' hbb2)
      have HcQ := hid (HQ0.out.below hbb2)
      have HR2 := hid (fun j x (h : R[j]? = some x) => HcQ.out.rd.get rtEn_length (by decide) h)
      clear HB0 HC0 HQ0 hb2 hp2 hbb2 hpb hpb0 x0 x1 x3 x4 x5 HR hb0 H1 hsz
      generalize (w.alloc (.cells #[.int .i64 1, .int .i64 hop, .int .i64 n, .int .u64 (p1 : Int), .int .u64 (p2 : Int), .int .i64 p3, .int .u64 (a1 : Int), .int .u64 (a2 : Int), .int .u64 (s : Int), bv] 53)).alloc (.cells #[.int .u64 (p1 : Int), .int .u64 (p2 : Int), .int .i64 p3] 51) = w2 at *
      refine wp_region_later (fun w' => w'.cell? ⟨w.heap.size + 1, 0, none⟩ = some (.int .u64 (p1 : Int)) ∧ w'.cell? ⟨w.heap.size + 1, 1, none⟩ = some (.int .u64 (p2 : Int)) ∧ w'.cell? ⟨w.heap.size + 1, 2, none⟩ = some (.int .i64 p3) ∧ w'.cell? ⟨b, 0, none⟩ = some (.int .i64 (m.wd : Int)) ∧ w'.cell? ⟨b, 3, none⟩ = some (.slice A R.length cap)) (fun z => ⟨z.cell (HcP.out.cellv (i := 0) rfl), z.cell (HcP.out.cellv (i := 1) rfl), z.cell (HcP.out.cellv (i := 2) rfl), z.cell (HcQ.out.top.cellv (i := 0) rfl), z.cell (HcQ.out.top.cellv (i := 3) rfl)⟩) (by kernel_rfl) (by kernel_rfl) (fun HS => ?_)
      repeat (go_big_quiet_step (with_reducible exact Later.calls _ (cR.out _)))
      refine wpQuiet_nil ?_
      rintro w3 ⟨⟨_, hb⟩, rfl⟩
      have HdB := hid (held_next HcB.out hb)
      have HdP := hid (HcP.out.below' hb)
      have HdC := hid (HcC.out.below' hb)
      have HdQ := hid (HcQ.out.below hb)
      clear hb HS
      go_wp2_with fail
      go_ret
      exact ⟨by rw [HE.out]; rfl, HdB.out⟩
    | true =>
      by_cases hw : (m.wd : Int) < p3
      · skip
        rw [if_pos (.inr hw)] at HE
        have e0 : decide ((m.wd : Int) < p3) = true := decide_eq_true hw
        clear hw
        go_enter Try.func23, Try.ntmps23
        go_wp2_with fail
        have hb2 := HB0.out.alloc (by simp) (.cells #[.int .u64 (p1 : Int), .int .u64 (p2 : Int), .int .i64 p3] 51)
        have hp2 := Blk.new_at (w.alloc (.cells #[.int .i64 1, .int .i64 hop, .int .i64 n, .int .u64 (p1 : Int), .int .u64 (p2 : Int), .int .i64 p3, .int .u64 (a1 : Int), .int .u64 (a2 : Int), .int .u64 (s : Int), bv] 53)) #[.int .u64 (p1 : Int), .int .u64 (p2 : Int), .int .i64 p3] 51 (w.heap.size + 1) (by simp)
        have hbb2 : Below (w.alloc (.cells #[.int .i64 1, .int .i64 hop, .int .i64 n, .int .u64 (p1 : Int), .int .u64 (p2 : Int), .int .i64 p3, .int .u64 (a1 : Int), .int .u64 (a2 : Int), .int .u64 (s : Int), bv] 53)).heap.size (w.alloc (.cells #[.int .i64 1, .int .i64 hop, .int .i64 n, .int .u64 (p1 : Int), .int .u64 (p2 : Int), .int .i64 p3, .int .u64 (a1 : Int), .int .u64 (a2 : Int), .int .u64 (s : Int), bv] 53)) ((w.alloc (.cells #[.int .i64 1, .int .i64 hop, .int .i64 n, .int .u64 (p1 : Int), .int .u64 (p2 : Int), .int .i64 p3, .int .u64 (a1 : Int), .int .u64 (a2 : Int), .int .u64 (s : Int), bv] 53)).alloc (.cells #[.int .u64 (p1 : Int), .int .u64 (p2 : Int), .int .i64 p3] 51)) := (Below.refl _ _).alloc (Nat.le_refl _) _
        have HcB := hid hb2
        have HcP := hid hp2
        have HcC := hid (HC0.out.below' hbb2)
        have HcQ := hid (HQ0.out.below hbb2)
        have HR2 := hid (fun j x (h : R[j]? = some x) => HcQ.out.rd.get rtEn_length (by decide) h)
        clear HB0 HC0 HQ0 hb2 hp2 hbb2 hpb hpb0 x0 x1 x3 x4 x5 HR hb0 H1 hsz
        generalize (w.alloc (.cells #[.int .i64 1, .int .i64 hop, .int .i64 n, .int .u64 (p1 : Int), .int .u64 (p2 : Int), .int .i64 p3, .int .u64 (a1 : Int), .int .u64 (a2 : Int), .int .u64 (s : Int), bv] 53)).alloc (.cells #[.int .u64 (p1 : Int), .int .u64 (p2 : Int), .int .i64 p3] 51) = w2 at *
        refine wp_region_later (fun w' => w'.cell? ⟨w.heap.size + 1, 0, none⟩ = some (.int .u64 (p1 : Int)) ∧ w'.cell? ⟨w.heap.size + 1, 1, none⟩ = some (.int .u64 (p2 : Int)) ∧ w'.cell? ⟨w.heap.size + 1, 2, none⟩ = some (.int .i64 p3) ∧ w'.cell? ⟨b, 0, none⟩ = some (.int .i64 (m.wd : Int)) ∧ w'.cell? ⟨b, 3, none⟩ = some (.slice A R.length cap)) (fun z => ⟨z.cell (HcP.out.cellv (i := 0) rfl), z.cell (HcP.out.cellv (i := 1) rfl), z.cell (HcP.out.cellv (i := 2) rfl), z.cell (HcQ.out.top.cellv (i := 0) rfl), z.cell (HcQ.out.top.cellv (i := 3) rfl)⟩) (by kernel_rfl) (by kernel_rfl) (fun HS => ?_)
        repeat (go_big_quiet_step (with_reducible exact Later.calls _ (cR.out _)))
        refine wpQuiet_nil ?_
        rintro w3 ⟨⟨_, hb⟩, rfl⟩
        have HdB := hid (held_next HcB.out hb)
        have HdP := hid (HcP.out.below' hb)
        have HdC := hid (HcC.out.below' hb)
        have HdQ := hid (HcQ.out.below hb)
        clear hb HS
        go_wp2_with fail
        go_ret
        exact ⟨by rw [HE.out]; rfl, HdB.out⟩
      rw [if_neg (fun h => h.elim (fun h => by cases h) hw)] at HE
      have e0 : decide ((m.wd : Int) < p3) = false := decide_eq_false hw
      clear hw
      go_enter Try.func23, Try.ntmps23
      go_wp2_with fail
      have hb2 := HB0.out.alloc (by simp) (.cells #[.int .u64 (p1 : Int), .int .u64 (p2 : Int), .int .i64 p3] 51)
      have hp2 := Blk.new_at (w.alloc (.cells #[.int .i64 1, .int .i64 hop, .int .i64 n, .int .u64 (p1 : Int), .int .u64 (p2 : Int), .int .i64 p3, .int .u64 (a1 : Int), .int .u64 (a2 : Int), .int .u64 (s : Int), bv] 53)) #[.int .u64 (p1 : Int), .int .u64 (p2 : Int), .int .i64 p3] 51 (w.heap.size + 1) (by simp)
      have hbb2 : Below (w.alloc (.cells #[.int .i64 1, .int .i64 hop, .int .i64 n, .int .u64 (p1 : Int), .int .u64 (p2 : Int), .int .i64 p3, .int .u64 (a1 : Int), .int .u64 (a2 : Int), .int .u64 (s : Int), bv] 53)).heap.size (w.alloc (.cells #[.int .i64 1, .int .i64 hop, .int .i64 n, .int .u64 (p1 : Int), .int .u64 (p2 : Int), .int .i64 p3, .int .u64 (a1 : Int), .int .u64 (a2 : Int), .int .u64 (s : Int), bv] 53)) ((w.alloc (.cells #[.int .i64 1, .int .i64 hop, .int .i64 n, .int .u64 (p1 : Int), .int .u64 (p2 : Int), .int .i64 p3, .int .u64 (a1 : Int), .int .u64 (a2 : Int), .int .u64 (s : Int), bv] 53)).alloc (.cells #[.int .u64 (p1 : Int), .int .u64 (p2 : Int), .int .i64 p3] 51)) := (Below.refl _ _).alloc (Nat.le_refl _) _
      have HcB := hid hb2
      have HcP := hid hp2
      have HcC := hid (HC0.out.below' hbb2)
      have HcQ := hid (HQ0.out.below hbb2)
      have HR2 := hid (fun j x (h : R[j]? = some x) => HcQ.out.rd.get rtEn_length (by decide) h)
      clear HB0 HC0 HQ0 hb2 hp2 hbb2 hpb hpb0 x0 x1 x3 x4 x5 HR hb0 H1 hsz
      generalize (w.alloc (.cells #[.int .i64 1, .int .i64 hop, .int .i64 n, .int .u64 (p1 : Int), .int .u64 (p2 : Int), .int .i64 p3, .int .u64 (a1 : Int), .int .u64 (a2 : Int), .int .u64 (s : Int), bv] 53)).alloc (.cells #[.int .u64 (p1 : Int), .int .u64 (p2 : Int), .int .i64 p3] 51) = w2 at *
      refine wp_region_later (fun w' => w'.cell? ⟨w.heap.size + 1, 0, none⟩ = some (.int .u64 (p1 : Int)) ∧ w'.cell? ⟨w.heap.size + 1, 1, none⟩ = some (.int .u64 (p2 : Int)) ∧ w'.cell? ⟨w.heap.size + 1, 2, none⟩ = some (.int .i64 p3) ∧ w'.cell? ⟨b, 0, none⟩ = some (.int .i64 (m.wd : Int)) ∧ w'.cell? ⟨b, 3, none⟩ = some (.slice A R.length cap)) (fun z => ⟨z.cell (HcP.out.cellv (i := 0) rfl), z.cell (HcP.out.cellv (i := 1) rfl), z.cell (HcP.out.cellv (i := 2) rfl), z.cell (HcQ.out.top.cellv (i := 0) rfl), z.cell (HcQ.out.top.cellv (i := 3) rfl)⟩) (by kernel_rfl) (by kernel_rfl) (fun HS => ?_)
      repeat (go_big_quiet_step (with_reducible exact Later.calls _ (cR.out _)))
      refine wpQuiet_nil ?_
      rintro w3 ⟨⟨_, hb⟩, rfl⟩
      have HdB := hid (held_next HcB.out hb)
      have HdP := hid (HcP.out.below' hb)
      have HdC := hid (HcC.out.below' hb)
      have HdQ := hid (HcQ.out.below hb)
      clear hb HS
      have cF := hid (fun (w' : World) (h : Below w3.heap.size w3 w') => HFI.out ▸ ref_find w' _ R (HdQ.out.rd.below rtEn_length h) ((p1, p2), p3))
      go_wp2_with fail
      refine wp_region_later (fun w' => w'.cell? ⟨w.heap.size + 1, 0, none⟩ = some (.int .u64 (p1 : Int)) ∧ w'.cell? ⟨w.heap.size + 1, 1, none⟩ = some (.int .u64 (p2 : Int)) ∧ w'.cell? ⟨w.heap.size + 1, 2, none⟩ = some (.int .i64 p3) ∧ w'.cell? ⟨b, 0, none⟩ = some (.int .i64 (m.wd : Int)) ∧ w'.cell? ⟨b, 3, none⟩ = some (.slice A R.length cap)) (fun z => ⟨z.cell (HdP.out.cellv (i := 0) rfl), z.cell (HdP.out.cellv (i := 1) rfl), z.cell (HdP.out.cellv (i := 2) rfl), z.cell (HdQ.out.top.cellv (i := 0) rfl), z.cell (HdQ.out.top.cellv (i := 3) rfl)⟩) (by kernel_rfl) (by kernel_rfl) (fun HS => ?_)
      repeat (go_big_quiet_step (with_reducible exact Later.calls _ (cF.out _ (Later.below _))))
      refine wpQuiet_nil ?_
      rintro w4 ⟨⟨_, hb⟩, rfl⟩
      have HeB := hid (held_next HdB.out hb)
      have HeP := hid (HdP.out.below' hb)
      have HeC := hid (HdC.out.below' hb)
      have HeQ := hid (HdQ.out.below hb)
      clear hb HS
      clear cF
      have z0 := HeC.out.cellv (i := 0) rfl
      have z1 := HeC.out.cellv (i := 1) rfl
      rw [if_pos trivial] at HE
      by_cases hh : hop < 0
      · rw [if_pos hh] at HE
        go_wp2_with fail
        go_ret
        exact ⟨by rw [HE.out]; rfl, HeB.out⟩
      rw [if_neg hh] at HE
      have q1 := HeQ.out.top.cellv (i := 1) rfl
      have q2 := HeQ.out.top.cellv (i := 2) rfl
      have q3 := HeQ.out.top.cellv (i := 3) rfl
      by_cases hf : fi < 0 ∧ (m.rt : Int) ≤ R.length
      · rw [if_pos hf] at HE
        have d1 : decide (fi < 0) = true := decide_eq_true hf.1
        have d2 : decide ((m.rt : Int) ≤ (R.length : Int)) = true := decide_eq_true hf.2
        go_wp2_with fail
        go_quiet (fail)
        go_wp2_with fail
        go_ret
        exact ⟨by rw [HE.out]; rfl, HeB.out.drewN _⟩
      rw [if_neg hf] at HE
      have HR4 := hid (fun j x (h : R[j]? = some x) => HeQ.out.rd.get rtEn_length (by decide) h)
      have hcase : decide (fi < 0) = false ∨ (decide (fi < 0) = true ∧ decide ((m.rt : Int) ≤ (R.length : Int)) = false) := by
        by_cases h1 : fi < 0
        · exact .inr ⟨decide_eq_true h1, decide_eq_false fun h2 => hf ⟨h1, h2⟩⟩
        · exact .inl (decide_eq_false h1)
      clear hf HR2 HcB HcC HcP HcQ HdB HdC HdP HdQ cR HSR HFN HFI
      go_upto_region 13 with fail
      go_cut [59] (fun s wc => s = .bool false ∧ Below w4.heap.size w4 wc)
      case first =>
        have HB4 := hid (Below.refl w4.heap.size w4)
        have HD2 := hid (fun (h : decide ((m.rt : Int) ≤ (R.length : Int)) = false) => show decide (m.rt ≤ R.length) = false from decide_eq_false (by have := of_decide_eq_false h; omega))
        rcases hcase with d1 | ⟨d1, d2⟩
        · go_wp2_with fail
          go_quiet (fail)
          go_wp2_with fail
          go_meet
          exact ⟨rfl, HB4.out.drewN _⟩
        · have HD3 := hid (HD2.out d2)
          go_wp2_with fail
          go_quiet (fail)
          go_wp2_with fail
          go_meet
          exact ⟨by rw [HD3.out], HB4.out.drewN _⟩
      obtain ⟨rfl, hbc⟩ := hcut
      have HBC := hid hbc
      have HeP := hid (HeP.out.below' hbc)
      have HeC := hid (HeC.out.below' hbc)
      have HeQ := hid (HeQ.out.below hbc)
      have HeB := hid (held_next HeB.out hbc)
      have HR4 := hid (fun j x (h : R[j]? = some x) => HeQ.out.rd.get rtEn_length (by decide) h)
      clear q1 q2 q3 z0 z1 hcase hbc
      go_wp2_with fail
      go_loopw [7, 8] (fun uv iv wr => RcRel wc R ((p1, p2), p3) uv iv wr) (fun _ iv _ => R.length - (intOf iv).toNat)
      case atStart => exact ⟨0, [], Nat.zero_le _, rfl, Owns.nil _ _ _ _, by simp [withoutL, hopsL, dist], by simp [withoutL, hopsL], Below.refl _ _⟩
      case round =>
        obtain ⟨j, U, hj, rfl, hO, hl, hm, hB⟩ := hrel
        have HUL := hid hl
        have HUM := hid hm
        have HO := hid hO
        have HfB := hid hB
        have HfP := hid (HeP.out.below' hB)
        have HfC := hid (HeC.out.below' hB)
        have HfQ := hid (HeQ.out.below hB)
        have hLEN := HLEN.out
        have hul : U.length ≤ j := by
          rw [hl]
          refine Nat.le_trans (dist_le _) ?_
          unfold hopsL
          rw [List.length_map]
          exact Nat.le_trans (without_le _ _) (List.length_take_le _ _)
        obtain ⟨A2, cap2, rfl, hnc, hcm, _⟩ := hO.form
        obtain ⟨nu, hnu⟩ : ∃ nu, U.length = nu := ⟨_, rfl⟩
        have HNU := hid hnu
        rw [hnu] at hul hnc ⊢
        clear hl hm hO hB hnu
        have q2 := HfQ.out.top.cellv (i := 2) rfl
        have q3 := HfQ.out.top.cellv (i := 3) rfl
        have z1 := HfC.out.cellv (i := 1) rfl
        by_cases hjm : j < R.length
        · obtain ⟨⟨⟨⟨x1, x2⟩, x3⟩, xh⟩, hx⟩ : ∃ x, R[j]? = some x := ⟨_, List.getElem?_eq_getElem hjm⟩
          have HX := hid hx
          obtain ⟨ba, oa, ca, ha, _, _, la, sa⟩ := HR4.out j _ hx
          injection ha with ha _ hc1
          subst ha hc1
          have u0 : wr.cell? ⟨ba, oa + j * 4, none⟩ = some (.int .u64 (x1 : Int)) := (HfB.out.cell (p := ⟨ba, oa + j * 4, none⟩) la).trans (sa 0 _ rfl)
          have u1 : wr.cell? ⟨ba, oa + j * 4 + 1, none⟩ = some (.int .u64 (x2 : Int)) := (HfB.out.cell (p := ⟨ba, oa + j * 4 + 1, none⟩) la).trans (sa 1 _ rfl)
          have u2 : wr.cell? ⟨ba, oa + j * 4 + 2, none⟩ = some (.int .i64 x3) := (HfB.out.cell (p := ⟨ba, oa + j * 4 + 2, none⟩) la).trans (sa 2 _ rfl)
          have u3 : wr.cell? ⟨ba, oa + j * 4 + 3, none⟩ = some (.int .i64 xh) := (HfB.out.cell (p := ⟨ba, oa + j * 4 + 3, none⟩) la).trans (sa 3 _ rfl)
          have HU := hid (show _ ∧ _ ∧ _ from ⟨u0, u1, u2⟩)
          have hbe := pf_beq ((x1, x2), x3) ((p1, p2), p3)
          obtain ⟨B, hBd⟩ : ∃ B : Bool, B = decide (xh ∈ U) := ⟨_, rfl⟩
          have HBD := hid hBd
          have cH := hid (fun (w' : World) (h : Below wr.heap.size wr w') => ref_hasI w' _ U (Rd.of_owns (HO.out.below h) iEn_len) xh B hBd)
          rw [HNU.out] at cH
          clear hx sa hBd
          by_cases he : ((x1, x2), x3) = ((p1, p2), p3)
          · rw [decide_eq_true he] at hbe
            have HE2 := hid he
            clear he cH
            have v0 := HfP.out.cellv (i := 0) rfl
            have v1 := HfP.out.cellv (i := 1) rfl
            have v2 := HfP.out.cellv (i := 2) rfl
            go_wp2_with fail
            go_quiet (fail)
            go_wp2_with fail
            go_roundw
            case rel => exact ⟨j + 1, U, by omega, by go_num, by rw [HNU.out]; exact (HNU.out ▸ HO.out).below ((Below.refl _ _).drewN _), (used_same HX.out HUL.out HUM.out (.inl HE2.out)).1, (used_same HX.out HUL.out HUM.out (.inl HE2.out)).2, HfB.out.drewN _⟩
            case measure => simp [intOf]; omega
          · rw [decide_eq_false he] at hbe
            have HE2 := hid he
            clear he
            cases B with
            | true =>
              go_wp2_with fail
              refine wp_region_later (fun w' => w'.cell? ⟨w.heap.size + 1, 0, none⟩ = some (.int .u64 (p1 : Int)) ∧ w'.cell? ⟨w.heap.size + 1, 1, none⟩ = some (.int .u64 (p2 : Int)) ∧ w'.cell? ⟨w.heap.size + 1, 2, none⟩ = some (.int .i64 p3) ∧ w'.cell? ⟨b, 3, none⟩ = some (.slice (some ⟨ba, oa, none⟩) R.length cap) ∧ w'.cell? ⟨ba, oa + j * 4, none⟩ = some (.int .u64 (x1 : Int)) ∧ w'.cell? ⟨ba, oa + j * 4 + 1, none⟩ = some (.int .u64 (x2 : Int)) ∧ w'.cell? ⟨ba, oa + j * 4 + 2, none⟩ = some (.int .i64 x3)) (fun z => ⟨z.cell (HfP.out.cellv (i := 0) rfl), z.cell (HfP.out.cellv (i := 1) rfl), z.cell (HfP.out.cellv (i := 2) rfl), z.cell (HfQ.out.top.cellv (i := 3) rfl), z.cell HU.out.1, z.cell HU.out.2.1, z.cell HU.out.2.2⟩) (by kernel_rfl) (by kernel_rfl) (fun HS => ?_)
              repeat (go_big_quiet_step (with_reducible exact Later.calls _ (cH.out _ (Later.below _))))
              refine wpQuiet_nil ?_
              rintro w6 ⟨⟨_, hb⟩, rfl⟩
              have HgB := hid hb
              clear hb HS cH
              go_wp2_with fail
              go_roundw
              case rel => exact ⟨j + 1, U, by omega, by go_num, by rw [HNU.out]; exact (HNU.out ▸ HO.out).below HgB.out, (used_same HX.out HUL.out HUM.out (.inr (of_decide_eq_true HBD.out.symm))).1, (used_same HX.out HUL.out HUM.out (.inr (of_decide_eq_true HBD.out.symm))).2, held_next HfB.out HgB.out⟩
              case measure => simp [intOf]; omega
            | false =>
              go_wp2_with fail
              refine wp_region_later (fun w' => w'.cell? ⟨w.heap.size + 1, 0, none⟩ = some (.int .u64 (p1 : Int)) ∧ w'.cell? ⟨w.heap.size + 1, 1, none⟩ = some (.int .u64 (p2 : Int)) ∧ w'.cell? ⟨w.heap.size + 1, 2, none⟩ = some (.int .i64 p3) ∧ w'.cell? ⟨b, 3, none⟩ = some (.slice (some ⟨ba, oa, none⟩) R.length cap) ∧ w'.cell? ⟨ba, oa + j * 4, none⟩ = some (.int .u64 (x1 : Int)) ∧ w'.cell? ⟨ba, oa + j * 4 + 1, none⟩ = some (.int .u64 (x2 : Int)) ∧ w'.cell? ⟨ba, oa + j * 4 + 2, none⟩ = some (.int .i64 x3)) (fun z => ⟨z.cell (HfP.out.cellv (i := 0) rfl), z.cell (HfP.out.cellv (i := 1) rfl), z.cell (HfP.out.cellv (i := 2) rfl), z.cell (HfQ.out.top.cellv (i := 3) rfl), z.cell HU.out.1, z.cell HU.out.2.1, z.cell HU.out.2.2⟩) (by kernel_rfl) (by kernel_rfl) (fun HS => ?_)
              repeat (go_big_quiet_step (with_reducible exact Later.calls _ (cH.out _ (Later.below _))))
              refine wpQuiet_nil ?_
              rintro w6 ⟨⟨_, hb⟩, rfl⟩
              have HgB := hid hb
              have HO6 := hid ((HNU.out ▸ HO.out).below hb)
              have HB6 := hid (held_next HfB.out hb)
              have hs6 := HB6.out.size
              clear hb HS cH
              go_wp2_with (at_builtin; refine wpList_push rfl _ _ 25 rfl 3 (.int .i64 0) 1 8 Try.underlying25 int_row rfl (by decide) wc.heap.size _ nu _ rfl HO6.out [.int .i64 _] rfl rfl ?c1 ?c2 ?c3 ?c4 ?_)
              case c1 => intro u hu; simp at hu; subst hu; rfl
              case c2 => unfold maxLen; omega
              case c3 => omega
              case c4 => omega
              intro v' w7 hO7 hC7
              have HO7 := hid hO7
              have HB7 := hid (HB6.out.trans (hC7.below HB6.out.size (fun z hz h => by have := (HO6.out.base_le z h).1; omega)))
              clear hO7 hC7
              go_wp2_with fail
              go_roundw
              case rel => exact ⟨j + 1, U ++ [xh], by omega, by go_num, by rw [List.length_append, HNU.out, List.flatMap_append]; exact HO7.out, (used_more HX.out HUL.out HUM.out HE2.out (of_decide_eq_false HBD.out.symm)).1, (used_more HX.out HUL.out HUM.out HE2.out (of_decide_eq_false HBD.out.symm)).2, HB7.out⟩
              case measure => simp [intOf]; omega
        · have hjR : R.take j = R := List.take_of_length_le (by omega)
          have hl := HUL.out
          have hm := HUM.out
          rw [hjR] at hl hm
          have hE := HE.out
          obtain ⟨B, hBd⟩ : ∃ B : Bool, B = decide (hop ∈ U) := ⟨_, rfl⟩
          have cH := hid (fun (w' : World) (h : Below wr.heap.size wr w') => ref_hasI w' _ U (Rd.of_owns (HO.out.below h) iEn_len) hop B hBd)
          rw [HNU.out] at cH
          have hE2 : res = if B = false ∧ (m.mh : Int) ≤ nu then 6 else 0 := by
            have h2 : (m.mh ≤ nu) ↔ ((m.mh : Int) ≤ (nu : Int)) := by omega
            rw [hE, ← hl, HNU.out, hBd]
            simp only [← hm hop, h2, decide_eq_false_iff_not]
          have HE2 := hid hE2
          clear hE hE2 hl hm hjR hBd
          cases B with
          | true =>
            have HE3 := hid (show res = 0 by rw [HE2.out]; simp)
            clear HE2
            go_wp2_with fail
            refine (cH.out _ (Below.refl _ _)).mono ?_
            rintro _ w6 ⟨rfl, hb⟩
            have q6 := (HfQ.out.below hb).top.cellv (i := 2) rfl
            have HB6 := hid (held_next HeB.out (held_next HfB.out hb))
            clear hb cH
            go_wp2_with fail
            go_ret
            exact ⟨by rw [HE3.out]; rfl, HB6.out⟩
          | false =>
            by_cases hmh : (m.mh : Int) ≤ nu
            · have HE3 := hid (show res = 6 by rw [HE2.out, if_pos ⟨rfl, hmh⟩])
              have d3 : decide (m.mh ≤ nu) = true := decide_eq_true (by omega)
              clear HE2
              go_wp2_with fail
              refine (cH.out _ (Below.refl _ _)).mono ?_
              rintro _ w6 ⟨rfl, hb⟩
              have q6 := (HfQ.out.below hb).top.cellv (i := 2) rfl
              have HB6 := hid (held_next HeB.out (held_next HfB.out hb))
              clear hb cH
              go_wp2_with fail
              go_ret
              exact ⟨by rw [HE3.out]; rfl, HB6.out⟩
            · have HE3 := hid (show res = 0 by rw [HE2.out, if_neg (fun h => hmh h.2)])
              have d3 : decide (m.mh ≤ nu) = false := decide_eq_false (by omega)
              clear HE2
              go_wp2_with fail
              refine (cH.out _ (Below.refl _ _)).mono ?_
              rintro _ w6 ⟨rfl, hb⟩
              have q6 := (HfQ.out.below hb).top.cellv (i := 2) rfl
              have HB6 := hid (held_next HeB.out (held_next HfB.out hb))
              clear hb cH
              go_wp2_with fail
              go_ret
              exact ⟨by rw [HE3.out]; rfl, HB6.out⟩
  · skip
    cases r with
    | false =>
      rw [if_pos (.inl rfl)] at HE
      go_enter Try.func23, Try.ntmps23
      go_wp2_with fail
      have hb2 := HB0.out.alloc (by simp) (.cells #[.int .u64 (p1 : Int), .int .u64 (p2 : Int), .int .i64 p3] 51)
      have hp2 := Blk.new_at (w.alloc (.cells #[.int .i64 2, .int .i64 hop, .int .i64 n, .int .u64 (p1 : Int), .int .u64 (p2 : Int), .int .i64 p3, .int .u64 (a1 : Int), .int .u64 (a2 : Int), .int .u64 (s : Int), bv] 53)) #[.int .u64 (p1 : Int), .int .u64 (p2 : Int), .int .i64 p3] 51 (w.heap.size + 1) (by simp)
      have hbb2 : Below (w.alloc (.cells #[.int .i64 2, .int .i64 hop, .int .i64 n, .int .u64 (p1 : Int), .int .u64 (p2 : Int), .int .i64 p3, .int .u64 (a1 : Int), .int .u64 (a2 : Int), .int .u64 (s : Int), bv] 53)).heap.size (w.alloc (.cells #[.int .i64 2, .int .i64 hop, .int .i64 n, .int .u64 (p1 : Int), .int .u64 (p2 : Int), .int .i64 p3, .int .u64 (a1 : Int), .int .u64 (a2 : Int), .int .u64 (s : Int), bv] 53)) ((w.alloc (.cells #[.int .i64 2, .int .i64 hop, .int .i64 n, .int .u64 (p1 : Int), .int .u64 (p2 : Int), .int .i64 p3, .int .u64 (a1 : Int), .int .u64 (a2 : Int), .int .u64 (s : Int), bv] 53)).alloc (.cells #[.int .u64 (p1 : Int), .int .u64 (p2 : Int), .int .i64 p3] 51)) := (Below.refl _ _).alloc (Nat.le_refl _) _
      have HcB := hid hb2
      have HcP := hid hp2
      have HcC := hid (HC0.out.below' hbb2)
      have HcQ := hid (HQ0.out.below hbb2)
      have HR2 := hid (fun j x (h : R[j]? = some x) => HcQ.out.rd.get rtEn_length (by decide) h)
      clear HB0 HC0 HQ0 hb2 hp2 hbb2 hpb hpb0 x0 x1 x3 x4 x5 HR hb0 H1 hsz
      generalize (w.alloc (.cells #[.int .i64 2, .int .i64 hop, .int .i64 n, .int .u64 (p1 : Int), .int .u64 (p2 : Int), .int .i64 p3, .int .u64 (a1 : Int), .int .u64 (a2 : Int), .int .u64 (s : Int), bv] 53)).alloc (.cells #[.int .u64 (p1 : Int), .int .u64 (p2 : Int), .int .i64 p3] 51) = w2 at *
      refine wp_region_later (fun w' => w'.cell? ⟨w.heap.size + 1, 0, none⟩ = some (.int .u64 (p1 : Int)) ∧ w'.cell? ⟨w.heap.size + 1, 1, none⟩ = some (.int .u64 (p2 : Int)) ∧ w'.cell? ⟨w.heap.size + 1, 2, none⟩ = some (.int .i64 p3) ∧ w'.cell? ⟨b, 0, none⟩ = some (.int .i64 (m.wd : Int)) ∧ w'.cell? ⟨b, 3, none⟩ = some (.slice A R.length cap)) (fun z => ⟨z.cell (HcP.out.cellv (i := 0) rfl), z.cell (HcP.out.cellv (i := 1) rfl), z.cell (HcP.out.cellv (i := 2) rfl), z.cell (HcQ.out.top.cellv (i := 0) rfl), z.cell (HcQ.out.top.cellv (i := 3) rfl)⟩) (by kernel_rfl) (by kernel_rfl) (fun HS => ?_)
      repeat (go_big_quiet_step (with_reducible exact Later.calls _ (cR.out _)))
      refine wpQuiet_nil ?_
      rintro w3 ⟨⟨_, hb⟩, rfl⟩
      have HdB := hid (held_next HcB.out hb)
      have HdP := hid (HcP.out.below' hb)
      have HdC := hid (HcC.out.below' hb)
      have HdQ := hid (HcQ.out.below hb)
      clear hb HS
      go_wp2_with fail
      go_ret
      exact ⟨by rw [HE.out]; rfl, HdB.out⟩
    | true =>
      by_cases hw : (m.wd : Int) < p3
      · skip
        rw [if_pos (.inr hw)] at HE
        have e0 : decide ((m.wd : Int) < p3) = true := decide_eq_true hw
        clear hw
        go_enter Try.func23, Try.ntmps23
        go_wp2_with fail
        have hb2 := HB0.out.alloc (by simp) (.cells #[.int .u64 (p1 : Int), .int .u64 (p2 : Int), .int .i64 p3] 51)
        have hp2 := Blk.new_at (w.alloc (.cells #[.int .i64 2, .int .i64 hop, .int .i64 n, .int .u64 (p1 : Int), .int .u64 (p2 : Int), .int .i64 p3, .int .u64 (a1 : Int), .int .u64 (a2 : Int), .int .u64 (s : Int), bv] 53)) #[.int .u64 (p1 : Int), .int .u64 (p2 : Int), .int .i64 p3] 51 (w.heap.size + 1) (by simp)
        have hbb2 : Below (w.alloc (.cells #[.int .i64 2, .int .i64 hop, .int .i64 n, .int .u64 (p1 : Int), .int .u64 (p2 : Int), .int .i64 p3, .int .u64 (a1 : Int), .int .u64 (a2 : Int), .int .u64 (s : Int), bv] 53)).heap.size (w.alloc (.cells #[.int .i64 2, .int .i64 hop, .int .i64 n, .int .u64 (p1 : Int), .int .u64 (p2 : Int), .int .i64 p3, .int .u64 (a1 : Int), .int .u64 (a2 : Int), .int .u64 (s : Int), bv] 53)) ((w.alloc (.cells #[.int .i64 2, .int .i64 hop, .int .i64 n, .int .u64 (p1 : Int), .int .u64 (p2 : Int), .int .i64 p3, .int .u64 (a1 : Int), .int .u64 (a2 : Int), .int .u64 (s : Int), bv] 53)).alloc (.cells #[.int .u64 (p1 : Int), .int .u64 (p2 : Int), .int .i64 p3] 51)) := (Below.refl _ _).alloc (Nat.le_refl _) _
        have HcB := hid hb2
        have HcP := hid hp2
        have HcC := hid (HC0.out.below' hbb2)
        have HcQ := hid (HQ0.out.below hbb2)
        have HR2 := hid (fun j x (h : R[j]? = some x) => HcQ.out.rd.get rtEn_length (by decide) h)
        clear HB0 HC0 HQ0 hb2 hp2 hbb2 hpb hpb0 x0 x1 x3 x4 x5 HR hb0 H1 hsz
        generalize (w.alloc (.cells #[.int .i64 2, .int .i64 hop, .int .i64 n, .int .u64 (p1 : Int), .int .u64 (p2 : Int), .int .i64 p3, .int .u64 (a1 : Int), .int .u64 (a2 : Int), .int .u64 (s : Int), bv] 53)).alloc (.cells #[.int .u64 (p1 : Int), .int .u64 (p2 : Int), .int .i64 p3] 51) = w2 at *
        refine wp_region_later (fun w' => w'.cell? ⟨w.heap.size + 1, 0, none⟩ = some (.int .u64 (p1 : Int)) ∧ w'.cell? ⟨w.heap.size + 1, 1, none⟩ = some (.int .u64 (p2 : Int)) ∧ w'.cell? ⟨w.heap.size + 1, 2, none⟩ = some (.int .i64 p3) ∧ w'.cell? ⟨b, 0, none⟩ = some (.int .i64 (m.wd : Int)) ∧ w'.cell? ⟨b, 3, none⟩ = some (.slice A R.length cap)) (fun z => ⟨z.cell (HcP.out.cellv (i := 0) rfl), z.cell (HcP.out.cellv (i := 1) rfl), z.cell (HcP.out.cellv (i := 2) rfl), z.cell (HcQ.out.top.cellv (i := 0) rfl), z.cell (HcQ.out.top.cellv (i := 3) rfl)⟩) (by kernel_rfl) (by kernel_rfl) (fun HS => ?_)
        repeat (go_big_quiet_step (with_reducible exact Later.calls _ (cR.out _)))
        refine wpQuiet_nil ?_
        rintro w3 ⟨⟨_, hb⟩, rfl⟩
        have HdB := hid (held_next HcB.out hb)
        have HdP := hid (HcP.out.below' hb)
        have HdC := hid (HcC.out.below' hb)
        have HdQ := hid (HcQ.out.below hb)
        clear hb HS
        go_wp2_with fail
        go_ret
        exact ⟨by rw [HE.out]; rfl, HdB.out⟩
      rw [if_neg (fun h => h.elim (fun h => by cases h) hw)] at HE
      have e0 : decide ((m.wd : Int) < p3) = false := decide_eq_false hw
      clear hw
      go_enter Try.func23, Try.ntmps23
      go_wp2_with fail
      have hb2 := HB0.out.alloc (by simp) (.cells #[.int .u64 (p1 : Int), .int .u64 (p2 : Int), .int .i64 p3] 51)
      have hp2 := Blk.new_at (w.alloc (.cells #[.int .i64 2, .int .i64 hop, .int .i64 n, .int .u64 (p1 : Int), .int .u64 (p2 : Int), .int .i64 p3, .int .u64 (a1 : Int), .int .u64 (a2 : Int), .int .u64 (s : Int), bv] 53)) #[.int .u64 (p1 : Int), .int .u64 (p2 : Int), .int .i64 p3] 51 (w.heap.size + 1) (by simp)
      have hbb2 : Below (w.alloc (.cells #[.int .i64 2, .int .i64 hop, .int .i64 n, .int .u64 (p1 : Int), .int .u64 (p2 : Int), .int .i64 p3, .int .u64 (a1 : Int), .int .u64 (a2 : Int), .int .u64 (s : Int), bv] 53)).heap.size (w.alloc (.cells #[.int .i64 2, .int .i64 hop, .int .i64 n, .int .u64 (p1 : Int), .int .u64 (p2 : Int), .int .i64 p3, .int .u64 (a1 : Int), .int .u64 (a2 : Int), .int .u64 (s : Int), bv] 53)) ((w.alloc (.cells #[.int .i64 2, .int .i64 hop, .int .i64 n, .int .u64 (p1 : Int), .int .u64 (p2 : Int), .int .i64 p3, .int .u64 (a1 : Int), .int .u64 (a2 : Int), .int .u64 (s : Int), bv] 53)).alloc (.cells #[.int .u64 (p1 : Int), .int .u64 (p2 : Int), .int .i64 p3] 51)) := (Below.refl _ _).alloc (Nat.le_refl _) _
      have HcB := hid hb2
      have HcP := hid hp2
      have HcC := hid (HC0.out.below' hbb2)
      have HcQ := hid (HQ0.out.below hbb2)
      have HR2 := hid (fun j x (h : R[j]? = some x) => HcQ.out.rd.get rtEn_length (by decide) h)
      clear HB0 HC0 HQ0 hb2 hp2 hbb2 hpb hpb0 x0 x1 x3 x4 x5 HR hb0 H1 hsz
      generalize (w.alloc (.cells #[.int .i64 2, .int .i64 hop, .int .i64 n, .int .u64 (p1 : Int), .int .u64 (p2 : Int), .int .i64 p3, .int .u64 (a1 : Int), .int .u64 (a2 : Int), .int .u64 (s : Int), bv] 53)).alloc (.cells #[.int .u64 (p1 : Int), .int .u64 (p2 : Int), .int .i64 p3] 51) = w2 at *
      refine wp_region_later (fun w' => w'.cell? ⟨w.heap.size + 1, 0, none⟩ = some (.int .u64 (p1 : Int)) ∧ w'.cell? ⟨w.heap.size + 1, 1, none⟩ = some (.int .u64 (p2 : Int)) ∧ w'.cell? ⟨w.heap.size + 1, 2, none⟩ = some (.int .i64 p3) ∧ w'.cell? ⟨b, 0, none⟩ = some (.int .i64 (m.wd : Int)) ∧ w'.cell? ⟨b, 3, none⟩ = some (.slice A R.length cap)) (fun z => ⟨z.cell (HcP.out.cellv (i := 0) rfl), z.cell (HcP.out.cellv (i := 1) rfl), z.cell (HcP.out.cellv (i := 2) rfl), z.cell (HcQ.out.top.cellv (i := 0) rfl), z.cell (HcQ.out.top.cellv (i := 3) rfl)⟩) (by kernel_rfl) (by kernel_rfl) (fun HS => ?_)
      repeat (go_big_quiet_step (with_reducible exact Later.calls _ (cR.out _)))
      refine wpQuiet_nil ?_
      rintro w3 ⟨⟨_, hb⟩, rfl⟩
      have HdB := hid (held_next HcB.out hb)
      have HdP := hid (HcP.out.below' hb)
      have HdC := hid (HcC.out.below' hb)
      have HdQ := hid (HcQ.out.below hb)
      clear hb HS
      have cF := hid (fun (w' : World) (h : Below w3.heap.size w3 w') => HFI.out ▸ ref_find w' _ R (HdQ.out.rd.below rtEn_length h) ((p1, p2), p3))
      go_wp2_with fail
      refine wp_region_later (fun w' => w'.cell? ⟨w.heap.size + 1, 0, none⟩ = some (.int .u64 (p1 : Int)) ∧ w'.cell? ⟨w.heap.size + 1, 1, none⟩ = some (.int .u64 (p2 : Int)) ∧ w'.cell? ⟨w.heap.size + 1, 2, none⟩ = some (.int .i64 p3) ∧ w'.cell? ⟨b, 0, none⟩ = some (.int .i64 (m.wd : Int)) ∧ w'.cell? ⟨b, 3, none⟩ = some (.slice A R.length cap)) (fun z => ⟨z.cell (HdP.out.cellv (i := 0) rfl), z.cell (HdP.out.cellv (i := 1) rfl), z.cell (HdP.out.cellv (i := 2) rfl), z.cell (HdQ.out.top.cellv (i := 0) rfl), z.cell (HdQ.out.top.cellv (i := 3) rfl)⟩) (by kernel_rfl) (by kernel_rfl) (fun HS => ?_)
      repeat (go_big_quiet_step (with_reducible exact Later.calls _ (cF.out _ (Later.below _))))
      refine wpQuiet_nil ?_
      rintro w4 ⟨⟨_, hb⟩, rfl⟩
      have HeB := hid (held_next HdB.out hb)
      have HeP := hid (HdP.out.below' hb)
      have HeC := hid (HdC.out.below' hb)
      have HeQ := hid (HdQ.out.below hb)
      clear hb HS
      clear cF
      have z0 := HeC.out.cellv (i := 0) rfl
      have z1 := HeC.out.cellv (i := 1) rfl
      first | rw [if_neg (show ¬ (2 : Int) = 1 by decide)] at HE | rw [if_neg (fun h => h)] at HE
      by_cases hf : fi < 0
      · rw [if_pos hf] at HE
        go_wp2_with fail
        go_ret
        exact ⟨by rw [HE.out]; rfl, HeB.out⟩
      · rw [if_neg hf] at HE
        go_wp2_with fail
        go_ret
        exact ⟨by rw [HE.out]; rfl, HeB.out⟩
end Go.Proofs.Ytcnecjjgnnkjkaa
