/-
  Package batch: a new book; a prefix set; all routes. No condition but that words are words, and that there is room.
-/
import Derived.Test.YtcnecjjgnnkjkaaBatch2
namespace Go.Proofs.Ytcnecjjgnnkjkaa
open Go.RowKit
set_option linter.unusedVariables false
set_option linter.unusedSimpArgs false
set_option maxRecDepth 100000

/-- A book whose trie has R, and whose hops are L. -/
structure BookP (w : World) (b g hg hq : Nat) (FT F : Nat → Prop) (m : Lim) (R : List Rt) (L : List Int) : Prop where
  top : Blk w b 80 [.int .i64 (m.wd : Int), .int .i64 (m.rt : Int), .int .i64 (m.mh : Int), .pointer (some ⟨g, 0, none⟩), .pointer (some ⟨hg, 0, none⟩)]
  tri : TrR w g FT R
  hop : HopsAt w hg hq m.mh L
  ff : ∀ z, FT z → z < w.heap.size ∧ F z ∧ z ≠ b ∧ z ≠ hg ∧ z ≠ hq
  fb : F b ∧ F hg ∧ F hq
  ne : b ≠ hg ∧ b ≠ hq
theorem BookQ.toP {w : World} {b g hg hq : Nat} {FT F : Nat → Prop} {m : Lim} {R : List Rt} (h : BookQ w b g hg hq FT F m R) : BookP w b g hg hq FT F m R (hopsL R) := ⟨h.top, h.tri, h.hop, h.ff, h.fb, h.ne⟩
theorem BookP.toQ {w : World} {b g hg hq : Nat} {FT F : Nat → Prop} {m : Lim} {R : List Rt} (h : BookP w b g hg hq FT F m R (hopsL R)) (hi : Inv m R) (hl : m.wd ≤ 128 ∧ m.rt ≤ 300 ∧ m.mh ≤ 60) : BookQ w b g hg hq FT F m R := ⟨h.top, h.tri, h.hop, hi, hl, h.ff, h.fb, h.ne⟩
theorem BookP.below {w w' : World} {b g hg hq : Nat} {FT F : Nat → Prop} {m : Lim} {R : List Rt} {L : List Int} (h : BookP w b g hg hq FT F m R L) (k : Below w.heap.size w w') : BookP w' b g hg hq FT F m R L :=
  ⟨h.top.below' k, h.tri.below k, h.hop.below k, fun z hz => ⟨Nat.lt_of_lt_of_le (h.ff z hz).1 k.size, (h.ff z hz).2⟩, h.fb, h.ne⟩
theorem BookP.perm {w : World} {b g hg hq : Nat} {FT F : Nat → Prop} {m : Lim} {R : List Rt} {L L' : List Int} (h : BookP w b g hg hq FT F m R L) (hp : L.Perm L') : BookP w b g hg hq FT F m R L' :=
  ⟨h.top, h.tri, h.hop.perm hp, h.ff, h.fb, h.ne⟩
theorem BookP.triN {w w' : World} {b g hg hq : Nat} {FT F : Nat → Prop} {m : Lim} {R R' : List Rt} {L : List Int} (h : BookP w b g hg hq FT F m R L) (ht : TrR w' g (fun z => FT z ∨ w.heap.size ≤ z) R') (k : Chg FT w w') :
    BookP w' b g hg hq (fun z => (FT z ∨ w.heap.size ≤ z) ∧ z < w'.heap.size) (fun z => F z ∨ w.heap.size ≤ z) m R' L :=
  ⟨h.top.chg k (fun hz => (h.ff b hz).2.2.1 rfl), ht.mono (fun z hz k => ⟨k, hz⟩), h.hop.chg k (fun hz => (h.ff hg hz).2.2.2.1 rfl) (fun hz => (h.ff hq hz).2.2.2.2 rfl),
    fun z hz => by
      have h1 := h.top.lt
      have h2 := h.hop.lt
      rcases hz with ⟨hz | hz, hlt⟩
      · have := h.ff z hz
        exact ⟨hlt, .inl this.2.1, this.2.2⟩
      · exact ⟨hlt, .inr hz, by omega, by omega, by omega⟩, ⟨.inl h.fb.1, .inl h.fb.2.1, .inl h.fb.2.2⟩, h.ne⟩
theorem BookP.hopN {w w' : World} {b g hg hq : Nat} {FT F : Nat → Prop} {m : Lim} {R : List Rt} {L L' : List Int} (h : BookP w b g hg hq FT F m R L) (hh : HopsAt w' hg hq m.mh L') (k : Chg (· = hq) w w') : BookP w' b g hg hq FT F m R L' :=
  ⟨h.top.chg k h.ne.2, h.tri.chg k (fun z hz e => (h.ff z hz).2.2.2.2 e), hh, fun z hz => ⟨Nat.lt_of_lt_of_le (h.ff z hz).1 k.size, (h.ff z hz).2⟩, h.fb, h.ne⟩
theorem BookP.monoF {w : World} {b g hg hq : Nat} {FT F G : Nat → Prop} {m : Lim} {R : List Rt} {L : List Int} (h : BookP w b g hg hq FT F m R L) (hs : ∀ z, z < w.heap.size → F z → G z) : BookP w b g hg hq FT G m R L :=
  ⟨h.top, h.tri, h.hop, fun z hz => ⟨(h.ff z hz).1, hs z (h.ff z hz).1 (h.ff z hz).2.1, (h.ff z hz).2.2⟩, ⟨hs b h.top.lt h.fb.1, hs hg h.hop.lt.1 h.fb.2.1, hs hq h.hop.lt.2 h.fb.2.2⟩, h.ne⟩

def SetPost (w : World) (b : Nat) (F : Nat → Prop) (m : Lim) (R' : List Rt) (was : Int) (e : Ending) (w' : World) : Prop :=
  e = .returned (.int .i64 was) ∧ BookAt w' b (fun z => F z ∨ w.heap.size ≤ z) m R' ∧ Chg F w w'
set_option maxHeartbeats 4000000 in
theorem book_set {w : World} {b : Nat} {F : Nat → Prop} {m : Lim} {R : List Rt} (H : BookAt w b F m R) (p : Pf) (hp : p.1.ok) (hop : Int) (wh : (Lit.int .i64 hop).wf = true) (hroom : Room m R p hop) (hi : Inv m (setB R p hop)) :
    Calls Try.prog 40 #[.pointer (some ⟨b, 0, none⟩), .agg #[.int .u64 (p.1.1 : Int), .int .u64 (p.1.2 : Int), .int .i64 p.2], .int .i64 hop] w (SetPost w b F m (setB R p hop) (wasV R p)) := by
  obtain ⟨g, hg, hq, FT, H⟩ := H
  have hb0 := (Below.refl w.heap.size w).alloc (Nat.le_refl _) (.cells #[.int .u64 (p.1.1 : Int), .int .u64 (p.1.2 : Int), .int .i64 p.2] 51)
  have H1 := H.toP.below hb0
  have hpb := Blk.new_at w #[.int .u64 (p.1.1 : Int), .int .u64 (p.1.2 : Int), .int .i64 p.2] 51 w.heap.size rfl
  have HFF := hid (fun z (hz : FT z) => (H.ff z hz).1)
  have HLIM := hid H.lim
  have HQLT := hid H.hop.lt.2
  have HINV := hid H.inv
  have hl := H.inv.len
  have hlim := H.lim
  have HLEN := hid (show R.length ≤ 300 by omega)
  have hLl : (hopsL R).length = R.length := by unfold hopsL; simp
  have HLL := hid (show (hopsL R).length ≤ 300 by omega)
  have HLW := hid (show (hopsL (withoutL R p)).length ≤ 300 by
    have := without_le R p
    unfold hopsL; rw [List.length_map]; omega)
  have HWL := hid (show (withoutL R p).length ≤ 300 by have := without_le R p; omega)
  obtain ⟨v, hv⟩ : ∃ v, getV (mapOf R) p = v := ⟨_, rfl⟩
  have hwas : wasV R p = v.getD (-1) := by unfold wasV; rw [hv]
  have HNONE := hid (fun (h : v = none) => without_none H.inv.srt (hv.trans h))
  have HSOME := hid (fun u (h : v = some u) => hops_without H.inv.srt (hv.trans h))
  have HUW := hid (fun u (h : v = some u) => (H.inv.hop _ ((H.inv.srt.get p u).1 (hv.trans h))).2)
  have HWN := hid (into_without' H.inv.srt p hop)
  have HWP := hid (hops_into H.inv.srt p hop)
  have HROOM := hid hroom
  have HI := hid hi
  have HB0 := hid hb0
  have HP0 := hid hp
  have WH := hid wh
  rw [hwas]
  obtain ⟨w0, hw0⟩ : ∃ w0, w.alloc (.cells #[.int .u64 (p.1.1 : Int), .int .u64 (p.1.2 : Int), .int .i64 p.2] 51) = w0 := ⟨_, rfl⟩
  have HPP := hid (hw0 ▸ H1 : BookP w0 b g hg hq FT F m R (hopsL R))
  have HPB := hid (hw0 ▸ hpb : Blk w0 w.heap.size 51 [.int .u64 (p.1.1 : Int), .int .u64 (p.1.2 : Int), .int .i64 p.2])
  have HB := hid (hw0 ▸ hb0 : Below w.heap.size w w0)
  have hws : w.heap.size < w0.heap.size := HPB.out.lt
  have cD := hid (trr_delete (HPP.out.below (Below.refl w0.heap.size w0).drew).tri (by have := HLEN.out; omega) p hp)
  unfold TrRNext at cD
  rw [hv] at cD
  have y3 := H1.top.cellv (i := 3) rfl
  have x0 := hpb.cellv (i := 0) rfl
  have x1 := hpb.cellv (i := 1) rfl
  have x2 := hpb.cellv (i := 2) rfl
  clear H H1 hb0 hpb hv wh hp hl hlim hLl hroom hi HB0 hwas
  obtain ⟨⟨p1, p2⟩, p3⟩ := p
  simp only at *
  subst hw0
  go_enter Try.func40, Try.ntmps40
  go_wp2_with fail
  generalize w.alloc (.cells #[.int .u64 (p1 : Int), .int .u64 (p2 : Int), .int .i64 p3] 51) = w0 at *
  have hS : w0.drew.cell? ⟨b, 3, none⟩ = some (.pointer (some ⟨g, 0, none⟩)) ∧ w0.drew.cell? ⟨w.heap.size, 0, none⟩ = some (.int .u64 (p1 : Int)) ∧ w0.drew.cell? ⟨w.heap.size, 1, none⟩ = some (.int .u64 (p2 : Int)) ∧ w0.drew.cell? ⟨w.heap.size, 2, none⟩ = some (.int .i64 p3) := ⟨y3, x0, x1, x2⟩
  refine wp_region_ord (fun w' => w'.cell? ⟨b, 3, none⟩ = some (.pointer (some ⟨g, 0, none⟩)) ∧ w'.cell? ⟨w.heap.size, 0, none⟩ = some (.int .u64 (p1 : Int)) ∧ w'.cell? ⟨w.heap.size, 1, none⟩ = some (.int .u64 (p2 : Int)) ∧ w'.cell? ⟨w.heap.size, 2, none⟩ = some (.int .i64 p3)) (by kernel_rfl) hS ?_
  refine ord_still 0 rfl (v := ?_) (by kernel_rfl) (fun _ _ _ h => h) rfl (fun W hW => ?_) hS ?_
  rotate_left
  · try dsimp only at hW
    go_simp
    try with_reducible rfl
  simp only [Act.put, List.setIfInBounds_toArray, List.set_cons_zero, List.set_cons_succ]
  refine ord_still 1 rfl (v := ?_) (by kernel_rfl) (fun _ _ _ h => h) rfl (fun W hW => ?_) hS ?_
  rotate_left
  · try dsimp only at hW
    go_simp
    try with_reducible rfl
  simp only [Act.put, List.setIfInBounds_toArray, List.set_cons_zero, List.set_cons_succ]
  refine ord_still 2 rfl (v := ?_) (by kernel_rfl) (fun _ _ _ h => h) rfl (fun W hW => ?_) hS ?_
  rotate_left
  · try dsimp only at hW
    go_simp
    try with_reducible rfl
  simp only [Act.put, List.setIfInBounds_toArray, List.set_cons_zero, List.set_cons_succ]
  refine ord_still 3 rfl (v := ?_) (by kernel_rfl) (fun _ _ _ h => h) rfl (fun W hW => ?_) hS ?_
  rotate_left
  · try dsimp only at hW
    go_simp
    try with_reducible rfl
  simp only [Act.put, List.setIfInBounds_toArray, List.set_cons_zero, List.set_cons_succ]
  refine ord_still 4 rfl (v := ?_) (by kernel_rfl) (fun _ _ _ h => h) rfl (fun W hW => ?_) hS ?_
  rotate_left
  · try dsimp only at hW
    go_simp
    try with_reducible rfl
  simp only [Act.put, List.setIfInBounds_toArray, List.set_cons_zero, List.set_cons_succ]
  refine ord_alone 5 rfl (by kernel_rfl) rfl (fun K hK => ?_)
  go_simp
  refine (cD.out).mono ?_
  rintro _ w1 ⟨rfl, hT, hC⟩
  have hC1 : Chg FT w0 w1 := (Chg.refl FT w0).drew.trans' hC
  have HP1 := hid (HPP.out.triN (hT.mono fun z _ hz => hz) hC1)
  have HPB1 := hid (HPB.out.chg hC1 (fun hz => by have := HFF.out _ hz; omega))
  have HC1 := hid ((Chg.of_below HB.out F).trans hC1 (fun z _ hz => (HPP.out.ff z hz).2.1))
  have HSw1 := hid (show w1.cell? ⟨b, 3, none⟩ = some (.pointer (some ⟨g, 0, none⟩)) ∧ w1.cell? ⟨w.heap.size, 0, none⟩ = some (.int .u64 (p1 : Int)) ∧ w1.cell? ⟨w.heap.size, 1, none⟩ = some (.int .u64 (p2 : Int)) ∧ w1.cell? ⟨w.heap.size, 2, none⟩ = some (.int .i64 p3) from ⟨HP1.out.top.cellv (i := 3) rfl, HPB1.out.cellv (i := 0) rfl, HPB1.out.cellv (i := 1) rfl, HPB1.out.cellv (i := 2) rfl⟩)
  have hs1 := hC1.size
  clear hT hC hC1
  clear hS
  have hS : w1.cell? ⟨b, 3, none⟩ = some (.pointer (some ⟨g, 0, none⟩)) ∧ w1.cell? ⟨w.heap.size, 0, none⟩ = some (.int .u64 (p1 : Int)) ∧ w1.cell? ⟨w.heap.size, 1, none⟩ = some (.int .u64 (p2 : Int)) ∧ w1.cell? ⟨w.heap.size, 2, none⟩ = some (.int .i64 p3) := HSw1.out
  refine hK.out _ _ hS ?_
  clear hK
  refine ord_still 6 rfl (v := ?_) (by kernel_rfl) (fun _ _ _ h => h) rfl (fun W hW => ?_) hS ?_
  rotate_left
  · try dsimp only at hW
    go_simp
    try with_reducible rfl
  simp only [Act.put, List.setIfInBounds_toArray, List.set_cons_zero, List.set_cons_succ]
  refine ord_still 7 rfl (v := ?_) (by kernel_rfl) (fun _ _ _ h => h) rfl (fun W hW => ?_) hS ?_
  rotate_left
  · try dsimp only at hW
    go_simp
    try with_reducible rfl
  simp only [Act.put, List.setIfInBounds_toArray, List.set_cons_zero, List.set_cons_succ]
  refine ord_still 8 rfl (v := ?_) (by kernel_rfl) (fun _ _ _ h => h) rfl (fun W hW => ?_) hS ?_
  rotate_left
  · try dsimp only at hW
    go_simp
    try with_reducible rfl
  simp only [Act.put, List.setIfInBounds_toArray, List.set_cons_zero, List.set_cons_succ]
  refine ord_still 9 rfl (v := ?_) (by kernel_rfl) (fun _ _ _ h => h) rfl (fun W hW => ?_) hS ?_
  rotate_left
  · try dsimp only at hW
    go_simp
    try with_reducible rfl
  simp only [Act.put, List.setIfInBounds_toArray, List.set_cons_zero, List.set_cons_succ]
  refine ord_still 10 rfl (v := ?_) (by kernel_rfl) (fun _ _ _ h => h) rfl (fun W hW => ?_) hS ?_
  rotate_left
  · try dsimp only at hW
    go_simp
    try with_reducible rfl
  simp only [Act.put, List.setIfInBounds_toArray, List.set_cons_zero, List.set_cons_succ]
  refine ord_done (by kernel_rfl) ?_
  clear hS cD y3 x0 x1 x2
  have HFT1 := hid (show ∀ z, (fun z => (FT z ∨ w0.heap.size ≤ z) ∧ z < w1.heap.size) z → z ≠ w.heap.size from fun z hz => by
    rcases hz.1 with h | h
    · have := HFF.out z h; omega
    · omega)
  have HFI1 := hid (show ∀ z, (fun z => (FT z ∨ w0.heap.size ≤ z) ∧ z < w1.heap.size) z → z < w.heap.size → F z from fun z hz hlt => by
    rcases hz.1 with h | h
    · exact (HPP.out.ff z h).2.1
    · omega)
  have HQF := hid (HPP.out.fb.2.2)
  generalize (fun z => (FT z ∨ w0.heap.size ≤ z) ∧ z < w1.heap.size) = FT1 at *
  have HP1' := hid (HP1.out.monoF (G := fun z => F z ∨ w.heap.size ≤ z) (fun z _ hz => hz.imp id (fun h => by omega)))
  clear HP1 HPP HPB
  cases v with
  | none =>
    have hno := HNONE.out rfl
    have HP2 := hid (show BookP w1 b g hg hq FT1 (fun z => F z ∨ w.heap.size ≤ z) m (withoutL R ((p1, p2), p3)) (hopsL (withoutL R ((p1, p2), p3))) by
      have h := HP1'.out
      rw [hno] at h ⊢
      exact h)
    clear hno HP1'
    simp only [Option.getD_none, Option.isSome_none]
    by_cases hh : 0 ≤ hop
    · have hset : setB R ((p1, p2), p3) hop = intoL R (((p1, p2), p3), hop) := by unfold setB; rw [if_pos hh]
      have HSET := hid hset
      have hr : Pf.right ((p1, p2), p3) := by
        rcases HROOM.out with h | h
        · omega
        · exact h.1
      have hrm : hop ∈ hopsL (withoutL R ((p1, p2), p3)) ∨ dist (hopsL (withoutL R ((p1, p2), p3))) < m.mh := by
        rcases HROOM.out with h | h
        · omega
        · exact h.2
      have HRM := hid hrm
      have HH := hid hh
      have d1 := decide_eq_true hh
      have cP := hid (trr_put (HP2.out.below (Below.refl w1.heap.size w1).drew).tri (by have := HWL.out; omega) ((p1, p2), p3) HP0.out hr hop)
      unfold TrRNext at cP
      rw [HWN.out] at cP
      have y3 := HP2.out.top.cellv (i := 3) rfl
      have x0 := HPB1.out.cellv (i := 0) rfl
      have x1 := HPB1.out.cellv (i := 1) rfl
      have x2 := HPB1.out.cellv (i := 2) rfl
      have hszk := HFT1.out
      clear hset hr hrm hh hszk
      go_wp2_with fail
      have hS : w1.drew.cell? ⟨b, 3, none⟩ = some (.pointer (some ⟨g, 0, none⟩)) ∧ w1.drew.cell? ⟨w.heap.size, 0, none⟩ = some (.int .u64 (p1 : Int)) ∧ w1.drew.cell? ⟨w.heap.size, 1, none⟩ = some (.int .u64 (p2 : Int)) ∧ w1.drew.cell? ⟨w.heap.size, 2, none⟩ = some (.int .i64 p3) := ⟨y3, x0, x1, x2⟩
      refine wp_region_ord (fun w' => w'.cell? ⟨b, 3, none⟩ = some (.pointer (some ⟨g, 0, none⟩)) ∧ w'.cell? ⟨w.heap.size, 0, none⟩ = some (.int .u64 (p1 : Int)) ∧ w'.cell? ⟨w.heap.size, 1, none⟩ = some (.int .u64 (p2 : Int)) ∧ w'.cell? ⟨w.heap.size, 2, none⟩ = some (.int .i64 p3)) (by kernel_rfl) hS ?_
      refine ord_still 0 rfl (v := ?_) (by kernel_rfl) (fun _ _ _ h => h) rfl (fun W hW => ?_) hS ?_
      rotate_left
      · try dsimp only at hW
        go_simp
        try with_reducible rfl
      simp only [Act.put, List.setIfInBounds_toArray, List.set_cons_zero, List.set_cons_succ]
      refine ord_still 1 rfl (v := ?_) (by kernel_rfl) (fun _ _ _ h => h) rfl (fun W hW => ?_) hS ?_
      rotate_left
      · try dsimp only at hW
        go_simp
        try with_reducible rfl
      simp only [Act.put, List.setIfInBounds_toArray, List.set_cons_zero, List.set_cons_succ]
      refine ord_still 2 rfl (v := ?_) (by kernel_rfl) (fun _ _ _ h => h) rfl (fun W hW => ?_) hS ?_
      rotate_left
      · try dsimp only at hW
        go_simp
        try with_reducible rfl
      simp only [Act.put, List.setIfInBounds_toArray, List.set_cons_zero, List.set_cons_succ]
      refine ord_still 3 rfl (v := ?_) (by kernel_rfl) (fun _ _ _ h => h) rfl (fun W hW => ?_) hS ?_
      rotate_left
      · try dsimp only at hW
        go_simp
        try with_reducible rfl
      simp only [Act.put, List.setIfInBounds_toArray, List.set_cons_zero, List.set_cons_succ]
      refine ord_still 4 rfl (v := ?_) (by kernel_rfl) (fun _ _ _ h => h) rfl (fun W hW => ?_) hS ?_
      rotate_left
      · try dsimp only at hW
        go_simp
        try with_reducible rfl
      simp only [Act.put, List.setIfInBounds_toArray, List.set_cons_zero, List.set_cons_succ]
      refine ord_still 5 rfl (v := ?_) (by kernel_rfl) (fun _ _ _ h => h) rfl (fun W hW => ?_) hS ?_
      rotate_left
      · try dsimp only at hW
        go_simp
        try with_reducible rfl
      simp only [Act.put, List.setIfInBounds_toArray, List.set_cons_zero, List.set_cons_succ]
      refine ord_alone 6 rfl (by kernel_rfl) rfl (fun K hK => ?_)
      go_simp
      refine (cP.out).mono ?_
      rintro _ w5 ⟨rfl, hT, hC⟩
      have hC5 : Chg FT1 w1 w5 := (Chg.refl FT1 w1).drew.trans' hC
      have HP5 := hid (HP2.out.triN (hT.mono fun z _ hz => hz) hC5)
      have HPB5 := hid (HPB1.out.chg hC5 (fun hz => HFT1.out _ hz rfl))
      have HC5 := hid (HC1.out.trans hC5 (fun z hz1 hz => HFI1.out z hz hz1))
      have HSw5 := hid (show w5.cell? ⟨b, 3, none⟩ = some (.pointer (some ⟨g, 0, none⟩)) ∧ w5.cell? ⟨w.heap.size, 0, none⟩ = some (.int .u64 (p1 : Int)) ∧ w5.cell? ⟨w.heap.size, 1, none⟩ = some (.int .u64 (p2 : Int)) ∧ w5.cell? ⟨w.heap.size, 2, none⟩ = some (.int .i64 p3) from ⟨HP5.out.top.cellv (i := 3) rfl, HPB5.out.cellv (i := 0) rfl, HPB5.out.cellv (i := 1) rfl, HPB5.out.cellv (i := 2) rfl⟩)
      have hs5 := hC5.size
      clear hT hC hC5
      clear hS
      have hS : w5.cell? ⟨b, 3, none⟩ = some (.pointer (some ⟨g, 0, none⟩)) ∧ w5.cell? ⟨w.heap.size, 0, none⟩ = some (.int .u64 (p1 : Int)) ∧ w5.cell? ⟨w.heap.size, 1, none⟩ = some (.int .u64 (p2 : Int)) ∧ w5.cell? ⟨w.heap.size, 2, none⟩ = some (.int .i64 p3) := HSw5.out
      refine hK.out _ _ hS ?_
      clear hK
      refine ord_done (by kernel_rfl) ?_
      clear hS cP y3 x0 x1 x2
      have y4 := HP5.out.top.cellv (i := 4) rfl
      have cUp := hid (hops_up HP5.out.hop hop WH.out HH.out HRM.out (by have := HLW.out; omega))
      go_wp2_with fail
      refine cUp.out.mono ?_
      rintro _ w6 ⟨rfl, hH6, hC6⟩
      have HP6 := hid ((HP5.out.hopN hH6 hC6).perm HWP.out.symm)
      have HC6 := hid (HC5.out.trans hC6 (fun z _ hz => by cases hz; exact HQF.out))
      clear hH6 hC6
      go_wp2_with fail
      go_ret
      refine ⟨rfl, ?_, HC6.out⟩
      have hs0 := HC1.out.size
      have hsk := HC1.out.size
      rw [HSET.out]
      have hi := HI.out
      rw [HSET.out] at hi
      exact ⟨g, hg, hq, _, (HP6.out.monoF (fun z _ hz => by
        rcases hz with hz | hz
        · exact hz
        · exact .inr (by omega))).toQ hi HLIM.out⟩
    · have d1 := decide_eq_false hh
      have hset : setB R ((p1, p2), p3) hop = withoutL R ((p1, p2), p3) := by unfold setB; rw [if_neg hh]
      have HSET := hid hset
      clear hset hh
      go_wp2_with fail
      go_ret
      refine ⟨rfl, ?_, HC1.out⟩
      rw [HSET.out]
      have hi := HI.out
      rw [HSET.out] at hi
      exact ⟨g, hg, hq, _, HP2.out.toQ hi HLIM.out⟩
  | some u =>
    have hso := HSOME.out u rfl
    have cDn := hid (hops_down HP1'.out.hop u (HUW.out u rfl) hso (by have := HLL.out; omega))
    have y4 := HP1'.out.top.cellv (i := 4) rfl
    clear hso
    simp only [Option.getD_some, Option.isSome_some]
    go_wp2_with fail
    refine cDn.out.mono ?_
    rintro _ w2 ⟨rfl, hH2, hC2⟩
    have HP2 := hid (HP1'.out.hopN hH2 hC2)
    have HPB2 := hid (HPB1.out.chg hC2 (fun hz => by
      have h1 := HP1'.out.hop.lt
      have h2 := HQLT.out
      omega))
    have HC2 := hid (HC1.out.trans hC2 (fun z _ hz => by cases hz; exact HQF.out))
    have hs2 := hC2.size
    clear hH2 hC2 y4 cDn
    by_cases hh : 0 ≤ hop
    · have hset : setB R ((p1, p2), p3) hop = intoL R (((p1, p2), p3), hop) := by unfold setB; rw [if_pos hh]
      have HSET := hid hset
      have hr : Pf.right ((p1, p2), p3) := by
        rcases HROOM.out with h | h
        · omega
        · exact h.1
      have hrm : hop ∈ hopsL (withoutL R ((p1, p2), p3)) ∨ dist (hopsL (withoutL R ((p1, p2), p3))) < m.mh := by
        rcases HROOM.out with h | h
        · omega
        · exact h.2
      have HRM := hid hrm
      have HH := hid hh
      have d1 := decide_eq_true hh
      have cP := hid (trr_put (HP2.out.below (Below.refl w2.heap.size w2).drew).tri (by have := HWL.out; omega) ((p1, p2), p3) HP0.out hr hop)
      unfold TrRNext at cP
      rw [HWN.out] at cP
      have y3 := HP2.out.top.cellv (i := 3) rfl
      have x0 := HPB2.out.cellv (i := 0) rfl
      have x1 := HPB2.out.cellv (i := 1) rfl
      have x2 := HPB2.out.cellv (i := 2) rfl
      have hszk := HFT1.out
      clear hset hr hrm hh hszk
      go_wp2_with fail
      have hS : w2.drew.cell? ⟨b, 3, none⟩ = some (.pointer (some ⟨g, 0, none⟩)) ∧ w2.drew.cell? ⟨w.heap.size, 0, none⟩ = some (.int .u64 (p1 : Int)) ∧ w2.drew.cell? ⟨w.heap.size, 1, none⟩ = some (.int .u64 (p2 : Int)) ∧ w2.drew.cell? ⟨w.heap.size, 2, none⟩ = some (.int .i64 p3) := ⟨y3, x0, x1, x2⟩
      refine wp_region_ord (fun w' => w'.cell? ⟨b, 3, none⟩ = some (.pointer (some ⟨g, 0, none⟩)) ∧ w'.cell? ⟨w.heap.size, 0, none⟩ = some (.int .u64 (p1 : Int)) ∧ w'.cell? ⟨w.heap.size, 1, none⟩ = some (.int .u64 (p2 : Int)) ∧ w'.cell? ⟨w.heap.size, 2, none⟩ = some (.int .i64 p3)) (by kernel_rfl) hS ?_
      refine ord_still 0 rfl (v := ?_) (by kernel_rfl) (fun _ _ _ h => h) rfl (fun W hW => ?_) hS ?_
      rotate_left
      · try dsimp only at hW
        go_simp
        try with_reducible rfl
      simp only [Act.put, List.setIfInBounds_toArray, List.set_cons_zero, List.set_cons_succ]
      refine ord_still 1 rfl (v := ?_) (by kernel_rfl) (fun _ _ _ h => h) rfl (fun W hW => ?_) hS ?_
      rotate_left
      · try dsimp only at hW
        go_simp
        try with_reducible rfl
      simp only [Act.put, List.setIfInBounds_toArray, List.set_cons_zero, List.set_cons_succ]
      refine ord_still 2 rfl (v := ?_) (by kernel_rfl) (fun _ _ _ h => h) rfl (fun W hW => ?_) hS ?_
      rotate_left
      · try dsimp only at hW
        go_simp
        try with_reducible rfl
      simp only [Act.put, List.setIfInBounds_toArray, List.set_cons_zero, List.set_cons_succ]
      refine ord_still 3 rfl (v := ?_) (by kernel_rfl) (fun _ _ _ h => h) rfl (fun W hW => ?_) hS ?_
      rotate_left
      · try dsimp only at hW
        go_simp
        try with_reducible rfl
      simp only [Act.put, List.setIfInBounds_toArray, List.set_cons_zero, List.set_cons_succ]
      refine ord_still 4 rfl (v := ?_) (by kernel_rfl) (fun _ _ _ h => h) rfl (fun W hW => ?_) hS ?_
      rotate_left
      · try dsimp only at hW
        go_simp
        try with_reducible rfl
      simp only [Act.put, List.setIfInBounds_toArray, List.set_cons_zero, List.set_cons_succ]
      refine ord_still 5 rfl (v := ?_) (by kernel_rfl) (fun _ _ _ h => h) rfl (fun W hW => ?_) hS ?_
      rotate_left
      · try dsimp only at hW
        go_simp
        try with_reducible rfl
      simp only [Act.put, List.setIfInBounds_toArray, List.set_cons_zero, List.set_cons_succ]
      refine ord_alone 6 rfl (by kernel_rfl) rfl (fun K hK => ?_)
      go_simp
      refine (cP.out).mono ?_
      rintro _ w5 ⟨rfl, hT, hC⟩
      have hC5 : Chg FT1 w2 w5 := (Chg.refl FT1 w2).drew.trans' hC
      have HP5 := hid (HP2.out.triN (hT.mono fun z _ hz => hz) hC5)
      have HPB5 := hid (HPB2.out.chg hC5 (fun hz => HFT1.out _ hz rfl))
      have HC5 := hid (HC2.out.trans hC5 (fun z hz1 hz => HFI1.out z hz hz1))
      have HSw5 := hid (show w5.cell? ⟨b, 3, none⟩ = some (.pointer (some ⟨g, 0, none⟩)) ∧ w5.cell? ⟨w.heap.size, 0, none⟩ = some (.int .u64 (p1 : Int)) ∧ w5.cell? ⟨w.heap.size, 1, none⟩ = some (.int .u64 (p2 : Int)) ∧ w5.cell? ⟨w.heap.size, 2, none⟩ = some (.int .i64 p3) from ⟨HP5.out.top.cellv (i := 3) rfl, HPB5.out.cellv (i := 0) rfl, HPB5.out.cellv (i := 1) rfl, HPB5.out.cellv (i := 2) rfl⟩)
      have hs5 := hC5.size
      clear hT hC hC5
      clear hS
      have hS : w5.cell? ⟨b, 3, none⟩ = some (.pointer (some ⟨g, 0, none⟩)) ∧ w5.cell? ⟨w.heap.size, 0, none⟩ = some (.int .u64 (p1 : Int)) ∧ w5.cell? ⟨w.heap.size, 1, none⟩ = some (.int .u64 (p2 : Int)) ∧ w5.cell? ⟨w.heap.size, 2, none⟩ = some (.int .i64 p3) := HSw5.out
      refine hK.out _ _ hS ?_
      clear hK
      refine ord_done (by kernel_rfl) ?_
      clear hS cP y3 x0 x1 x2
      have y4 := HP5.out.top.cellv (i := 4) rfl
      have cUp := hid (hops_up HP5.out.hop hop WH.out HH.out HRM.out (by have := HLW.out; omega))
      go_wp2_with fail
      refine cUp.out.mono ?_
      rintro _ w6 ⟨rfl, hH6, hC6⟩
      have HP6 := hid ((HP5.out.hopN hH6 hC6).perm HWP.out.symm)
      have HC6 := hid (HC5.out.trans hC6 (fun z _ hz => by cases hz; exact HQF.out))
      clear hH6 hC6
      go_wp2_with fail
      go_ret
      refine ⟨rfl, ?_, HC6.out⟩
      have hs0 := HC1.out.size
      have hsk := HC2.out.size
      rw [HSET.out]
      have hi := HI.out
      rw [HSET.out] at hi
      exact ⟨g, hg, hq, _, (HP6.out.monoF (fun z _ hz => by
        rcases hz with hz | hz
        · exact hz
        · exact .inr (by omega))).toQ hi HLIM.out⟩
    · have d1 := decide_eq_false hh
      have hset : setB R ((p1, p2), p3) hop = withoutL R ((p1, p2), p3) := by unfold setB; rw [if_neg hh]
      have HSET := hid hset
      clear hset hh
      go_wp2_with fail
      go_ret
      refine ⟨rfl, ?_, HC2.out⟩
      rw [HSET.out]
      have hi := HI.out
      rw [HSET.out] at hi
      exact ⟨g, hg, hq, _, HP2.out.toQ hi HLIM.out⟩
end Go.Proofs.Ytcnecjjgnnkjkaa
