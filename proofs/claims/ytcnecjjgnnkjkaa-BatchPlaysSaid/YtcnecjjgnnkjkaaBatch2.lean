/-
  Package batch: a new book; why a command can't be done; a prefix set; all routes. No condition but that words are words.
-/
import Derived.Test.YtcnecjjgnnkjkaaBatch1
namespace Go.Proofs.Ytcnecjjgnnkjkaa
open Go.RowKit
set_option linter.unusedVariables false
set_option linter.unusedSimpArgs false
set_option maxRecDepth 100000

set_option maxHeartbeats 4000000 in
theorem book_check {w : World} {b : Nat} {F : Nat → Prop} {m : Lim} {R : List Rt} (H : BookAt w b F m R) (c : Cm) (hc : c.ok) :
    Calls Try.prog 22 #[.pointer (some ⟨b, 0, none⟩), .agg #[.int .i64 c.k, .int .i64 c.hop, .int .i64 c.n, .int .u64 (c.p.1.1 : Int), .int .u64 (c.p.1.2 : Int), .int .i64 c.p.2, .int .u64 (c.a.1 : Int), .int .u64 (c.a.2 : Int), .int .u64 (c.s : Int), c.b]] w fun e w' => e = .returned (.int .i64 (cmErr m R c)) ∧ Below w.heap.size w w' := by
  have hok := hc
  obtain ⟨k, hop, n, ⟨⟨p1, p2⟩, p3⟩, ⟨a1, a2⟩, s, bv⟩ := c
  have hpo := hok.p
  have hwh := hok.hop
  simp only [cmErr] at *
  have hb0 := (Below.refl w.heap.size w).alloc (Nat.le_refl _) (.cells #[.int .i64 k, .int .i64 hop, .int .i64 n, .int .u64 (p1 : Int), .int .u64 (p2 : Int), .int .i64 p3, .int .u64 (a1 : Int), .int .u64 (a2 : Int), .int .u64 (s : Int), bv] 53)
  have hpb := Blk.new_at w #[.int .i64 k, .int .i64 hop, .int .i64 n, .int .u64 (p1 : Int), .int .u64 (p2 : Int), .int .i64 p3, .int .u64 (a1 : Int), .int .u64 (a2 : Int), .int .u64 (s : Int), bv] 53 w.heap.size rfl
  have H1 := H.below hb0
  have HG0 := hid H1
  have HB := hid hb0
  obtain ⟨v, hv⟩ : ∃ v, getV (mapOf R) ((p1, p2), p3) = v := ⟨_, rfl⟩
  obtain ⟨r, hr⟩ : ∃ r : Bool, decide (Pf.right ((p1, p2), p3)) = r := ⟨_, rfl⟩
  have HRR := hid hr
  obtain ⟨w0, hw0⟩ : ∃ w0, w.alloc (.cells #[.int .i64 k, .int .i64 hop, .int .i64 n, .int .u64 (p1 : Int), .int .u64 (p2 : Int), .int .i64 p3, .int .u64 (a1 : Int), .int .u64 (a2 : Int), .int .u64 (s : Int), bv] 53) = w0 := ⟨_, rfl⟩
  have HG1 := hid (hw0 ▸ H1 : BookAt w0 b F m R)
  have cA := hid (fun (w' : World) (h : Below w0.heap.size w0 w') => book_add (HG1.out.below h) ((p1, p2), p3) hpo hop hwh)
  have cR := hid (fun (w' : World) => addr_right (p1, p2) hpo p3 r hr.symm w')
  obtain ⟨g, hg, hq, FT, HQ⟩ := H1
  have HQ1 := hid (hw0 ▸ HQ : BookQ w0 b g hg hq FT F m R)
  have cG := hid (fun (w' : World) (h : Below w0.heap.size w0 w') => trr_get (HQ1.out.below h).tri ((p1, p2), p3) hpo)
  unfold GetPost at cG
  rw [hv] at cG
  have y0 := HQ.top.cellv (i := 0) rfl
  have y3 := HQ.top.cellv (i := 3) rfl
  have x0 := hpb.cellv (i := 0) rfl
  have x1 := hpb.cellv (i := 1) rfl
  have x3 := hpb.cellv (i := 3) rfl
  have x4 := hpb.cellv (i := 4) rfl
  have x5 := hpb.cellv (i := 5) rfl
  have hE : checkE m R k hop ((p1, p2), p3) = if k ≠ 1 ∧ k ≠ 2 then 1 else if r = false ∨ (m.wd : Int) < p3 then 3 else if k = 1 then (if hop < 0 then 1 else addE m R ((p1, p2), p3) hop) else if v = none then 4 else 0 := by
    unfold checkE
    rw [hv]
    have : (¬ Pf.right ((p1, p2), p3)) ↔ r = false := by rw [← hr]; simp
    simp only [this]
  have HE := hid hE
  generalize checkE m R k hop ((p1, p2), p3) = res at *
  generalize addE m R ((p1, p2), p3) hop = ae at *
  generalize (m.wd : Int) = wd at *
  clear hE H HQ hb0 hpb hv hr HG0 hok hc hpo hwh HRR
  subst hw0
  by_cases hk : k ≠ 1 ∧ k ≠ 2
  · rw [if_pos hk] at HE
    have e1 : (k != 1) = true := by simpa using hk.1
    have e2 : (k != 2) = true := by simpa using hk.2
    clear hk
    go_enter Try.func22, Try.ntmps22
    go_wp2_with fail
    generalize w.alloc (.cells #[.int .i64 k, .int .i64 hop, .int .i64 n, .int .u64 (p1 : Int), .int .u64 (p2 : Int), .int .i64 p3, .int .u64 (a1 : Int), .int .u64 (a2 : Int), .int .u64 (s : Int), bv] 53) = w0 at *
    go_ret
    exact ⟨by rw [HE.out]; rfl, HB.out⟩
  · rw [if_neg hk] at HE
    have hk2 : k = 1 ∨ k = 2 := by omega
    clear hk
    rcases hk2 with rfl | rfl
    · cases r with
      | false =>
        rw [if_pos (.inl rfl)] at HE
        go_enter Try.func22, Try.ntmps22
        go_wp2_with fail
        generalize w.alloc (.cells #[.int .i64 1, .int .i64 hop, .int .i64 n, .int .u64 (p1 : Int), .int .u64 (p2 : Int), .int .i64 p3, .int .u64 (a1 : Int), .int .u64 (a2 : Int), .int .u64 (s : Int), bv] 53) = w0 at *
        have hS : w0.drew.cell? ⟨b, 0, none⟩ = some (.int .i64 wd) ∧ w0.drew.cell? ⟨b, 3, none⟩ = some (.pointer (some ⟨g, 0, none⟩)) ∧ w0.drew.cell? ⟨w.heap.size, 0, none⟩ = some (.int .i64 1) ∧ w0.drew.cell? ⟨w.heap.size, 1, none⟩ = some (.int .i64 hop) ∧ w0.drew.cell? ⟨w.heap.size, 3, none⟩ = some (.int .u64 (p1 : Int)) ∧ w0.drew.cell? ⟨w.heap.size, 4, none⟩ = some (.int .u64 (p2 : Int)) ∧ w0.drew.cell? ⟨w.heap.size, 5, none⟩ = some (.int .i64 p3) := ⟨y0, y3, x0, x1, x3, x4, x5⟩
        refine wp_region_ord (fun w' => w'.cell? ⟨b, 0, none⟩ = some (.int .i64 wd) ∧ w'.cell? ⟨b, 3, none⟩ = some (.pointer (some ⟨g, 0, none⟩)) ∧ w'.cell? ⟨w.heap.size, 0, none⟩ = some (.int .i64 1) ∧ w'.cell? ⟨w.heap.size, 1, none⟩ = some (.int .i64 hop) ∧ w'.cell? ⟨w.heap.size, 3, none⟩ = some (.int .u64 (p1 : Int)) ∧ w'.cell? ⟨w.heap.size, 4, none⟩ = some (.int .u64 (p2 : Int)) ∧ w'.cell? ⟨w.heap.size, 5, none⟩ = some (.int .i64 p3)) (by kernel_rfl) hS ?_
        refine ord_still 0 rfl (v := ?_) (by kernel_rfl) (fun _ _ _ h => h) rfl (fun W hW => ?_) hS ?_
        rotate_left
        · try dsimp only at hW
          go_simp
          try with_reducible rfl
        simp only [Act.put, List.setIfInBounds_toArray, List.set_cons_zero, List.set_cons_succ]
        refine ord_still 1 rfl (v := ?_) (by kernel_rfl) (fun _ _ _ h => h) rfl (fun W hW => ?_) hS ?_
        rotate_left
        · try dsimp only at hW
          go_simp
          try with_reducible rfl
        simp only [Act.put, List.setIfInBounds_toArray, List.set_cons_zero, List.set_cons_succ]
        refine ord_alone 2 rfl (by kernel_rfl) rfl (fun K hK => ?_)
        go_simp
        refine (cR.out _).mono ?_
        rintro _ w1 ⟨rfl, hb⟩
        have HSw1 := hid (show w1.cell? ⟨b, 0, none⟩ = some (.int .i64 wd) ∧ w1.cell? ⟨b, 3, none⟩ = some (.pointer (some ⟨g, 0, none⟩)) ∧ w1.cell? ⟨w.heap.size, 0, none⟩ = some (.int .i64 1) ∧ w1.cell? ⟨w.heap.size, 1, none⟩ = some (.int .i64 hop) ∧ w1.cell? ⟨w.heap.size, 3, none⟩ = some (.int .u64 (p1 : Int)) ∧ w1.cell? ⟨w.heap.size, 4, none⟩ = some (.int .u64 (p2 : Int)) ∧ w1.cell? ⟨w.heap.size, 5, none⟩ = some (.int .i64 p3) from ⟨bcb hb hS.1, bcb hb hS.2.1, bcb hb hS.2.2.1, bcb hb hS.2.2.2.1, bcb hb hS.2.2.2.2.1, bcb hb hS.2.2.2.2.2.1, bcb hb hS.2.2.2.2.2.2⟩)
        have HBw1 := hid ((Below.refl w0.heap.size w0).drew.trans hb)
        clear hb
        clear hS
        have hS : w1.cell? ⟨b, 0, none⟩ = some (.int .i64 wd) ∧ w1.cell? ⟨b, 3, none⟩ = some (.pointer (some ⟨g, 0, none⟩)) ∧ w1.cell? ⟨w.heap.size, 0, none⟩ = some (.int .i64 1) ∧ w1.cell? ⟨w.heap.size, 1, none⟩ = some (.int .i64 hop) ∧ w1.cell? ⟨w.heap.size, 3, none⟩ = some (.int .u64 (p1 : Int)) ∧ w1.cell? ⟨w.heap.size, 4, none⟩ = some (.int .u64 (p2 : Int)) ∧ w1.cell? ⟨w.heap.size, 5, none⟩ = some (.int .i64 p3) := HSw1.out
        refine hK.out _ _ hS ?_
        clear hK
        refine ord_still 3 rfl (v := ?_) (by kernel_rfl) (fun _ _ _ h => h) rfl (fun W hW => ?_) hS ?_
        rotate_left
        · try dsimp only at hW
          go_simp
          try with_reducible rfl
        simp only [Act.put, List.setIfInBounds_toArray, List.set_cons_zero, List.set_cons_succ]
        refine ord_still 4 rfl (v := ?_) (by kernel_rfl) (fun _ _ _ h => h) rfl (fun W hW => ?_) hS ?_
        rotate_left
        · try dsimp only at hW
          go_simp
          try with_reducible rfl
        simp only [Act.put, List.setIfInBounds_toArray, List.set_cons_zero, List.set_cons_succ]
        refine ord_skip 5 rfl (by kernel_rfl) (fun _ _ _ h => h) rfl hS ?_
        simp only [Act.put, List.setIfInBounds_toArray, List.set_cons_zero, List.set_cons_succ]
        refine ord_skip 6 rfl (by kernel_rfl) (fun _ _ _ h => h) rfl hS ?_
        simp only [Act.put, List.setIfInBounds_toArray, List.set_cons_zero, List.set_cons_succ]
        refine ord_skip 7 rfl (by kernel_rfl) (fun _ _ _ h => h) rfl hS ?_
        simp only [Act.put, List.setIfInBounds_toArray, List.set_cons_zero, List.set_cons_succ]
        refine ord_skip 8 rfl (by kernel_rfl) (fun _ _ _ h => h) rfl hS ?_
        simp only [Act.put, List.setIfInBounds_toArray, List.set_cons_zero, List.set_cons_succ]
        refine ord_skip 9 rfl (by kernel_rfl) (fun _ _ _ h => h) rfl hS ?_
        simp only [Act.put, List.setIfInBounds_toArray, List.set_cons_zero, List.set_cons_succ]
        refine ord_skip 10 rfl (by kernel_rfl) (fun _ _ _ h => h) rfl hS ?_
        simp only [Act.put, List.setIfInBounds_toArray, List.set_cons_zero, List.set_cons_succ]
        refine ord_skip 11 rfl (by kernel_rfl) (fun _ _ _ h => h) rfl hS ?_
        simp only [Act.put, List.setIfInBounds_toArray, List.set_cons_zero, List.set_cons_succ]
        refine ord_skip 12 rfl (by kernel_rfl) (fun _ _ _ h => h) rfl hS ?_
        simp only [Act.put, List.setIfInBounds_toArray, List.set_cons_zero, List.set_cons_succ]
        refine ord_still 13 rfl (v := ?_) (by kernel_rfl) (fun _ _ _ h => h) rfl (fun W hW => ?_) hS ?_
        rotate_left
        · try dsimp only at hW
          go_simp
          try with_reducible rfl
        simp only [Act.put, List.setIfInBounds_toArray, List.set_cons_zero, List.set_cons_succ]
        refine ord_still 14 rfl (v := ?_) (by kernel_rfl) (fun _ _ _ h => h) rfl (fun W hW => ?_) hS ?_
        rotate_left
        · try dsimp only at hW
          go_simp
          try with_reducible rfl
        simp only [Act.put, List.setIfInBounds_toArray, List.set_cons_zero, List.set_cons_succ]
        refine ord_done (by kernel_rfl) ?_
        clear hS y0 y3 x0 x1 x3 x4 x5
        have hS := HSw1.out
        obtain ⟨y0, y3, x0, x1, x3, x4, x5⟩ := hS
        go_wp2_with fail
        go_ret
        exact ⟨by rw [HE.out]; rfl, HB.out.trans (HBw1.out.mono HB.out.size)⟩
      | true =>
        by_cases hw : wd < p3
        · rw [if_pos (.inr hw)] at HE
          have e1 := decide_eq_true hw
          clear hw
          go_enter Try.func22, Try.ntmps22
          go_wp2_with fail
          generalize w.alloc (.cells #[.int .i64 1, .int .i64 hop, .int .i64 n, .int .u64 (p1 : Int), .int .u64 (p2 : Int), .int .i64 p3, .int .u64 (a1 : Int), .int .u64 (a2 : Int), .int .u64 (s : Int), bv] 53) = w0 at *
          have hS : w0.drew.cell? ⟨b, 0, none⟩ = some (.int .i64 wd) ∧ w0.drew.cell? ⟨b, 3, none⟩ = some (.pointer (some ⟨g, 0, none⟩)) ∧ w0.drew.cell? ⟨w.heap.size, 0, none⟩ = some (.int .i64 1) ∧ w0.drew.cell? ⟨w.heap.size, 1, none⟩ = some (.int .i64 hop) ∧ w0.drew.cell? ⟨w.heap.size, 3, none⟩ = some (.int .u64 (p1 : Int)) ∧ w0.drew.cell? ⟨w.heap.size, 4, none⟩ = some (.int .u64 (p2 : Int)) ∧ w0.drew.cell? ⟨w.heap.size, 5, none⟩ = some (.int .i64 p3) := ⟨y0, y3, x0, x1, x3, x4, x5⟩
          refine wp_region_ord (fun w' => w'.cell? ⟨b, 0, none⟩ = some (.int .i64 wd) ∧ w'.cell? ⟨b, 3, none⟩ = some (.pointer (some ⟨g, 0, none⟩)) ∧ w'.cell? ⟨w.heap.size, 0, none⟩ = some (.int .i64 1) ∧ w'.cell? ⟨w.heap.size, 1, none⟩ = some (.int .i64 hop) ∧ w'.cell? ⟨w.heap.size, 3, none⟩ = some (.int .u64 (p1 : Int)) ∧ w'.cell? ⟨w.heap.size, 4, none⟩ = some (.int .u64 (p2 : Int)) ∧ w'.cell? ⟨w.heap.size, 5, none⟩ = some (.int .i64 p3)) (by kernel_rfl) hS ?_
          refine ord_still 0 rfl (v := ?_) (by kernel_rfl) (fun _ _ _ h => h) rfl (fun W hW => ?_) hS ?_
          rotate_left
          · try dsimp only at hW
            go_simp
            try with_reducible rfl
          simp only [Act.put, List.setIfInBounds_toArray, List.set_cons_zero, List.set_cons_succ]
          refine ord_still 1 rfl (v := ?_) (by kernel_rfl) (fun _ _ _ h => h) rfl (fun W hW => ?_) hS ?_
          rotate_left
          · try dsimp only at hW
            go_simp
            try with_reducible rfl
          simp only [Act.put, List.setIfInBounds_toArray, List.set_cons_zero, List.set_cons_succ]
          refine ord_alone 2 rfl (by kernel_rfl) rfl (fun K hK => ?_)
          go_simp
          refine (cR.out _).mono ?_
          rintro _ w1 ⟨rfl, hb⟩
          have HSw1 := hid (show w1.cell? ⟨b, 0, none⟩ = some (.int .i64 wd) ∧ w1.cell? ⟨b, 3, none⟩ = some (.pointer (some ⟨g, 0, none⟩)) ∧ w1.cell? ⟨w.heap.size, 0, none⟩ = some (.int .i64 1) ∧ w1.cell? ⟨w.heap.size, 1, none⟩ = some (.int .i64 hop) ∧ w1.cell? ⟨w.heap.size, 3, none⟩ = some (.int .u64 (p1 : Int)) ∧ w1.cell? ⟨w.heap.size, 4, none⟩ = some (.int .u64 (p2 : Int)) ∧ w1.cell? ⟨w.heap.size, 5, none⟩ = some (.int .i64 p3) from ⟨bcb hb hS.1, bcb hb hS.2.1, bcb hb hS.2.2.1, bcb hb hS.2.2.2.1, bcb hb hS.2.2.2.2.1, bcb hb hS.2.2.2.2.2.1, bcb hb hS.2.2.2.2.2.2⟩)
          have HBw1 := hid ((Below.refl w0.heap.size w0).drew.trans hb)
          clear hb
          clear hS
          have hS : w1.cell? ⟨b, 0, none⟩ = some (.int .i64 wd) ∧ w1.cell? ⟨b, 3, none⟩ = some (.pointer (some ⟨g, 0, none⟩)) ∧ w1.cell? ⟨w.heap.size, 0, none⟩ = some (.int .i64 1) ∧ w1.cell? ⟨w.heap.size, 1, none⟩ = some (.int .i64 hop) ∧ w1.cell? ⟨w.heap.size, 3, none⟩ = some (.int .u64 (p1 : Int)) ∧ w1.cell? ⟨w.heap.size, 4, none⟩ = some (.int .u64 (p2 : Int)) ∧ w1.cell? ⟨w.heap.size, 5, none⟩ = some (.int .i64 p3) := HSw1.out
          refine hK.out _ _ hS ?_
          clear hK
          refine ord_still 3 rfl (v := ?_) (by kernel_rfl) (fun _ _ _ h => h) rfl (fun W hW => ?_) hS ?_
          rotate_left
          · try dsimp only at hW
            go_simp
            try with_reducible rfl
          simp only [Act.put, List.setIfInBounds_toArray, List.set_cons_zero, List.set_cons_succ]
          refine ord_still 4 rfl (v := ?_) (by kernel_rfl) (fun _ _ _ h => h) rfl (fun W hW => ?_) hS ?_
          rotate_left
          · try dsimp only at hW
            go_simp
            try with_reducible rfl
          simp only [Act.put, List.setIfInBounds_toArray, List.set_cons_zero, List.set_cons_succ]
          refine ord_still 5 rfl (v := ?_) (by kernel_rfl) (fun _ _ _ h => h) rfl (fun W hW => ?_) hS ?_
          rotate_left
          · try dsimp only at hW
            go_simp
            try with_reducible rfl
          simp only [Act.put, List.setIfInBounds_toArray, List.set_cons_zero, List.set_cons_succ]
          refine ord_still 6 rfl (v := ?_) (by kernel_rfl) (fun _ _ _ h => h) rfl (fun W hW => ?_) hS ?_
          rotate_left
          · try dsimp only at hW
            go_simp
            try with_reducible rfl
          simp only [Act.put, List.setIfInBounds_toArray, List.set_cons_zero, List.set_cons_succ]
          refine ord_still 7 rfl (v := ?_) (by kernel_rfl) (fun _ _ _ h => h) rfl (fun W hW => ?_) hS ?_
          rotate_left
          · try dsimp only at hW
            go_simp
            try with_reducible rfl
          simp only [Act.put, List.setIfInBounds_toArray, List.set_cons_zero, List.set_cons_succ]
          refine ord_still 8 rfl (v := ?_) (by kernel_rfl) (fun _ _ _ h => h) rfl (fun W hW => ?_) hS ?_
          rotate_left
          · try dsimp only at hW
            go_simp
            try with_reducible rfl
          simp only [Act.put, List.setIfInBounds_toArray, List.set_cons_zero, List.set_cons_succ]
          refine ord_still 9 rfl (v := ?_) (by kernel_rfl) (fun _ _ _ h => h) rfl (fun W hW => ?_) hS ?_
          rotate_left
          · try dsimp only at hW
            go_simp
            try with_reducible rfl
          simp only [Act.put, List.setIfInBounds_toArray, List.set_cons_zero, List.set_cons_succ]
          refine ord_still 10 rfl (v := ?_) (by kernel_rfl) (fun _ _ _ h => h) rfl (fun W hW => ?_) hS ?_
          rotate_left
          · try dsimp only at hW
            go_simp
            try with_reducible rfl
          simp only [Act.put, List.setIfInBounds_toArray, List.set_cons_zero, List.set_cons_succ]
          refine ord_still 11 rfl (v := ?_) (by kernel_rfl) (fun _ _ _ h => h) rfl (fun W hW => ?_) hS ?_
          rotate_left
          · try dsimp only at hW
            go_simp
            try with_reducible rfl
          simp only [Act.put, List.setIfInBounds_toArray, List.set_cons_zero, List.set_cons_succ]
          refine ord_still 12 rfl (v := ?_) (by kernel_rfl) (fun _ _ _ h => h) rfl (fun W hW => ?_) hS ?_
          rotate_left
          · try dsimp only at hW
            go_simp
            try with_reducible rfl
          simp only [Act.put, List.setIfInBounds_toArray, List.set_cons_zero, List.set_cons_succ]
          refine ord_still 13 rfl (v := ?_) (by kernel_rfl) (fun _ _ _ h => h) rfl (fun W hW => ?_) hS ?_
          rotate_left
          · try dsimp only at hW
            go_simp
            try with_reducible rfl
          simp only [Act.put, List.setIfInBounds_toArray, List.set_cons_zero, List.set_cons_succ]
          refine ord_still 14 rfl (v := ?_) (by kernel_rfl) (fun _ _ _ h => h) rfl (fun W hW => ?_) hS ?_
          rotate_left
          · try dsimp only at hW
            go_simp
            try with_reducible rfl
          simp only [Act.put, List.setIfInBounds_toArray, List.set_cons_zero, List.set_cons_succ]
          refine ord_done (by kernel_rfl) ?_
          clear hS y0 y3 x0 x1 x3 x4 x5
          have hS := HSw1.out
          obtain ⟨y0, y3, x0, x1, x3, x4, x5⟩ := hS
          go_wp2_with fail
          go_ret
          exact ⟨by rw [HE.out]; rfl, HB.out.trans (HBw1.out.mono HB.out.size)⟩
        · rw [if_neg (by simp [hw])] at HE
          have e1 := decide_eq_false hw
          clear hw
          rw [if_pos rfl] at HE
          by_cases hh : hop < 0
          · rw [if_pos hh] at HE
            have e2 := decide_eq_true hh
            clear hh
            go_enter Try.func22, Try.ntmps22
            go_wp2_with fail
            generalize w.alloc (.cells #[.int .i64 1, .int .i64 hop, .int .i64 n, .int .u64 (p1 : Int), .int .u64 (p2 : Int), .int .i64 p3, .int .u64 (a1 : Int), .int .u64 (a2 : Int), .int .u64 (s : Int), bv] 53) = w0 at *
            have hS : w0.drew.cell? ⟨b, 0, none⟩ = some (.int .i64 wd) ∧ w0.drew.cell? ⟨b, 3, none⟩ = some (.pointer (some ⟨g, 0, none⟩)) ∧ w0.drew.cell? ⟨w.heap.size, 0, none⟩ = some (.int .i64 1) ∧ w0.drew.cell? ⟨w.heap.size, 1, none⟩ = some (.int .i64 hop) ∧ w0.drew.cell? ⟨w.heap.size, 3, none⟩ = some (.int .u64 (p1 : Int)) ∧ w0.drew.cell? ⟨w.heap.size, 4, none⟩ = some (.int .u64 (p2 : Int)) ∧ w0.drew.cell? ⟨w.heap.size, 5, none⟩ = some (.int .i64 p3) := ⟨y0, y3, x0, x1, x3, x4, x5⟩
            refine wp_region_ord (fun w' => w'.cell? ⟨b, 0, none⟩ = some (.int .i64 wd) ∧ w'.cell? ⟨b, 3, none⟩ = some (.pointer (some ⟨g, 0, none⟩)) ∧ w'.cell? ⟨w.heap.size, 0, none⟩ = some (.int .i64 1) ∧ w'.cell? ⟨w.heap.size, 1, none⟩ = some (.int .i64 hop) ∧ w'.cell? ⟨w.heap.size, 3, none⟩ = some (.int .u64 (p1 : Int)) ∧ w'.cell? ⟨w.heap.size, 4, none⟩ = some (.int .u64 (p2 : Int)) ∧ w'.cell? ⟨w.heap.size, 5, none⟩ = some (.int .i64 p3)) (by kernel_rfl) hS ?_
            refine ord_still 0 rfl (v := ?_) (by kernel_rfl) (fun _ _ _ h => h) rfl (fun W hW => ?_) hS ?_
            rotate_left
            · try dsimp only at hW
              go_simp
              try with_reducible rfl
            simp only [Act.put, List.setIfInBounds_toArray, List.set_cons_zero, List.set_cons_succ]
            refine ord_still 1 rfl (v := ?_) (by kernel_rfl) (fun _ _ _ h => h) rfl (fun W hW => ?_) hS ?_
            rotate_left
            · try dsimp only at hW
              go_simp
              try with_reducible rfl
            simp only [Act.put, List.setIfInBounds_toArray, List.set_cons_zero, List.set_cons_succ]
            refine ord_alone 2 rfl (by kernel_rfl) rfl (fun K hK => ?_)
            go_simp
            refine (cR.out _).mono ?_
            rintro _ w1 ⟨rfl, hb⟩
            have HSw1 := hid (show w1.cell? ⟨b, 0, none⟩ = some (.int .i64 wd) ∧ w1.cell? ⟨b, 3, none⟩ = some (.pointer (some ⟨g, 0, none⟩)) ∧ w1.cell? ⟨w.heap.size, 0, none⟩ = some (.int .i64 1) ∧ w1.cell? ⟨w.heap.size, 1, none⟩ = some (.int .i64 hop) ∧ w1.cell? ⟨w.heap.size, 3, none⟩ = some (.int .u64 (p1 : Int)) ∧ w1.cell? ⟨w.heap.size, 4, none⟩ = some (.int .u64 (p2 : Int)) ∧ w1.cell? ⟨w.heap.size, 5, none⟩ = some (.int .i64 p3) from ⟨bcb hb hS.1, bcb hb hS.2.1, bcb hb hS.2.2.1, bcb hb hS.2.2.2.1, bcb hb hS.2.2.2.2.1, bcb hb hS.2.2.2.2.2.1, bcb hb hS.2.2.2.2.2.2⟩)
            have HBw1 := hid ((Below.refl w0.heap.size w0).drew.trans hb)
            clear hb
            clear hS
            have hS : w1.cell? ⟨b, 0, none⟩ = some (.int .i64 wd) ∧ w1.cell? ⟨b, 3, none⟩ = some (.pointer (some ⟨g, 0, none⟩)) ∧ w1.cell? ⟨w.heap.size, 0, none⟩ = some (.int .i64 1) ∧ w1.cell? ⟨w.heap.size, 1, none⟩ = some (.int .i64 hop) ∧ w1.cell? ⟨w.heap.size, 3, none⟩ = some (.int .u64 (p1 : Int)) ∧ w1.cell? ⟨w.heap.size, 4, none⟩ = some (.int .u64 (p2 : Int)) ∧ w1.cell? ⟨w.heap.size, 5, none⟩ = some (.int .i64 p3) := HSw1.out
            refine hK.out _ _ hS ?_
            clear hK
            refine ord_still 3 rfl (v := ?_) (by kernel_rfl) (fun _ _ _ h => h) rfl (fun W hW => ?_) hS ?_
            rotate_left
            · try dsimp only at hW
              go_simp
              try with_reducible rfl
            simp only [Act.put, List.setIfInBounds_toArray, List.set_cons_zero, List.set_cons_succ]
            refine ord_still 4 rfl (v := ?_) (by kernel_rfl) (fun _ _ _ h => h) rfl (fun W hW => ?_) hS ?_
            rotate_left
            · try dsimp only at hW
              go_simp
              try with_reducible rfl
            simp only [Act.put, List.setIfInBounds_toArray, List.set_cons_zero, List.set_cons_succ]
            refine ord_still 5 rfl (v := ?_) (by kernel_rfl) (fun _ _ _ h => h) rfl (fun W hW => ?_) hS ?_
            rotate_left
            · try dsimp only at hW
              go_simp
              try with_reducible rfl
            simp only [Act.put, List.setIfInBounds_toArray, List.set_cons_zero, List.set_cons_succ]
            refine ord_still 6 rfl (v := ?_) (by kernel_rfl) (fun _ _ _ h => h) rfl (fun W hW => ?_) hS ?_
            rotate_left
            · try dsimp only at hW
              go_simp
              try with_reducible rfl
            simp only [Act.put, List.setIfInBounds_toArray, List.set_cons_zero, List.set_cons_succ]
            refine ord_still 7 rfl (v := ?_) (by kernel_rfl) (fun _ _ _ h => h) rfl (fun W hW => ?_) hS ?_
            rotate_left
            · try dsimp only at hW
              go_simp
              try with_reducible rfl
            simp only [Act.put, List.setIfInBounds_toArray, List.set_cons_zero, List.set_cons_succ]
            refine ord_still 8 rfl (v := ?_) (by kernel_rfl) (fun _ _ _ h => h) rfl (fun W hW => ?_) hS ?_
            rotate_left
            · try dsimp only at hW
              go_simp
              try with_reducible rfl
            simp only [Act.put, List.setIfInBounds_toArray, List.set_cons_zero, List.set_cons_succ]
            refine ord_still 9 rfl (v := ?_) (by kernel_rfl) (fun _ _ _ h => h) rfl (fun W hW => ?_) hS ?_
            rotate_left
            · try dsimp only at hW
              go_simp
              try with_reducible rfl
            simp only [Act.put, List.setIfInBounds_toArray, List.set_cons_zero, List.set_cons_succ]
            refine ord_still 10 rfl (v := ?_) (by kernel_rfl) (fun _ _ _ h => h) rfl (fun W hW => ?_) hS ?_
            rotate_left
            · try dsimp only at hW
              go_simp
              try with_reducible rfl
            simp only [Act.put, List.setIfInBounds_toArray, List.set_cons_zero, List.set_cons_succ]
            refine ord_still 11 rfl (v := ?_) (by kernel_rfl) (fun _ _ _ h => h) rfl (fun W hW => ?_) hS ?_
            rotate_left
            · try dsimp only at hW
              go_simp
              try with_reducible rfl
            simp only [Act.put, List.setIfInBounds_toArray, List.set_cons_zero, List.set_cons_succ]
            refine ord_still 12 rfl (v := ?_) (by kernel_rfl) (fun _ _ _ h => h) rfl (fun W hW => ?_) hS ?_
            rotate_left
            · try dsimp only at hW
              go_simp
              try with_reducible rfl
            simp only [Act.put, List.setIfInBounds_toArray, List.set_cons_zero, List.set_cons_succ]
            refine ord_still 13 rfl (v := ?_) (by kernel_rfl) (fun _ _ _ h => h) rfl (fun W hW => ?_) hS ?_
            rotate_left
            · try dsimp only at hW
              go_simp
              try with_reducible rfl
            simp only [Act.put, List.setIfInBounds_toArray, List.set_cons_zero, List.set_cons_succ]
            refine ord_still 14 rfl (v := ?_) (by kernel_rfl) (fun _ _ _ h => h) rfl (fun W hW => ?_) hS ?_
            rotate_left
            · try dsimp only at hW
              go_simp
              try with_reducible rfl
            simp only [Act.put, List.setIfInBounds_toArray, List.set_cons_zero, List.set_cons_succ]
            refine ord_done (by kernel_rfl) ?_
            clear hS y0 y3 x0 x1 x3 x4 x5
            have hS := HSw1.out
            obtain ⟨y0, y3, x0, x1, x3, x4, x5⟩ := hS
            go_wp2_with fail
            go_ret
            exact ⟨by rw [HE.out]; rfl, HB.out.trans (HBw1.out.mono HB.out.size)⟩
          · rw [if_neg hh] at HE
            have e2 := decide_eq_false hh
            clear hh
            go_enter Try.func22, Try.ntmps22
            go_wp2_with fail
            generalize w.alloc (.cells #[.int .i64 1, .int .i64 hop, .int .i64 n, .int .u64 (p1 : Int), .int .u64 (p2 : Int), .int .i64 p3, .int .u64 (a1 : Int), .int .u64 (a2 : Int), .int .u64 (s : Int), bv] 53) = w0 at *
            have hS : w0.drew.cell? ⟨b, 0, none⟩ = some (.int .i64 wd) ∧ w0.drew.cell? ⟨b, 3, none⟩ = some (.pointer (some ⟨g, 0, none⟩)) ∧ w0.drew.cell? ⟨w.heap.size, 0, none⟩ = some (.int .i64 1) ∧ w0.drew.cell? ⟨w.heap.size, 1, none⟩ = some (.int .i64 hop) ∧ w0.drew.cell? ⟨w.heap.size, 3, none⟩ = some (.int .u64 (p1 : Int)) ∧ w0.drew.cell? ⟨w.heap.size, 4, none⟩ = some (.int .u64 (p2 : Int)) ∧ w0.drew.cell? ⟨w.heap.size, 5, none⟩ = some (.int .i64 p3) := ⟨y0, y3, x0, x1, x3, x4, x5⟩
            refine wp_region_ord (fun w' => w'.cell? ⟨b, 0, none⟩ = some (.int .i64 wd) ∧ w'.cell? ⟨b, 3, none⟩ = some (.pointer (some ⟨g, 0, none⟩)) ∧ w'.cell? ⟨w.heap.size, 0, none⟩ = some (.int .i64 1) ∧ w'.cell? ⟨w.heap.size, 1, none⟩ = some (.int .i64 hop) ∧ w'.cell? ⟨w.heap.size, 3, none⟩ = some (.int .u64 (p1 : Int)) ∧ w'.cell? ⟨w.heap.size, 4, none⟩ = some (.int .u64 (p2 : Int)) ∧ w'.cell? ⟨w.heap.size, 5, none⟩ = some (.int .i64 p3)) (by kernel_rfl) hS ?_
            refine ord_still 0 rfl (v := ?_) (by kernel_rfl) (fun _ _ _ h => h) rfl (fun W hW => ?_) hS ?_
            rotate_left
            · try dsimp only at hW
              go_simp
              try with_reducible rfl
            simp only [Act.put, List.setIfInBounds_toArray, List.set_cons_zero, List.set_cons_succ]
            refine ord_still 1 rfl (v := ?_) (by kernel_rfl) (fun _ _ _ h => h) rfl (fun W hW => ?_) hS ?_
            rotate_left
            · try dsimp only at hW
              go_simp
              try with_reducible rfl
            simp only [Act.put, List.setIfInBounds_toArray, List.set_cons_zero, List.set_cons_succ]
            refine ord_alone 2 rfl (by kernel_rfl) rfl (fun K hK => ?_)
            go_simp
            refine (cR.out _).mono ?_
            rintro _ w1 ⟨rfl, hb⟩
            have HSw1 := hid (show w1.cell? ⟨b, 0, none⟩ = some (.int .i64 wd) ∧ w1.cell? ⟨b, 3, none⟩ = some (.pointer (some ⟨g, 0, none⟩)) ∧ w1.cell? ⟨w.heap.size, 0, none⟩ = some (.int .i64 1) ∧ w1.cell? ⟨w.heap.size, 1, none⟩ = some (.int .i64 hop) ∧ w1.cell? ⟨w.heap.size, 3, none⟩ = some (.int .u64 (p1 : Int)) ∧ w1.cell? ⟨w.heap.size, 4, none⟩ = some (.int .u64 (p2 : Int)) ∧ w1.cell? ⟨w.heap.size, 5, none⟩ = some (.int .i64 p3) from ⟨bcb hb hS.1, bcb hb hS.2.1, bcb hb hS.2.2.1, bcb hb hS.2.2.2.1, bcb hb hS.2.2.2.2.1, bcb hb hS.2.2.2.2.2.1, bcb hb hS.2.2.2.2.2.2⟩)
            have HBw1 := hid ((Below.refl w0.heap.size w0).drew.trans hb)
            clear hb
            clear hS
            have hS : w1.cell? ⟨b, 0, none⟩ = some (.int .i64 wd) ∧ w1.cell? ⟨b, 3, none⟩ = some (.pointer (some ⟨g, 0, none⟩)) ∧ w1.cell? ⟨w.heap.size, 0, none⟩ = some (.int .i64 1) ∧ w1.cell? ⟨w.heap.size, 1, none⟩ = some (.int .i64 hop) ∧ w1.cell? ⟨w.heap.size, 3, none⟩ = some (.int .u64 (p1 : Int)) ∧ w1.cell? ⟨w.heap.size, 4, none⟩ = some (.int .u64 (p2 : Int)) ∧ w1.cell? ⟨w.heap.size, 5, none⟩ = some (.int .i64 p3) := HSw1.out
            refine hK.out _ _ hS ?_
            clear hK
            refine ord_still 3 rfl (v := ?_) (by kernel_rfl) (fun _ _ _ h => h) rfl (fun W hW => ?_) hS ?_
            rotate_left
            · try dsimp only at hW
              go_simp
              try with_reducible rfl
            simp only [Act.put, List.setIfInBounds_toArray, List.set_cons_zero, List.set_cons_succ]
            refine ord_still 4 rfl (v := ?_) (by kernel_rfl) (fun _ _ _ h => h) rfl (fun W hW => ?_) hS ?_
            rotate_left
            · try dsimp only at hW
              go_simp
              try with_reducible rfl
            simp only [Act.put, List.setIfInBounds_toArray, List.set_cons_zero, List.set_cons_succ]
            refine ord_still 5 rfl (v := ?_) (by kernel_rfl) (fun _ _ _ h => h) rfl (fun W hW => ?_) hS ?_
            rotate_left
            · try dsimp only at hW
              go_simp
              try with_reducible rfl
            simp only [Act.put, List.setIfInBounds_toArray, List.set_cons_zero, List.set_cons_succ]
            refine ord_still 6 rfl (v := ?_) (by kernel_rfl) (fun _ _ _ h => h) rfl (fun W hW => ?_) hS ?_
            rotate_left
            · try dsimp only at hW
              go_simp
              try with_reducible rfl
            simp only [Act.put, List.setIfInBounds_toArray, List.set_cons_zero, List.set_cons_succ]
            refine ord_still 7 rfl (v := ?_) (by kernel_rfl) (fun _ _ _ h => h) rfl (fun W hW => ?_) hS ?_
            rotate_left
            · try dsimp only at hW
              go_simp
              try with_reducible rfl
            simp only [Act.put, List.setIfInBounds_toArray, List.set_cons_zero, List.set_cons_succ]
            refine ord_still 8 rfl (v := ?_) (by kernel_rfl) (fun _ _ _ h => h) rfl (fun W hW => ?_) hS ?_
            rotate_left
            · try dsimp only at hW
              go_simp
              try with_reducible rfl
            simp only [Act.put, List.setIfInBounds_toArray, List.set_cons_zero, List.set_cons_succ]
            refine ord_still 9 rfl (v := ?_) (by kernel_rfl) (fun _ _ _ h => h) rfl (fun W hW => ?_) hS ?_
            rotate_left
            · try dsimp only at hW
              go_simp
              try with_reducible rfl
            simp only [Act.put, List.setIfInBounds_toArray, List.set_cons_zero, List.set_cons_succ]
            refine ord_still 10 rfl (v := ?_) (by kernel_rfl) (fun _ _ _ h => h) rfl (fun W hW => ?_) hS ?_
            rotate_left
            · try dsimp only at hW
              go_simp
              try with_reducible rfl
            simp only [Act.put, List.setIfInBounds_toArray, List.set_cons_zero, List.set_cons_succ]
            refine ord_still 11 rfl (v := ?_) (by kernel_rfl) (fun _ _ _ h => h) rfl (fun W hW => ?_) hS ?_
            rotate_left
            · try dsimp only at hW
              go_simp
              try with_reducible rfl
            simp only [Act.put, List.setIfInBounds_toArray, List.set_cons_zero, List.set_cons_succ]
            refine ord_still 12 rfl (v := ?_) (by kernel_rfl) (fun _ _ _ h => h) rfl (fun W hW => ?_) hS ?_
            rotate_left
            · try dsimp only at hW
              go_simp
              try with_reducible rfl
            simp only [Act.put, List.setIfInBounds_toArray, List.set_cons_zero, List.set_cons_succ]
            refine ord_still 13 rfl (v := ?_) (by kernel_rfl) (fun _ _ _ h => h) rfl (fun W hW => ?_) hS ?_
            rotate_left
            · try dsimp only at hW
              go_simp
              try with_reducible rfl
            simp only [Act.put, List.setIfInBounds_toArray, List.set_cons_zero, List.set_cons_succ]
            refine ord_still 14 rfl (v := ?_) (by kernel_rfl) (fun _ _ _ h => h) rfl (fun W hW => ?_) hS ?_
            rotate_left
            · try dsimp only at hW
              go_simp
              try with_reducible rfl
            simp only [Act.put, List.setIfInBounds_toArray, List.set_cons_zero, List.set_cons_succ]
            refine ord_done (by kernel_rfl) ?_
            clear hS y0 y3 x0 x1 x3 x4 x5
            have hS := HSw1.out
            obtain ⟨y0, y3, x0, x1, x3, x4, x5⟩ := hS
            go_wp2_with fail
            refine (cA.out _ HBw1.out).mono ?_
            rintro _ w2 ⟨rfl, hb⟩
            have HB2 := hid (held_next HBw1.out hb)
            clear hb
            go_wp2_with fail
            go_ret
            exact ⟨by rw [HE.out]; rfl, HB.out.trans (HB2.out.mono HB.out.size)⟩
    · cases r with
      | false =>
        rw [if_pos (.inl rfl)] at HE
        go_enter Try.func22, Try.ntmps22
        go_wp2_with fail
        generalize w.alloc (.cells #[.int .i64 2, .int .i64 hop, .int .i64 n, .int .u64 (p1 : Int), .int .u64 (p2 : Int), .int .i64 p3, .int .u64 (a1 : Int), .int .u64 (a2 : Int), .int .u64 (s : Int), bv] 53) = w0 at *
        have hS : w0.drew.cell? ⟨b, 0, none⟩ = some (.int .i64 wd) ∧ w0.drew.cell? ⟨b, 3, none⟩ = some (.pointer (some ⟨g, 0, none⟩)) ∧ w0.drew.cell? ⟨w.heap.size, 0, none⟩ = some (.int .i64 2) ∧ w0.drew.cell? ⟨w.heap.size, 1, none⟩ = some (.int .i64 hop) ∧ w0.drew.cell? ⟨w.heap.size, 3, none⟩ = some (.int .u64 (p1 : Int)) ∧ w0.drew.cell? ⟨w.heap.size, 4, none⟩ = some (.int .u64 (p2 : Int)) ∧ w0.drew.cell? ⟨w.heap.size, 5, none⟩ = some (.int .i64 p3) := ⟨y0, y3, x0, x1, x3, x4, x5⟩
        refine wp_region_ord (fun w' => w'.cell? ⟨b, 0, none⟩ = some (.int .i64 wd) ∧ w'.cell? ⟨b, 3, none⟩ = some (.pointer (some ⟨g, 0, none⟩)) ∧ w'.cell? ⟨w.heap.size, 0, none⟩ = some (.int .i64 2) ∧ w'.cell? ⟨w.heap.size, 1, none⟩ = some (.int .i64 hop) ∧ w'.cell? ⟨w.heap.size, 3, none⟩ = some (.int .u64 (p1 : Int)) ∧ w'.cell? ⟨w.heap.size, 4, none⟩ = some (.int .u64 (p2 : Int)) ∧ w'.cell? ⟨w.heap.size, 5, none⟩ = some (.int .i64 p3)) (by kernel_rfl) hS ?_
        refine ord_still 0 rfl (v := ?_) (by kernel_rfl) (fun _ _ _ h => h) rfl (fun W hW => ?_) hS ?_
        rotate_left
        · try dsimp only at hW
          go_simp
          try with_reducible rfl
        simp only [Act.put, List.setIfInBounds_toArray, List.set_cons_zero, List.set_cons_succ]
        refine ord_still 1 rfl (v := ?_) (by kernel_rfl) (fun _ _ _ h => h) rfl (fun W hW => ?_) hS ?_
        rotate_left
        · try dsimp only at hW
          go_simp
          try with_reducible rfl
        simp only [Act.put, List.setIfInBounds_toArray, List.set_cons_zero, List.set_cons_succ]
        refine ord_alone 2 rfl (by kernel_rfl) rfl (fun K hK => ?_)
        go_simp
        refine (cR.out _).mono ?_
        rintro _ w1 ⟨rfl, hb⟩
        have HSw1 := hid (show w1.cell? ⟨b, 0, none⟩ = some (.int .i64 wd) ∧ w1.cell? ⟨b, 3, none⟩ = some (.pointer (some ⟨g, 0, none⟩)) ∧ w1.cell? ⟨w.heap.size, 0, none⟩ = some (.int .i64 2) ∧ w1.cell? ⟨w.heap.size, 1, none⟩ = some (.int .i64 hop) ∧ w1.cell? ⟨w.heap.size, 3, none⟩ = some (.int .u64 (p1 : Int)) ∧ w1.cell? ⟨w.heap.size, 4, none⟩ = some (.int .u64 (p2 : Int)) ∧ w1.cell? ⟨w.heap.size, 5, none⟩ = some (.int .i64 p3) from ⟨bcb hb hS.1, bcb hb hS.2.1, bcb hb hS.2.2.1, bcb hb hS.2.2.2.1, bcb hb hS.2.2.2.2.1, bcb hb hS.2.2.2.2.2.1, bcb hb hS.2.2.2.2.2.2⟩)
        have HBw1 := hid ((Below.refl w0.heap.size w0).drew.trans hb)
        clear hb
        clear hS
        have hS : w1.cell? ⟨b, 0, none⟩ = some (.int .i64 wd) ∧ w1.cell? ⟨b, 3, none⟩ = some (.pointer (some ⟨g, 0, none⟩)) ∧ w1.cell? ⟨w.heap.size, 0, none⟩ = some (.int .i64 2) ∧ w1.cell? ⟨w.heap.size, 1, none⟩ = some (.int .i64 hop) ∧ w1.cell? ⟨w.heap.size, 3, none⟩ = some (.int .u64 (p1 : Int)) ∧ w1.cell? ⟨w.heap.size, 4, none⟩ = some (.int .u64 (p2 : Int)) ∧ w1.cell? ⟨w.heap.size, 5, none⟩ = some (.int .i64 p3) := HSw1.out
        refine hK.out _ _ hS ?_
        clear hK
        refine ord_still 3 rfl (v := ?_) (by kernel_rfl) (fun _ _ _ h => h) rfl (fun W hW => ?_) hS ?_
        rotate_left
        · try dsimp only at hW
          go_simp
          try with_reducible rfl
        simp only [Act.put, List.setIfInBounds_toArray, List.set_cons_zero, List.set_cons_succ]
        refine ord_still 4 rfl (v := ?_) (by kernel_rfl) (fun _ _ _ h => h) rfl (fun W hW => ?_) hS ?_
        rotate_left
        · try dsimp only at hW
          go_simp
          try with_reducible rfl
        simp only [Act.put, List.setIfInBounds_toArray, List.set_cons_zero, List.set_cons_succ]
        refine ord_skip 5 rfl (by kernel_rfl) (fun _ _ _ h => h) rfl hS ?_
        simp only [Act.put, List.setIfInBounds_toArray, List.set_cons_zero, List.set_cons_succ]
        refine ord_skip 6 rfl (by kernel_rfl) (fun _ _ _ h => h) rfl hS ?_
        simp only [Act.put, List.setIfInBounds_toArray, List.set_cons_zero, List.set_cons_succ]
        refine ord_skip 7 rfl (by kernel_rfl) (fun _ _ _ h => h) rfl hS ?_
        simp only [Act.put, List.setIfInBounds_toArray, List.set_cons_zero, List.set_cons_succ]
        refine ord_skip 8 rfl (by kernel_rfl) (fun _ _ _ h => h) rfl hS ?_
        simp only [Act.put, List.setIfInBounds_toArray, List.set_cons_zero, List.set_cons_succ]
        refine ord_skip 9 rfl (by kernel_rfl) (fun _ _ _ h => h) rfl hS ?_
        simp only [Act.put, List.setIfInBounds_toArray, List.set_cons_zero, List.set_cons_succ]
        refine ord_skip 10 rfl (by kernel_rfl) (fun _ _ _ h => h) rfl hS ?_
        simp only [Act.put, List.setIfInBounds_toArray, List.set_cons_zero, List.set_cons_succ]
        refine ord_skip 11 rfl (by kernel_rfl) (fun _ _ _ h => h) rfl hS ?_
        simp only [Act.put, List.setIfInBounds_toArray, List.set_cons_zero, List.set_cons_succ]
        refine ord_skip 12 rfl (by kernel_rfl) (fun _ _ _ h => h) rfl hS ?_
        simp only [Act.put, List.setIfInBounds_toArray, List.set_cons_zero, List.set_cons_succ]
        refine ord_still 13 rfl (v := ?_) (by kernel_rfl) (fun _ _ _ h => h) rfl (fun W hW => ?_) hS ?_
        rotate_left
        · try dsimp only at hW
          go_simp
          try with_reducible rfl
        simp only [Act.put, List.setIfInBounds_toArray, List.set_cons_zero, List.set_cons_succ]
        refine ord_still 14 rfl (v := ?_) (by kernel_rfl) (fun _ _ _ h => h) rfl (fun W hW => ?_) hS ?_
        rotate_left
        · try dsimp only at hW
          go_simp
          try with_reducible rfl
        simp only [Act.put, List.setIfInBounds_toArray, List.set_cons_zero, List.set_cons_succ]
        refine ord_done (by kernel_rfl) ?_
        clear hS y0 y3 x0 x1 x3 x4 x5
        have hS := HSw1.out
        obtain ⟨y0, y3, x0, x1, x3, x4, x5⟩ := hS
        go_wp2_with fail
        go_ret
        exact ⟨by rw [HE.out]; rfl, HB.out.trans (HBw1.out.mono HB.out.size)⟩
      | true =>
        by_cases hw : wd < p3
        · rw [if_pos (.inr hw)] at HE
          have e1 := decide_eq_true hw
          clear hw
          go_enter Try.func22, Try.ntmps22
          go_wp2_with fail
          generalize w.alloc (.cells #[.int .i64 2, .int .i64 hop, .int .i64 n, .int .u64 (p1 : Int), .int .u64 (p2 : Int), .int .i64 p3, .int .u64 (a1 : Int), .int .u64 (a2 : Int), .int .u64 (s : Int), bv] 53) = w0 at *
          have hS : w0.drew.cell? ⟨b, 0, none⟩ = some (.int .i64 wd) ∧ w0.drew.cell? ⟨b, 3, none⟩ = some (.pointer (some ⟨g, 0, none⟩)) ∧ w0.drew.cell? ⟨w.heap.size, 0, none⟩ = some (.int .i64 2) ∧ w0.drew.cell? ⟨w.heap.size, 1, none⟩ = some (.int .i64 hop) ∧ w0.drew.cell? ⟨w.heap.size, 3, none⟩ = some (.int .u64 (p1 : Int)) ∧ w0.drew.cell? ⟨w.heap.size, 4, none⟩ = some (.int .u64 (p2 : Int)) ∧ w0.drew.cell? ⟨w.heap.size, 5, none⟩ = some (.int .i64 p3) := ⟨y0, y3, x0, x1, x3, x4, x5⟩
          refine wp_region_ord (fun w' => w'.cell? ⟨b, 0, none⟩ = some (.int .i64 wd) ∧ w'.cell? ⟨b, 3, none⟩ = some (.pointer (some ⟨g, 0, none⟩)) ∧ w'.cell? ⟨w.heap.size, 0, none⟩ = some (.int .i64 2) ∧ w'.cell? ⟨w.heap.size, 1, none⟩ = some (.int .i64 hop) ∧ w'.cell? ⟨w.heap.size, 3, none⟩ = some (.int .u64 (p1 : Int)) ∧ w'.cell? ⟨w.heap.size, 4, none⟩ = some (.int .u64 (p2 : Int)) ∧ w'.cell? ⟨w.heap.size, 5, none⟩ = some (.int .i64 p3)) (by kernel_rfl) hS ?_
          refine ord_still 0 rfl (v := ?_) (by kernel_rfl) (fun _ _ _ h => h) rfl (fun W hW => ?_) hS ?_
          rotate_left
          · try dsimp only at hW
            go_simp
            try with_reducible rfl
          simp only [Act.put, List.setIfInBounds_toArray, List.set_cons_zero, List.set_cons_succ]
          refine ord_still 1 rfl (v := ?_) (by kernel_rfl) (fun _ _ _ h => h) rfl (fun W hW => ?_) hS ?_
          rotate_left
          · try dsimp only at hW
            go_simp
            try with_reducible rfl
          simp only [Act.put, List.setIfInBounds_toArray, List.set_cons_zero, List.set_cons_succ]
          refine ord_alone 2 rfl (by kernel_rfl) rfl (fun K hK => ?_)
          go_simp
          refine (cR.out _).mono ?_
          rintro _ w1 ⟨rfl, hb⟩
          have HSw1 := hid (show w1.cell? ⟨b, 0, none⟩ = some (.int .i64 wd) ∧ w1.cell? ⟨b, 3, none⟩ = some (.pointer (some ⟨g, 0, none⟩)) ∧ w1.cell? ⟨w.heap.size, 0, none⟩ = some (.int .i64 2) ∧ w1.cell? ⟨w.heap.size, 1, none⟩ = some (.int .i64 hop) ∧ w1.cell? ⟨w.heap.size, 3, none⟩ = some (.int .u64 (p1 : Int)) ∧ w1.cell? ⟨w.heap.size, 4, none⟩ = some (.int .u64 (p2 : Int)) ∧ w1.cell? ⟨w.heap.size, 5, none⟩ = some (.int .i64 p3) from ⟨bcb hb hS.1, bcb hb hS.2.1, bcb hb hS.2.2.1, bcb hb hS.2.2.2.1, bcb hb hS.2.2.2.2.1, bcb hb hS.2.2.2.2.2.1, bcb hb hS.2.2.2.2.2.2⟩)
          have HBw1 := hid ((Below.refl w0.heap.size w0).drew.trans hb)
          clear hb
          clear hS
          have hS : w1.cell? ⟨b, 0, none⟩ = some (.int .i64 wd) ∧ w1.cell? ⟨b, 3, none⟩ = some (.pointer (some ⟨g, 0, none⟩)) ∧ w1.cell? ⟨w.heap.size, 0, none⟩ = some (.int .i64 2) ∧ w1.cell? ⟨w.heap.size, 1, none⟩ = some (.int .i64 hop) ∧ w1.cell? ⟨w.heap.size, 3, none⟩ = some (.int .u64 (p1 : Int)) ∧ w1.cell? ⟨w.heap.size, 4, none⟩ = some (.int .u64 (p2 : Int)) ∧ w1.cell? ⟨w.heap.size, 5, none⟩ = some (.int .i64 p3) := HSw1.out
          refine hK.out _ _ hS ?_
          clear hK
          refine ord_still 3 rfl (v := ?_) (by kernel_rfl) (fun _ _ _ h => h) rfl (fun W hW => ?_) hS ?_
          rotate_left
          · try dsimp only at hW
            go_simp
            try with_reducible rfl
          simp only [Act.put, List.setIfInBounds_toArray, List.set_cons_zero, List.set_cons_succ]
          refine ord_still 4 rfl (v := ?_) (by kernel_rfl) (fun _ _ _ h => h) rfl (fun W hW => ?_) hS ?_
          rotate_left
          · try dsimp only at hW
            go_simp
            try with_reducible rfl
          simp only [Act.put, List.setIfInBounds_toArray, List.set_cons_zero, List.set_cons_succ]
          refine ord_still 5 rfl (v := ?_) (by kernel_rfl) (fun _ _ _ h => h) rfl (fun W hW => ?_) hS ?_
          rotate_left
          · try dsimp only at hW
            go_simp
            try with_reducible rfl
          simp only [Act.put, List.setIfInBounds_toArray, List.set_cons_zero, List.set_cons_succ]
          refine ord_still 6 rfl (v := ?_) (by kernel_rfl) (fun _ _ _ h => h) rfl (fun W hW => ?_) hS ?_
          rotate_left
          · try dsimp only at hW
            go_simp
            try with_reducible rfl
          simp only [Act.put, List.setIfInBounds_toArray, List.set_cons_zero, List.set_cons_succ]
          refine ord_still 7 rfl (v := ?_) (by kernel_rfl) (fun _ _ _ h => h) rfl (fun W hW => ?_) hS ?_
          rotate_left
          · try dsimp only at hW
            go_simp
            try with_reducible rfl
          simp only [Act.put, List.setIfInBounds_toArray, List.set_cons_zero, List.set_cons_succ]
          refine ord_still 8 rfl (v := ?_) (by kernel_rfl) (fun _ _ _ h => h) rfl (fun W hW => ?_) hS ?_
          rotate_left
          · try dsimp only at hW
            go_simp
            try with_reducible rfl
          simp only [Act.put, List.setIfInBounds_toArray, List.set_cons_zero, List.set_cons_succ]
          refine ord_still 9 rfl (v := ?_) (by kernel_rfl) (fun _ _ _ h => h) rfl (fun W hW => ?_) hS ?_
          rotate_left
          · try dsimp only at hW
            go_simp
            try with_reducible rfl
          simp only [Act.put, List.setIfInBounds_toArray, List.set_cons_zero, List.set_cons_succ]
          refine ord_still 10 rfl (v := ?_) (by kernel_rfl) (fun _ _ _ h => h) rfl (fun W hW => ?_) hS ?_
          rotate_left
          · try dsimp only at hW
            go_simp
            try with_reducible rfl
          simp only [Act.put, List.setIfInBounds_toArray, List.set_cons_zero, List.set_cons_succ]
          refine ord_still 11 rfl (v := ?_) (by kernel_rfl) (fun _ _ _ h => h) rfl (fun W hW => ?_) hS ?_
          rotate_left
          · try dsimp only at hW
            go_simp
            try with_reducible rfl
          simp only [Act.put, List.setIfInBounds_toArray, List.set_cons_zero, List.set_cons_succ]
          refine ord_still 12 rfl (v := ?_) (by kernel_rfl) (fun _ _ _ h => h) rfl (fun W hW => ?_) hS ?_
          rotate_left
          · try dsimp only at hW
            go_simp
            try with_reducible rfl
          simp only [Act.put, List.setIfInBounds_toArray, List.set_cons_zero, List.set_cons_succ]
          refine ord_still 13 rfl (v := ?_) (by kernel_rfl) (fun _ _ _ h => h) rfl (fun W hW => ?_) hS ?_
          rotate_left
          · try dsimp only at hW
            go_simp
            try with_reducible rfl
          simp only [Act.put, List.setIfInBounds_toArray, List.set_cons_zero, List.set_cons_succ]
          refine ord_still 14 rfl (v := ?_) (by kernel_rfl) (fun _ _ _ h => h) rfl (fun W hW => ?_) hS ?_
          rotate_left
          · try dsimp only at hW
            go_simp
            try with_reducible rfl
          simp only [Act.put, List.setIfInBounds_toArray, List.set_cons_zero, List.set_cons_succ]
          refine ord_done (by kernel_rfl) ?_
          clear hS y0 y3 x0 x1 x3 x4 x5
          have hS := HSw1.out
          obtain ⟨y0, y3, x0, x1, x3, x4, x5⟩ := hS
          go_wp2_with fail
          go_ret
          exact ⟨by rw [HE.out]; rfl, HB.out.trans (HBw1.out.mono HB.out.size)⟩
        · rw [if_neg (by simp [hw])] at HE
          have e1 := decide_eq_false hw
          clear hw
          rw [if_neg (by decide)] at HE
          cases v with
          | none =>
            rw [if_pos rfl] at HE
            go_enter Try.func22, Try.ntmps22
            go_wp2_with fail
            generalize w.alloc (.cells #[.int .i64 2, .int .i64 hop, .int .i64 n, .int .u64 (p1 : Int), .int .u64 (p2 : Int), .int .i64 p3, .int .u64 (a1 : Int), .int .u64 (a2 : Int), .int .u64 (s : Int), bv] 53) = w0 at *
            have hS : w0.drew.cell? ⟨b, 0, none⟩ = some (.int .i64 wd) ∧ w0.drew.cell? ⟨b, 3, none⟩ = some (.pointer (some ⟨g, 0, none⟩)) ∧ w0.drew.cell? ⟨w.heap.size, 0, none⟩ = some (.int .i64 2) ∧ w0.drew.cell? ⟨w.heap.size, 1, none⟩ = some (.int .i64 hop) ∧ w0.drew.cell? ⟨w.heap.size, 3, none⟩ = some (.int .u64 (p1 : Int)) ∧ w0.drew.cell? ⟨w.heap.size, 4, none⟩ = some (.int .u64 (p2 : Int)) ∧ w0.drew.cell? ⟨w.heap.size, 5, none⟩ = some (.int .i64 p3) := ⟨y0, y3, x0, x1, x3, x4, x5⟩
            refine wp_region_ord (fun w' => w'.cell? ⟨b, 0, none⟩ = some (.int .i64 wd) ∧ w'.cell? ⟨b, 3, none⟩ = some (.pointer (some ⟨g, 0, none⟩)) ∧ w'.cell? ⟨w.heap.size, 0, none⟩ = some (.int .i64 2) ∧ w'.cell? ⟨w.heap.size, 1, none⟩ = some (.int .i64 hop) ∧ w'.cell? ⟨w.heap.size, 3, none⟩ = some (.int .u64 (p1 : Int)) ∧ w'.cell? ⟨w.heap.size, 4, none⟩ = some (.int .u64 (p2 : Int)) ∧ w'.cell? ⟨w.heap.size, 5, none⟩ = some (.int .i64 p3)) (by kernel_rfl) hS ?_
            refine ord_still 0 rfl (v := ?_) (by kernel_rfl) (fun _ _ _ h => h) rfl (fun W hW => ?_) hS ?_
            rotate_left
            · try dsimp only at hW
              go_simp
              try with_reducible rfl
            simp only [Act.put, List.setIfInBounds_toArray, List.set_cons_zero, List.set_cons_succ]
            refine ord_still 1 rfl (v := ?_) (by kernel_rfl) (fun _ _ _ h => h) rfl (fun W hW => ?_) hS ?_
            rotate_left
            · try dsimp only at hW
              go_simp
              try with_reducible rfl
            simp only [Act.put, List.setIfInBounds_toArray, List.set_cons_zero, List.set_cons_succ]
            refine ord_alone 2 rfl (by kernel_rfl) rfl (fun K hK => ?_)
            go_simp
            refine (cR.out _).mono ?_
            rintro _ w1 ⟨rfl, hb⟩
            have HSw1 := hid (show w1.cell? ⟨b, 0, none⟩ = some (.int .i64 wd) ∧ w1.cell? ⟨b, 3, none⟩ = some (.pointer (some ⟨g, 0, none⟩)) ∧ w1.cell? ⟨w.heap.size, 0, none⟩ = some (.int .i64 2) ∧ w1.cell? ⟨w.heap.size, 1, none⟩ = some (.int .i64 hop) ∧ w1.cell? ⟨w.heap.size, 3, none⟩ = some (.int .u64 (p1 : Int)) ∧ w1.cell? ⟨w.heap.size, 4, none⟩ = some (.int .u64 (p2 : Int)) ∧ w1.cell? ⟨w.heap.size, 5, none⟩ = some (.int .i64 p3) from ⟨bcb hb hS.1, bcb hb hS.2.1, bcb hb hS.2.2.1, bcb hb hS.2.2.2.1, bcb hb hS.2.2.2.2.1, bcb hb hS.2.2.2.2.2.1, bcb hb hS.2.2.2.2.2.2⟩)
            have HBw1 := hid ((Below.refl w0.heap.size w0).drew.trans hb)
            clear hb
            clear hS
            have hS : w1.cell? ⟨b, 0, none⟩ = some (.int .i64 wd) ∧ w1.cell? ⟨b, 3, none⟩ = some (.pointer (some ⟨g, 0, none⟩)) ∧ w1.cell? ⟨w.heap.size, 0, none⟩ = some (.int .i64 2) ∧ w1.cell? ⟨w.heap.size, 1, none⟩ = some (.int .i64 hop) ∧ w1.cell? ⟨w.heap.size, 3, none⟩ = some (.int .u64 (p1 : Int)) ∧ w1.cell? ⟨w.heap.size, 4, none⟩ = some (.int .u64 (p2 : Int)) ∧ w1.cell? ⟨w.heap.size, 5, none⟩ = some (.int .i64 p3) := HSw1.out
            refine hK.out _ _ hS ?_
            clear hK
            refine ord_still 3 rfl (v := ?_) (by kernel_rfl) (fun _ _ _ h => h) rfl (fun W hW => ?_) hS ?_
            rotate_left
            · try dsimp only at hW
              go_simp
              try with_reducible rfl
            simp only [Act.put, List.setIfInBounds_toArray, List.set_cons_zero, List.set_cons_succ]
            refine ord_still 4 rfl (v := ?_) (by kernel_rfl) (fun _ _ _ h => h) rfl (fun W hW => ?_) hS ?_
            rotate_left
            · try dsimp only at hW
              go_simp
              try with_reducible rfl
            simp only [Act.put, List.setIfInBounds_toArray, List.set_cons_zero, List.set_cons_succ]
            refine ord_still 5 rfl (v := ?_) (by kernel_rfl) (fun _ _ _ h => h) rfl (fun W hW => ?_) hS ?_
            rotate_left
            · try dsimp only at hW
              go_simp
              try with_reducible rfl
            simp only [Act.put, List.setIfInBounds_toArray, List.set_cons_zero, List.set_cons_succ]
            refine ord_still 6 rfl (v := ?_) (by kernel_rfl) (fun _ _ _ h => h) rfl (fun W hW => ?_) hS ?_
            rotate_left
            · try dsimp only at hW
              go_simp
              try with_reducible rfl
            simp only [Act.put, List.setIfInBounds_toArray, List.set_cons_zero, List.set_cons_succ]
            refine ord_still 7 rfl (v := ?_) (by kernel_rfl) (fun _ _ _ h => h) rfl (fun W hW => ?_) hS ?_
            rotate_left
            · try dsimp only at hW
              go_simp
              try with_reducible rfl
            simp only [Act.put, List.setIfInBounds_toArray, List.set_cons_zero, List.set_cons_succ]
            refine ord_still 8 rfl (v := ?_) (by kernel_rfl) (fun _ _ _ h => h) rfl (fun W hW => ?_) hS ?_
            rotate_left
            · try dsimp only at hW
              go_simp
              try with_reducible rfl
            simp only [Act.put, List.setIfInBounds_toArray, List.set_cons_zero, List.set_cons_succ]
            refine ord_still 9 rfl (v := ?_) (by kernel_rfl) (fun _ _ _ h => h) rfl (fun W hW => ?_) hS ?_
            rotate_left
            · try dsimp only at hW
              go_simp
              try with_reducible rfl
            simp only [Act.put, List.setIfInBounds_toArray, List.set_cons_zero, List.set_cons_succ]
            refine ord_still 10 rfl (v := ?_) (by kernel_rfl) (fun _ _ _ h => h) rfl (fun W hW => ?_) hS ?_
            rotate_left
            · try dsimp only at hW
              go_simp
              try with_reducible rfl
            simp only [Act.put, List.setIfInBounds_toArray, List.set_cons_zero, List.set_cons_succ]
            refine ord_still 11 rfl (v := ?_) (by kernel_rfl) (fun _ _ _ h => h) rfl (fun W hW => ?_) hS ?_
            rotate_left
            · try dsimp only at hW
              go_simp
              try with_reducible rfl
            simp only [Act.put, List.setIfInBounds_toArray, List.set_cons_zero, List.set_cons_succ]
            refine ord_still 12 rfl (v := ?_) (by kernel_rfl) (fun _ _ _ h => h) rfl (fun W hW => ?_) hS ?_
            rotate_left
            · try dsimp only at hW
              go_simp
              try with_reducible rfl
            simp only [Act.put, List.setIfInBounds_toArray, List.set_cons_zero, List.set_cons_succ]
            refine ord_still 13 rfl (v := ?_) (by kernel_rfl) (fun _ _ _ h => h) rfl (fun W hW => ?_) hS ?_
            rotate_left
            · try dsimp only at hW
              go_simp
              try with_reducible rfl
            simp only [Act.put, List.setIfInBounds_toArray, List.set_cons_zero, List.set_cons_succ]
            refine ord_still 14 rfl (v := ?_) (by kernel_rfl) (fun _ _ _ h => h) rfl (fun W hW => ?_) hS ?_
            rotate_left
            · try dsimp only at hW
              go_simp
              try with_reducible rfl
            simp only [Act.put, List.setIfInBounds_toArray, List.set_cons_zero, List.set_cons_succ]
            refine ord_done (by kernel_rfl) ?_
            clear hS y0 y3 x0 x1 x3 x4 x5
            have hS := HSw1.out
            obtain ⟨y0, y3, x0, x1, x3, x4, x5⟩ := hS
            go_wp2_with fail
            have hS : w1.drew.cell? ⟨b, 0, none⟩ = some (.int .i64 wd) ∧ w1.drew.cell? ⟨b, 3, none⟩ = some (.pointer (some ⟨g, 0, none⟩)) ∧ w1.drew.cell? ⟨w.heap.size, 0, none⟩ = some (.int .i64 2) ∧ w1.drew.cell? ⟨w.heap.size, 1, none⟩ = some (.int .i64 hop) ∧ w1.drew.cell? ⟨w.heap.size, 3, none⟩ = some (.int .u64 (p1 : Int)) ∧ w1.drew.cell? ⟨w.heap.size, 4, none⟩ = some (.int .u64 (p2 : Int)) ∧ w1.drew.cell? ⟨w.heap.size, 5, none⟩ = some (.int .i64 p3) := ⟨y0, y3, x0, x1, x3, x4, x5⟩
            refine wp_region_ord (fun w' => w'.cell? ⟨b, 0, none⟩ = some (.int .i64 wd) ∧ w'.cell? ⟨b, 3, none⟩ = some (.pointer (some ⟨g, 0, none⟩)) ∧ w'.cell? ⟨w.heap.size, 0, none⟩ = some (.int .i64 2) ∧ w'.cell? ⟨w.heap.size, 1, none⟩ = some (.int .i64 hop) ∧ w'.cell? ⟨w.heap.size, 3, none⟩ = some (.int .u64 (p1 : Int)) ∧ w'.cell? ⟨w.heap.size, 4, none⟩ = some (.int .u64 (p2 : Int)) ∧ w'.cell? ⟨w.heap.size, 5, none⟩ = some (.int .i64 p3)) (by kernel_rfl) hS ?_
            refine ord_still 0 rfl (v := ?_) (by kernel_rfl) (fun _ _ _ h => h) rfl (fun W hW => ?_) hS ?_
            rotate_left
            · try dsimp only at hW
              go_simp
              try with_reducible rfl
            simp only [Act.put, List.setIfInBounds_toArray, List.set_cons_zero, List.set_cons_succ]
            refine ord_still 1 rfl (v := ?_) (by kernel_rfl) (fun _ _ _ h => h) rfl (fun W hW => ?_) hS ?_
            rotate_left
            · try dsimp only at hW
              go_simp
              try with_reducible rfl
            simp only [Act.put, List.setIfInBounds_toArray, List.set_cons_zero, List.set_cons_succ]
            refine ord_still 2 rfl (v := ?_) (by kernel_rfl) (fun _ _ _ h => h) rfl (fun W hW => ?_) hS ?_
            rotate_left
            · try dsimp only at hW
              go_simp
              try with_reducible rfl
            simp only [Act.put, List.setIfInBounds_toArray, List.set_cons_zero, List.set_cons_succ]
            refine ord_still 3 rfl (v := ?_) (by kernel_rfl) (fun _ _ _ h => h) rfl (fun W hW => ?_) hS ?_
            rotate_left
            · try dsimp only at hW
              go_simp
              try with_reducible rfl
            simp only [Act.put, List.setIfInBounds_toArray, List.set_cons_zero, List.set_cons_succ]
            refine ord_still 4 rfl (v := ?_) (by kernel_rfl) (fun _ _ _ h => h) rfl (fun W hW => ?_) hS ?_
            rotate_left
            · try dsimp only at hW
              go_simp
              try with_reducible rfl
            simp only [Act.put, List.setIfInBounds_toArray, List.set_cons_zero, List.set_cons_succ]
            refine ord_still 5 rfl (v := ?_) (by kernel_rfl) (fun _ _ _ h => h) rfl (fun W hW => ?_) hS ?_
            rotate_left
            · try dsimp only at hW
              go_simp
              try with_reducible rfl
            simp only [Act.put, List.setIfInBounds_toArray, List.set_cons_zero, List.set_cons_succ]
            refine ord_alone 6 rfl (by kernel_rfl) rfl (fun K hK => ?_)
            go_simp
            refine (cG.out _ HBw1.out.drew).mono ?_
            rintro _ w2 ⟨rfl, hb⟩
            have HSw2 := hid (show w2.cell? ⟨b, 0, none⟩ = some (.int .i64 wd) ∧ w2.cell? ⟨b, 3, none⟩ = some (.pointer (some ⟨g, 0, none⟩)) ∧ w2.cell? ⟨w.heap.size, 0, none⟩ = some (.int .i64 2) ∧ w2.cell? ⟨w.heap.size, 1, none⟩ = some (.int .i64 hop) ∧ w2.cell? ⟨w.heap.size, 3, none⟩ = some (.int .u64 (p1 : Int)) ∧ w2.cell? ⟨w.heap.size, 4, none⟩ = some (.int .u64 (p2 : Int)) ∧ w2.cell? ⟨w.heap.size, 5, none⟩ = some (.int .i64 p3) from ⟨bcb hb hS.1, bcb hb hS.2.1, bcb hb hS.2.2.1, bcb hb hS.2.2.2.1, bcb hb hS.2.2.2.2.1, bcb hb hS.2.2.2.2.2.1, bcb hb hS.2.2.2.2.2.2⟩)
            have HBw2 := hid (HBw1.out.drew.trans (hb.mono HBw1.out.drew.size))
            clear hb
            clear hS
            have hS : w2.cell? ⟨b, 0, none⟩ = some (.int .i64 wd) ∧ w2.cell? ⟨b, 3, none⟩ = some (.pointer (some ⟨g, 0, none⟩)) ∧ w2.cell? ⟨w.heap.size, 0, none⟩ = some (.int .i64 2) ∧ w2.cell? ⟨w.heap.size, 1, none⟩ = some (.int .i64 hop) ∧ w2.cell? ⟨w.heap.size, 3, none⟩ = some (.int .u64 (p1 : Int)) ∧ w2.cell? ⟨w.heap.size, 4, none⟩ = some (.int .u64 (p2 : Int)) ∧ w2.cell? ⟨w.heap.size, 5, none⟩ = some (.int .i64 p3) := HSw2.out
            refine hK.out _ _ hS ?_
            clear hK
            refine ord_still 7 rfl (v := ?_) (by kernel_rfl) (fun _ _ _ h => h) rfl (fun W hW => ?_) hS ?_
            rotate_left
            · try dsimp only at hW
              go_simp
              try with_reducible rfl
            simp only [Act.put, List.setIfInBounds_toArray, List.set_cons_zero, List.set_cons_succ]
            refine ord_still 8 rfl (v := ?_) (by kernel_rfl) (fun _ _ _ h => h) rfl (fun W hW => ?_) hS ?_
            rotate_left
            · try dsimp only at hW
              go_simp
              try with_reducible rfl
            simp only [Act.put, List.setIfInBounds_toArray, List.set_cons_zero, List.set_cons_succ]
            refine ord_still 9 rfl (v := ?_) (by kernel_rfl) (fun _ _ _ h => h) rfl (fun W hW => ?_) hS ?_
            rotate_left
            · try dsimp only at hW
              go_simp
              try with_reducible rfl
            simp only [Act.put, List.setIfInBounds_toArray, List.set_cons_zero, List.set_cons_succ]
            refine ord_still 10 rfl (v := ?_) (by kernel_rfl) (fun _ _ _ h => h) rfl (fun W hW => ?_) hS ?_
            rotate_left
            · try dsimp only at hW
              go_simp
              try with_reducible rfl
            simp only [Act.put, List.setIfInBounds_toArray, List.set_cons_zero, List.set_cons_succ]
            refine ord_still 11 rfl (v := ?_) (by kernel_rfl) (fun _ _ _ h => h) rfl (fun W hW => ?_) hS ?_
            rotate_left
            · try dsimp only at hW
              go_simp
              try with_reducible rfl
            simp only [Act.put, List.setIfInBounds_toArray, List.set_cons_zero, List.set_cons_succ]
            refine ord_done (by kernel_rfl) ?_
            clear hS
            go_wp2_with fail
            go_ret
            exact ⟨by rw [HE.out]; rfl, HB.out.trans (HBw2.out.mono HB.out.size)⟩
          | some u =>
            rw [if_neg (by simp)] at HE
            go_enter Try.func22, Try.ntmps22
            go_wp2_with fail
            generalize w.alloc (.cells #[.int .i64 2, .int .i64 hop, .int .i64 n, .int .u64 (p1 : Int), .int .u64 (p2 : Int), .int .i64 p3, .int .u64 (a1 : Int), .int .u64 (a2 : Int), .int .u64 (s : Int), bv] 53) = w0 at *
            have hS : w0.drew.cell? ⟨b, 0, none⟩ = some (.int .i64 wd) ∧ w0.drew.cell? ⟨b, 3, none⟩ = some (.pointer (some ⟨g, 0, none⟩)) ∧ w0.drew.cell? ⟨w.heap.size, 0, none⟩ = some (.int .i64 2) ∧ w0.drew.cell? ⟨w.heap.size, 1, none⟩ = some (.int .i64 hop) ∧ w0.drew.cell? ⟨w.heap.size, 3, none⟩ = some (.int .u64 (p1 : Int)) ∧ w0.drew.cell? ⟨w.heap.size, 4, none⟩ = some (.int .u64 (p2 : Int)) ∧ w0.drew.cell? ⟨w.heap.size, 5, none⟩ = some (.int .i64 p3) := ⟨y0, y3, x0, x1, x3, x4, x5⟩
            refine wp_region_ord (fun w' => w'.cell? ⟨b, 0, none⟩ = some (.int .i64 wd) ∧ w'.cell? ⟨b, 3, none⟩ = some (.pointer (some ⟨g, 0, none⟩)) ∧ w'.cell? ⟨w.heap.size, 0, none⟩ = some (.int .i64 2) ∧ w'.cell? ⟨w.heap.size, 1, none⟩ = some (.int .i64 hop) ∧ w'.cell? ⟨w.heap.size, 3, none⟩ = some (.int .u64 (p1 : Int)) ∧ w'.cell? ⟨w.heap.size, 4, none⟩ = some (.int .u64 (p2 : Int)) ∧ w'.cell? ⟨w.heap.size, 5, none⟩ = some (.int .i64 p3)) (by kernel_rfl) hS ?_
            refine ord_still 0 rfl (v := ?_) (by kernel_rfl) (fun _ _ _ h => h) rfl (fun W hW => ?_) hS ?_
            rotate_left
            · try dsimp only at hW
              go_simp
              try with_reducible rfl
            simp only [Act.put, List.setIfInBounds_toArray, List.set_cons_zero, List.set_cons_succ]
            refine ord_still 1 rfl (v := ?_) (by kernel_rfl) (fun _ _ _ h => h) rfl (fun W hW => ?_) hS ?_
            rotate_left
            · try dsimp only at hW
              go_simp
              try with_reducible rfl
            simp only [Act.put, List.setIfInBounds_toArray, List.set_cons_zero, List.set_cons_succ]
            refine ord_alone 2 rfl (by kernel_rfl) rfl (fun K hK => ?_)
            go_simp
            refine (cR.out _).mono ?_
            rintro _ w1 ⟨rfl, hb⟩
            have HSw1 := hid (show w1.cell? ⟨b, 0, none⟩ = some (.int .i64 wd) ∧ w1.cell? ⟨b, 3, none⟩ = some (.pointer (some ⟨g, 0, none⟩)) ∧ w1.cell? ⟨w.heap.size, 0, none⟩ = some (.int .i64 2) ∧ w1.cell? ⟨w.heap.size, 1, none⟩ = some (.int .i64 hop) ∧ w1.cell? ⟨w.heap.size, 3, none⟩ = some (.int .u64 (p1 : Int)) ∧ w1.cell? ⟨w.heap.size, 4, none⟩ = some (.int .u64 (p2 : Int)) ∧ w1.cell? ⟨w.heap.size, 5, none⟩ = some (.int .i64 p3) from ⟨bcb hb hS.1, bcb hb hS.2.1, bcb hb hS.2.2.1, bcb hb hS.2.2.2.1, bcb hb hS.2.2.2.2.1, bcb hb hS.2.2.2.2.2.1, bcb hb hS.2.2.2.2.2.2⟩)
            have HBw1 := hid ((Below.refl w0.heap.size w0).drew.trans hb)
            clear hb
            clear hS
            have hS : w1.cell? ⟨b, 0, none⟩ = some (.int .i64 wd) ∧ w1.cell? ⟨b, 3, none⟩ = some (.pointer (some ⟨g, 0, none⟩)) ∧ w1.cell? ⟨w.heap.size, 0, none⟩ = some (.int .i64 2) ∧ w1.cell? ⟨w.heap.size, 1, none⟩ = some (.int .i64 hop) ∧ w1.cell? ⟨w.heap.size, 3, none⟩ = some (.int .u64 (p1 : Int)) ∧ w1.cell? ⟨w.heap.size, 4, none⟩ = some (.int .u64 (p2 : Int)) ∧ w1.cell? ⟨w.heap.size, 5, none⟩ = some (.int .i64 p3) := HSw1.out
            refine hK.out _ _ hS ?_
            clear hK
            refine ord_still 3 rfl (v := ?_) (by kernel_rfl) (fun _ _ _ h => h) rfl (fun W hW => ?_) hS ?_
            rotate_left
            · try dsimp only at hW
              go_simp
              try with_reducible rfl
            simp only [Act.put, List.setIfInBounds_toArray, List.set_cons_zero, List.set_cons_succ]
            refine ord_still 4 rfl (v := ?_) (by kernel_rfl) (fun _ _ _ h => h) rfl (fun W hW => ?_) hS ?_
            rotate_left
            · try dsimp only at hW
              go_simp
              try with_reducible rfl
            simp only [Act.put, List.setIfInBounds_toArray, List.set_cons_zero, List.set_cons_succ]
            refine ord_still 5 rfl (v := ?_) (by kernel_rfl) (fun _ _ _ h => h) rfl (fun W hW => ?_) hS ?_
            rotate_left
            · try dsimp only at hW
              go_simp
              try with_reducible rfl
            simp only [Act.put, List.setIfInBounds_toArray, List.set_cons_zero, List.set_cons_succ]
            refine ord_still 6 rfl (v := ?_) (by kernel_rfl) (fun _ _ _ h => h) rfl (fun W hW => ?_) hS ?_
            rotate_left
            · try dsimp only at hW
              go_simp
              try with_reducible rfl
            simp only [Act.put, List.setIfInBounds_toArray, List.set_cons_zero, List.set_cons_succ]
            refine ord_still 7 rfl (v := ?_) (by kernel_rfl) (fun _ _ _ h => h) rfl (fun W hW => ?_) hS ?_
            rotate_left
            · try dsimp only at hW
              go_simp
              try with_reducible rfl
            simp only [Act.put, List.setIfInBounds_toArray, List.set_cons_zero, List.set_cons_succ]
            refine ord_still 8 rfl (v := ?_) (by kernel_rfl) (fun _ _ _ h => h) rfl (fun W hW => ?_) hS ?_
            rotate_left
            · try dsimp only at hW
              go_simp
              try with_reducible rfl
            simp only [Act.put, List.setIfInBounds_toArray, List.set_cons_zero, List.set_cons_succ]
            refine ord_still 9 rfl (v := ?_) (by kernel_rfl) (fun _ _ _ h => h) rfl (fun W hW => ?_) hS ?_
            rotate_left
            · try dsimp only at hW
              go_simp
              try with_reducible rfl
            simp only [Act.put, List.setIfInBounds_toArray, List.set_cons_zero, List.set_cons_succ]
            refine ord_still 10 rfl (v := ?_) (by kernel_rfl) (fun _ _ _ h => h) rfl (fun W hW => ?_) hS ?_
            rotate_left
            · try dsimp only at hW
              go_simp
              try with_reducible rfl
            simp only [Act.put, List.setIfInBounds_toArray, List.set_cons_zero, List.set_cons_succ]
            refine ord_still 11 rfl (v := ?_) (by kernel_rfl) (fun _ _ _ h => h) rfl (fun W hW => ?_) hS ?_
            rotate_left
            · try dsimp only at hW
              go_simp
              try with_reducible rfl
            simp only [Act.put, List.setIfInBounds_toArray, List.set_cons_zero, List.set_cons_succ]
            refine ord_still 12 rfl (v := ?_) (by kernel_rfl) (fun _ _ _ h => h) rfl (fun W hW => ?_) hS ?_
            rotate_left
            · try dsimp only at hW
              go_simp
              try with_reducible rfl
            simp only [Act.put, List.setIfInBounds_toArray, List.set_cons_zero, List.set_cons_succ]
            refine ord_still 13 rfl (v := ?_) (by kernel_rfl) (fun _ _ _ h => h) rfl (fun W hW => ?_) hS ?_
            rotate_left
            · try dsimp only at hW
              go_simp
              try with_reducible rfl
            simp only [Act.put, List.setIfInBounds_toArray, List.set_cons_zero, List.set_cons_succ]
            refine ord_still 14 rfl (v := ?_) (by kernel_rfl) (fun _ _ _ h => h) rfl (fun W hW => ?_) hS ?_
            rotate_left
            · try dsimp only at hW
              go_simp
              try with_reducible rfl
            simp only [Act.put, List.setIfInBounds_toArray, List.set_cons_zero, List.set_cons_succ]
            refine ord_done (by kernel_rfl) ?_
            clear hS y0 y3 x0 x1 x3 x4 x5
            have hS := HSw1.out
            obtain ⟨y0, y3, x0, x1, x3, x4, x5⟩ := hS
            go_wp2_with fail
            have hS : w1.drew.cell? ⟨b, 0, none⟩ = some (.int .i64 wd) ∧ w1.drew.cell? ⟨b, 3, none⟩ = some (.pointer (some ⟨g, 0, none⟩)) ∧ w1.drew.cell? ⟨w.heap.size, 0, none⟩ = some (.int .i64 2) ∧ w1.drew.cell? ⟨w.heap.size, 1, none⟩ = some (.int .i64 hop) ∧ w1.drew.cell? ⟨w.heap.size, 3, none⟩ = some (.int .u64 (p1 : Int)) ∧ w1.drew.cell? ⟨w.heap.size, 4, none⟩ = some (.int .u64 (p2 : Int)) ∧ w1.drew.cell? ⟨w.heap.size, 5, none⟩ = some (.int .i64 p3) := ⟨y0, y3, x0, x1, x3, x4, x5⟩
            refine wp_region_ord (fun w' => w'.cell? ⟨b, 0, none⟩ = some (.int .i64 wd) ∧ w'.cell? ⟨b, 3, none⟩ = some (.pointer (some ⟨g, 0, none⟩)) ∧ w'.cell? ⟨w.heap.size, 0, none⟩ = some (.int .i64 2) ∧ w'.cell? ⟨w.heap.size, 1, none⟩ = some (.int .i64 hop) ∧ w'.cell? ⟨w.heap.size, 3, none⟩ = some (.int .u64 (p1 : Int)) ∧ w'.cell? ⟨w.heap.size, 4, none⟩ = some (.int .u64 (p2 : Int)) ∧ w'.cell? ⟨w.heap.size, 5, none⟩ = some (.int .i64 p3)) (by kernel_rfl) hS ?_
            refine ord_still 0 rfl (v := ?_) (by kernel_rfl) (fun _ _ _ h => h) rfl (fun W hW => ?_) hS ?_
            rotate_left
            · try dsimp only at hW
              go_simp
              try with_reducible rfl
            simp only [Act.put, List.setIfInBounds_toArray, List.set_cons_zero, List.set_cons_succ]
            refine ord_still 1 rfl (v := ?_) (by kernel_rfl) (fun _ _ _ h => h) rfl (fun W hW => ?_) hS ?_
            rotate_left
            · try dsimp only at hW
              go_simp
              try with_reducible rfl
            simp only [Act.put, List.setIfInBounds_toArray, List.set_cons_zero, List.set_cons_succ]
            refine ord_still 2 rfl (v := ?_) (by kernel_rfl) (fun _ _ _ h => h) rfl (fun W hW => ?_) hS ?_
            rotate_left
            · try dsimp only at hW
              go_simp
              try with_reducible rfl
            simp only [Act.put, List.setIfInBounds_toArray, List.set_cons_zero, List.set_cons_succ]
            refine ord_still 3 rfl (v := ?_) (by kernel_rfl) (fun _ _ _ h => h) rfl (fun W hW => ?_) hS ?_
            rotate_left
            · try dsimp only at hW
              go_simp
              try with_reducible rfl
            simp only [Act.put, List.setIfInBounds_toArray, List.set_cons_zero, List.set_cons_succ]
            refine ord_still 4 rfl (v := ?_) (by kernel_rfl) (fun _ _ _ h => h) rfl (fun W hW => ?_) hS ?_
            rotate_left
            · try dsimp only at hW
              go_simp
              try with_reducible rfl
            simp only [Act.put, List.setIfInBounds_toArray, List.set_cons_zero, List.set_cons_succ]
            refine ord_still 5 rfl (v := ?_) (by kernel_rfl) (fun _ _ _ h => h) rfl (fun W hW => ?_) hS ?_
            rotate_left
            · try dsimp only at hW
              go_simp
              try with_reducible rfl
            simp only [Act.put, List.setIfInBounds_toArray, List.set_cons_zero, List.set_cons_succ]
            refine ord_alone 6 rfl (by kernel_rfl) rfl (fun K hK => ?_)
            go_simp
            refine (cG.out _ HBw1.out.drew).mono ?_
            rintro _ w2 ⟨rfl, hb⟩
            have HSw2 := hid (show w2.cell? ⟨b, 0, none⟩ = some (.int .i64 wd) ∧ w2.cell? ⟨b, 3, none⟩ = some (.pointer (some ⟨g, 0, none⟩)) ∧ w2.cell? ⟨w.heap.size, 0, none⟩ = some (.int .i64 2) ∧ w2.cell? ⟨w.heap.size, 1, none⟩ = some (.int .i64 hop) ∧ w2.cell? ⟨w.heap.size, 3, none⟩ = some (.int .u64 (p1 : Int)) ∧ w2.cell? ⟨w.heap.size, 4, none⟩ = some (.int .u64 (p2 : Int)) ∧ w2.cell? ⟨w.heap.size, 5, none⟩ = some (.int .i64 p3) from ⟨bcb hb hS.1, bcb hb hS.2.1, bcb hb hS.2.2.1, bcb hb hS.2.2.2.1, bcb hb hS.2.2.2.2.1, bcb hb hS.2.2.2.2.2.1, bcb hb hS.2.2.2.2.2.2⟩)
            have HBw2 := hid (HBw1.out.drew.trans (hb.mono HBw1.out.drew.size))
            clear hb
            clear hS
            have hS : w2.cell? ⟨b, 0, none⟩ = some (.int .i64 wd) ∧ w2.cell? ⟨b, 3, none⟩ = some (.pointer (some ⟨g, 0, none⟩)) ∧ w2.cell? ⟨w.heap.size, 0, none⟩ = some (.int .i64 2) ∧ w2.cell? ⟨w.heap.size, 1, none⟩ = some (.int .i64 hop) ∧ w2.cell? ⟨w.heap.size, 3, none⟩ = some (.int .u64 (p1 : Int)) ∧ w2.cell? ⟨w.heap.size, 4, none⟩ = some (.int .u64 (p2 : Int)) ∧ w2.cell? ⟨w.heap.size, 5, none⟩ = some (.int .i64 p3) := HSw2.out
            refine hK.out _ _ hS ?_
            clear hK
            refine ord_still 7 rfl (v := ?_) (by kernel_rfl) (fun _ _ _ h => h) rfl (fun W hW => ?_) hS ?_
            rotate_left
            · try dsimp only at hW
              go_simp
              try with_reducible rfl
            simp only [Act.put, List.setIfInBounds_toArray, List.set_cons_zero, List.set_cons_succ]
            refine ord_still 8 rfl (v := ?_) (by kernel_rfl) (fun _ _ _ h => h) rfl (fun W hW => ?_) hS ?_
            rotate_left
            · try dsimp only at hW
              go_simp
              try with_reducible rfl
            simp only [Act.put, List.setIfInBounds_toArray, List.set_cons_zero, List.set_cons_succ]
            refine ord_still 9 rfl (v := ?_) (by kernel_rfl) (fun _ _ _ h => h) rfl (fun W hW => ?_) hS ?_
            rotate_left
            · try dsimp only at hW
              go_simp
              try with_reducible rfl
            simp only [Act.put, List.setIfInBounds_toArray, List.set_cons_zero, List.set_cons_succ]
            refine ord_still 10 rfl (v := ?_) (by kernel_rfl) (fun _ _ _ h => h) rfl (fun W hW => ?_) hS ?_
            rotate_left
            · try dsimp only at hW
              go_simp
              try with_reducible rfl
            simp only [Act.put, List.setIfInBounds_toArray, List.set_cons_zero, List.set_cons_succ]
            refine ord_still 11 rfl (v := ?_) (by kernel_rfl) (fun _ _ _ h => h) rfl (fun W hW => ?_) hS ?_
            rotate_left
            · try dsimp only at hW
              go_simp
              try with_reducible rfl
            simp only [Act.put, List.setIfInBounds_toArray, List.set_cons_zero, List.set_cons_succ]
            refine ord_done (by kernel_rfl) ?_
            clear hS
            go_wp2_with fail
            go_ret
            exact ⟨by rw [HE.out]; rfl, HB.out.trans (HBw2.out.mono HB.out.size)⟩
end Go.Proofs.Ytcnecjjgnnkjkaa
