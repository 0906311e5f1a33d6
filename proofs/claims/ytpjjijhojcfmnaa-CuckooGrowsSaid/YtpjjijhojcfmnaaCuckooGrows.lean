/-
  The walk of the law CuckooGrows: for all inputs it returns true and leaves memory alone. No condition.
-/
import Derived.Test.YtpjjijhojcfmnaaGrowM
import Derived.Test.YtpjjijhojcfmnaaRowK
namespace Go.Proofs.Ytpjjijhojcfmnaa
open Go.RowKit
set_option linter.unusedVariables false
set_option linter.unusedSimpArgs false
set_option maxRecDepth 100000

def gT (s : Nat) : Nat → Tb
  | 0 => newT s 1
  | k + 1 => putT 16 (gT s k) (kpf 32 32 k) (k : Int)
def gV (k : Nat) : List Int := (List.range k).map fun (i : Nat) => (i : Int)
theorem gV_len (k : Nat) : (gV k).length = k := by simp [gV]
theorem gV_snoc (k : Nat) : gV (k + 1) = gV k ++ [(k : Int)] := by simp [gV, List.range_succ]
theorem gV_get {n k : Nat} (h : k < n) : (gV n)[k]? = some (k : Int) := by simp [gV, List.getElem?_range h]
structure GInv (k : Nat) (t : Tb) : Prop where
  ok : t.Ok
  rep : Rep t (rowK 32 32 (gV k))
  fine : Fine t
  one : k ≤ 12 → OneB k t
  two : k = 13 → 2 ≤ t.n
theorem newT_one {s : Nat} (hs : s < 2 ^ 64) : OneB 0 (newT s 1) :=
  ⟨newT_ok hs (by decide) (by decide), newT_n s 1, newT_tc _ _ _, fun h => by simp [newT] at h⟩
theorem kpf_ok32 {k : Nat} (h : k < 2 ^ 32) : (kpf 32 32 k).1.ok := ⟨by unfold kpf; simp only; omega, by unfold kpf; simp⟩
theorem gT_succ (s k : Nat) : gT s (k + 1) = putT 16 (gT s k) (kpf 32 32 k) (k : Int) := rfl
theorem putT16 : putT 16 = putStep (growStep (putT 15)) := rfl
theorem row0 : rowK 32 32 (gV 0) = [] := by simp [gV, rowK]
theorem g_inv {s : Nat} (hs : s < 2 ^ 64) : ∀ k, k ≤ 1000 → GInv k (gT s k)
  | 0, _ => by
    have e : gT s 0 = newT s 1 := rfl
    rw [e]
    exact ⟨newT_ok hs (by decide) (by decide), by rw [row0]; exact newT_rep s 1, .inl (by simp [newT]), fun _ => newT_one hs, fun h => by omega⟩
  | k + 1, hk => by
    have ih := g_inv hs k (by omega)
    have hp := kpf_ok32 (k := k) (by omega)
    have hno := rowK_no 32 32 (gV k)
    rw [gV_len] at hno
    have h0 := ih.rep.zero hno
    have hput := putT_ok 16 (gT s k) (kpf 32 32 k) (k : Int) ih.ok hp
    have hrep := ih.rep.put hput
    have e := rowK_snoc 32 32 (gV k) (k : Int)
    rw [gV_len, ← gV_snoc] at e
    rw [e] at hrep
    rw [gT_succ]
    have hn1 := ih.ok.n1
    exact ⟨hput.ok, hrep, fine_put 16 _ _ _ ih.ok hp (by omega) ih.fine, fun h => by rw [putT16]; exact one_put (ih.one (by omega)) (by omega) _ hp h0, fun h => by
      obtain rfl : k = 12 := by omega
      rw [putT16]
      exact one_grow (putT_ok 15) (ih.one (Nat.le_refl _)) ih.fine _ hp h0⟩

theorem cuckooGrows_out (W : World) (s : Nat) (n : Int) (h : n < 0 ∨ 120 < n) :
    Calls Try.prog 7 #[.int .u64 (s : Int), .int .i64 n] W fun e W' => e = .returned (.bool true) ∧ Below W.heap.size W W' := by
  have h' : n < 0 ∨ ¬ n < 0 ∧ 120 < n := by omega
  clear h
  rcases h' with h' | ⟨h2, h'⟩
  all_goals
    go_enter Try.func7, Try.ntmps7
    go_wp2_with fail
    refine (cuckoo_alive _).mono ?_
    rintro e w1 ⟨rfl, hb⟩
    have HB1 := hid hb
    clear hb
    go_wp2_with fail
    go_ret
    exact ⟨by simp, HB1.out⟩

/-- The table, in memory that is new. -/
structure CkT (W wr : World) (g : Nat) (t : Tb) : Prop where
  tw : TwF wr g (fun z => W.heap.size ≤ z) t
  b : Below W.heap.size W wr
theorem CkT.below {W wr w' : World} {g : Nat} {t : Tb} (h : CkT W wr g t) (hb : Below wr.heap.size wr w') : CkT W w' g t := ⟨h.tw.below hb, held_next h.b hb⟩
theorem CkT.turn {W wr w' : World} {g : Nat} {t t' : Tb} (h : CkT W wr g t) (ht : TwF w' g (fun z => W.heap.size ≤ z ∨ wr.heap.size ≤ z) t') (hc : Chg (fun z => W.heap.size ≤ z) wr w') : CkT W w' g t' :=
  ⟨ht.mono fun z _ hz => by
      have := h.b.size
      rcases hz with hz | hz
      · exact hz
      · exact Nat.le_trans this hz, h.b.trans (hc.below h.b.size fun z hz hn => by omega)⟩
def GrRel (W : World) (g s n : Nat) (i : Value) (wr : World) : Prop := ∃ k : Nat, k ≤ n ∧ i = .int .i64 k ∧ CkT W wr g (gT s k)
def CkEnd (w0 : World) (m : Nat) (i : Value) (wr : World) : Prop := ∃ k : Nat, k ≤ m ∧ i = .int .i64 k ∧ Below w0.heap.size w0 wr

set_option maxHeartbeats 8000000 in
theorem cuckooGrows_in (W : World) (s : Nat) (hs : s < 2 ^ 64) (n : Nat) (hn : n ≤ 120) :
    Calls Try.prog 7 #[.int .u64 (s : Int), .int .i64 (n : Int)] W fun e W' => e = .returned (.bool true) ∧ Below W.heap.size W W' := by
  have HINV := hid (g_inv hs)
  have cnew := hid fun w => ck_new w s 1 (by decide) (by decide)
  have h0 : newT s 1 = gT s 0 := rfl
  rw [h0] at cnew
  have d1 : ¬ ((n : Int) < 0) := by omega
  have d2 : ¬ (120 < (n : Int)) := by omega
  clear hs h0
  go_enter Try.func7, Try.ntmps7
  go_wp2_with fail
  refine (cuckoo_alive _).mono ?_
  rintro e w1 ⟨rfl, hb⟩
  have HB1 := hid hb
  clear hb
  go_wp2_with fail
  refine (cnew.out _).mono ?_
  rintro _ w2 ⟨g, rfl, hg, hb2, q, hT, hq⟩
  have hW1 := HB1.out.size
  have HS := hid (show CkT W w2 g (gT s 0) from ⟨⟨q, _, hT, Nat.le_trans hW1 hg, Nat.le_trans hW1 hq, fun z hz => by simp [Value.ownBlock] at hz⟩, held_next HB1.out hb2⟩)
  clear hT hq hb2 HB1 cnew
  go_wp2_with fail
  refine (law12_num _ _).mono ?_
  rintro _ w3 ⟨rfl, rfl⟩
  go_wp2_with fail
  go_loopw [8] (fun i wr => GrRel W g s n i wr) (fun i _ => n - (intOf i).toNat)
  case atStart => exact ⟨0, Nat.zero_le _, rfl, HS.out⟩
  case round =>
    clear HS
    obtain ⟨k, hk, rfl, hS⟩ := hrel
    have HS := hid hS
    have HI := hid (HINV.out k (by omega))
    clear hS
    by_cases h1 : k < n
    · have HI1 := hid (HINV.out (k + 1) (by omega))
      have hlen := HI.out.rep.len
      rw [rowK_len, gV_len] at hlen
      have cP := ck_put16 HS.out.tw HI.out.ok (by omega) (kpf 32 32 k) (kpf_ok32 (by omega)) (k : Int)
      rw [show putT 16 (gT s k) (kpf 32 32 k) (k : Int) = gT s (k + 1) from rfl] at cP
      rw [kpf_v32] at cP
      have CP := hid cP
      clear cP hlen
      go_wp2_with fail
      refine CP.out.mono ?_
      rintro _ w3 ⟨rfl, hT3, hC3⟩
      have HS3 := hid (HS.out.turn hT3 hC3)
      clear hT3 hC3 CP HS
      have cZ := hid (ck_size HS3.out.tw)
      have hone := HI1.out.one
      have htwo := HI1.out.two
      have hfine := HI1.out.fine
      unfold Fine at hfine
      have HN1 := hid (fun (h : k + 1 ≤ 12) => (hone h).n)
      obtain ⟨tn, htn⟩ : ∃ z, (gT s (k + 1)).n = z := ⟨_, rfl⟩
      obtain ⟨ts, hts⟩ : ∃ z, (gT s (k + 1)).st.length = z := ⟨_, rfl⟩
      obtain ⟨tz, htz⟩ : ∃ z, (gT s (k + 1)).s = z := ⟨_, rfl⟩
      rw [htn, hts, htz] at cZ
      rw [htn] at htwo HN1
      rw [htn, hts] at hfine
      have hcase : ((k : Int) < 12 ∧ (tn : Int) = 1 ∧ ¬ (8 < (ts : Int))) ∨ (¬ (k : Int) < 12 ∧ (k : Int) = 12 ∧ ¬ (tn : Int) < 2 ∧ ¬ (8 < (ts : Int))) ∨ (¬ (k : Int) < 12 ∧ (k : Int) = 12 ∧ ¬ (tn : Int) < 2 ∧ 8 < (ts : Int) ∧ ¬ (tn : Int) < 65536) ∨ (¬ (k : Int) < 12 ∧ ¬ (k : Int) = 12 ∧ ¬ (8 < (ts : Int))) ∨ (¬ (k : Int) < 12 ∧ ¬ (k : Int) = 12 ∧ 8 < (ts : Int) ∧ ¬ (tn : Int) < 65536) := by
        by_cases h12 : k < 12
        · have := HN1.out (by omega)
          omega
        · by_cases h13 : k = 12
          · have := htwo (by omega)
            omega
          · omega
      clear htn hts htz hone htwo hfine HN1
      generalize (tn : Int) = zn at *
      generalize (ts : Int) = zs at *
      clear tn ts
      rcases hcase with ⟨g1, g2, g4⟩ | ⟨g1, g2, g3, g4⟩ | ⟨g1, g2, g3, h8, g5⟩ | ⟨g1, g2, g4⟩ | ⟨g1, g2, h8, g5⟩
      all_goals
        try (have e65 : decide (zn < 65536) = false := decide_eq_false (by omega))
        try (have e2 : decide (zn < 2) = false := decide_eq_false (by omega))
        try (have e8 : decide (8 < zs) = true := decide_eq_true (by omega))
        try clear g5
        try (clear g3)
        try (clear h8)
        go_wp2_with fail
        refine cZ.out.mono ?_
        rintro _ w4 ⟨rfl, hb4⟩
        have HS4 := hid (HS3.out.below hb4)
        clear hb4 cZ HS3
        go_wp2_with fail
        go_roundw
        case rel => exact ⟨k + 1, by omega, by go_num, HS4.out⟩
        case measure => simp [intOf]; omega
    · have hkn : k = n := by omega
      subst hkn
      clear h1
      have H0 := hid HS.out.b
      have hlen := HI.out.rep.len
      rw [rowK_len, gV_len] at hlen
      have hsl := st_le (gT s k)
      go_wp2_with fail
      go_loopw [12] (fun i w' => CkEnd wr k i w') (fun i _ => k - (intOf i).toNat)
      case atStart => exact ⟨0, Nat.zero_le _, rfl, Below.refl _ _⟩
      case round =>
        obtain ⟨j, hj, rfl, hbr⟩ := hrel
        have HS2 := hid (HS.out.below hbr)
        have HBR := hid hbr
        clear hbr
        by_cases hjm : j < k
        · have hval := HI.out.rep.val HI.out.ok (p := kpf 32 32 j) (u := (j : Int)) (rowK_mem.2 ⟨j, _, gV_get hjm, rfl⟩)
          have cG := ck_get HS2.out.tw HI.out.ok (by omega) (kpf 32 32 j) (kpf_ok32 (by omega))
          unfold CkGet at cG
          rw [hval.1, hval.2, kpf_v32] at cG
          have CG := hid cG
          have HL12 := hid (at_len12 (gT s k) (kpf 32 32 j))
          clear hval cG
          go_wp2_with fail
          refine CG.out.mono ?_
          rintro _ w7 ⟨u, rfl, hU, hb7⟩
          obtain ⟨Au, cu, hu, _, _, _⟩ := Owns.form hU
          subst hu
          have hl1 := HL12.out
          generalize (atT (gT s k) (kpf 32 32 j)).length = la at *
          obtain ⟨hl1, hl2⟩ := hl1
          have hla1 : ¬ ((la : Int) = 0) := by omega
          have HB7 := hid (held_next HBR.out hb7)
          clear hU hb7 CG
          go_wp2_with fail
          go_roundw
          case rel => exact ⟨j + 1, by omega, by go_num, HB7.out⟩
          case measure => simp [intOf]; omega
        · have hjm' : j = k := by omega
          subst hjm'
          have cL := hid (ck_len HS2.out.tw HI.out.ok (by omega))
          rw [hlen] at cL
          clear hjm
          go_wp2_with fail
          refine cL.out.mono ?_
          rintro _ w8 ⟨rfl, hb8⟩
          have HS8 := hid (HS2.out.below hb8)
          clear hb8 cL
          go_wp2_with fail
          go_ret
          exact ⟨by simp, HS8.out.b⟩
theorem cuckooGrows_walk (W : World) (s : Int) (ws : (Lit.int .u64 s).wf = true) (n : Int) (wn : (Lit.int .i64 n).wf = true) :
    Calls Try.prog 7 #[.int .u64 s, .int .i64 n] W fun e W' => e = .returned (.bool true) ∧ Below W.heap.size W W' := by
  have hs := wf_u64 ws
  obtain ⟨z, rfl⟩ := Int.eq_ofNat_of_zero_le hs.1
  by_cases h : n < 0 ∨ 120 < n
  · exact cuckooGrows_out W z n h
  · obtain ⟨m, rfl⟩ := Int.eq_ofNat_of_zero_le (show 0 ≤ n by omega)
    exact cuckooGrows_in W z (by omega) m (by omega)

end Go.Proofs.Ytpjjijhojcfmnaa
