/-
  The walk of the law CuckooReplaces: for all inputs it returns true and leaves memory alone. No condition.
-/
import Derived.Test.YtpjjijhojcfmnaaRowK
namespace Go.Proofs.Ytpjjijhojcfmnaa
open Go.RowKit
set_option linter.unusedVariables false
set_option linter.unusedSimpArgs false
set_option maxRecDepth 100000

theorem kpf_ok50 {k : Nat} (h : k < 2 ^ 14) : (kpf 50 14 k).1.ok := ⟨by unfold kpf; simp only; omega, by unfold kpf; simp⟩
theorem rep_first {t : Tb} {k : Nat} (hok : t.Ok) (hr : Rep t (rowK 50 14 (List.replicate k 0))) (hk : k < 2 ^ 14) : (putT 16 t (kpf 50 14 k) 0).Ok ∧ Rep (putT 16 t (kpf 50 14 k) 0) (rowK 50 14 (List.replicate (k + 1) 0)) := by
  have hp := putT_ok 16 t (kpf 50 14 k) 0 hok (kpf_ok50 hk)
  have h1 := hr.put hp
  have e := rowK_snoc 50 14 (List.replicate k 0) 0
  rw [List.length_replicate, ← List.replicate_succ'] at e
  rw [e] at h1
  exact ⟨hp.ok, h1⟩
theorem rep_again {t : Tb} {V : List Int} (hok : t.Ok) (hr : Rep t (rowK 50 14 V)) {k : Nat} (hk : k < V.length) (hk2 : k < 2 ^ 14) (x : Int) :
    (putT 16 t (kpf 50 14 k) x).Ok ∧ Rep (putT 16 t (kpf 50 14 k) x) (rowK 50 14 (V.set k x)) ∧ (putT 16 t (kpf 50 14 k) x).n = t.n ∧ (putT 16 t (kpf 50 14 k) x).s = t.s ∧ (putT 16 t (kpf 50 14 k) x).st.length = t.st.length := by
  have hp := putT_ok 16 t (kpf 50 14 k) x hok (kpf_ok50 hk2)
  have h1 := hr.put hp
  rw [rowK_set 50 14 V hk x] at h1
  refine ⟨hp.ok, h1, ?_⟩
  rcases hp.cnt with ⟨h0, _⟩ | ⟨a, b, c, _⟩
  · exfalso
    have h2 := (hr.val hok (rowK_mem.2 ⟨k, V[k], List.getElem?_eq_getElem hk, rfl⟩)).1
    have := of_decide_eq_true h2
    omega
  · exact ⟨a, b, c⟩

theorem cuckooReplaces_out (W : World) (s : Nat) (n keys : Int) (A1 : Option Addr) (c1 m : Nat) (h1 : m ≤ c1) (hc1 : c1 ≤ maxLen) (h : n < 1 ∨ 20 < n ∨ keys < 1 ∨ 60 < keys ∨ 100 < m) :
    Calls Try.prog 8 #[.int .u64 (s : Int), .int .i64 n, .int .i64 keys, .slice A1 m c1] W fun e W' => e = .returned (.bool true) ∧ Below W.heap.size W W' := by
  unfold maxLen at hc1
  have h' : n < 1 ∨ ¬ n < 1 ∧ 20 < n ∨ ¬ n < 1 ∧ ¬ 20 < n ∧ keys < 1 ∨ ¬ n < 1 ∧ ¬ 20 < n ∧ ¬ keys < 1 ∧ 60 < keys ∨ ¬ n < 1 ∧ ¬ 20 < n ∧ ¬ keys < 1 ∧ ¬ 60 < keys ∧ 100 < (m : Int) := by omega
  clear h
  rcases h' with h' | ⟨h2, h'⟩ | ⟨h2, h3, h'⟩ | ⟨h2, h3, h4, h'⟩ | ⟨h2, h3, h4, h5, h'⟩
  all_goals
    go_enter Try.func8, Try.ntmps8
    go_wp2_with fail
    refine (cuckoo_alive _).mono ?_
    rintro e w1 ⟨rfl, hb⟩
    have HB1 := hid hb
    clear hb
    go_wp2_with fail
    go_ret
    exact ⟨by simp, HB1.out⟩

structure RpSt (W wr : World) (g vb : Nat) (t : Tb) (V : List Int) : Prop where
  tw : TwF wr g (fun z => W.heap.size ≤ z ∧ z ≠ vb) t
  bk : Blk wr vb 3 (V.flatMap iEn)
  b : Below W.heap.size W wr
  hv : W.heap.size ≤ vb
theorem RpSt.below {W wr w' : World} {g vb : Nat} {t : Tb} {V : List Int} (h : RpSt W wr g vb t V) (hb : Below wr.heap.size wr w') : RpSt W w' g vb t V := ⟨h.tw.below hb, h.bk.below' hb, held_next h.b hb, h.hv⟩
theorem RpSt.turn {W wr w' : World} {g vb : Nat} {t t' : Tb} {V : List Int} (h : RpSt W wr g vb t V) (ht : TwF w' g (fun z => (W.heap.size ≤ z ∧ z ≠ vb) ∨ wr.heap.size ≤ z) t') (hc : Chg (fun z => W.heap.size ≤ z ∧ z ≠ vb) wr w') : RpSt W w' g vb t' V :=
  ⟨ht.mono fun z _ hz => by
      have h1 := h.b.size
      have h2 := h.bk.lt
      rcases hz with hz | hz
      · exact hz
      · exact ⟨Nat.le_trans h1 hz, by omega⟩, h.bk.chg hc (fun hz => hz.2 rfl), h.b.trans (hc.below h.b.size fun z hz hn => by omega), h.hv⟩
theorem iEn_set (V : List Int) (k : Nat) (x : Int) : (V.flatMap iEn).set k (.int .i64 x) = (V.set k x).flatMap iEn := by
  induction V generalizing k with
  | nil => rfl
  | cons a V ih => cases k with
    | zero => rfl
    | succ k => simp only [List.flatMap_cons, iEn, List.singleton_append, List.set_cons_succ] at *; rw [← ih]
theorem iEn_get (V : List Int) (k : Nat) (h : k < V.length) : (V.flatMap iEn)[k]? = some (.int .i64 (V.getD k 0)) := by
  have h1 := flat_get (en := iEn) (size := 1) iEn_len V k V[k] (List.getElem?_eq_getElem h) 0 (by decide)
  rw [Nat.mul_one, Nat.add_zero] at h1
  rw [h1, List.getD_eq_getElem?_getD, List.getElem?_eq_getElem h]; rfl
theorem RpSt.store {W wr : World} {g vb : Nat} {t : Tb} {V : List Int} (h : RpSt W wr g vb t V) (k : Nat) (x : Int) : RpSt W (wr.setCell ⟨vb, k, none⟩ (.int .i64 x)) g vb t (V.set k x) :=
  ⟨h.tw.chg (Chg.store wr vb k _) (fun z _ hF e => hF.2 e), by rw [← iEn_set]; exact h.bk.set k _, h.b.setCell h.hv _, h.hv⟩
theorem iEn_rep (k : Nat) : (List.replicate k (0 : Int)).flatMap iEn = List.replicate k (.int .i64 0) := by
  induction k with
  | zero => rfl
  | succ k ih => rw [List.replicate_succ, List.flatMap_cons, ih]; rfl
theorem and1023 (x : Int) : ∃ k : Nat, k ≤ 1023 ∧ bits .and .i64 x 1023 = (k : Int) := by
  have h1 : (BitVec.ofInt 64 1023).toNat = 2 ^ 10 - 1 := by decide
  have key : (BitVec.ofInt 64 x &&& BitVec.ofInt 64 1023).toNat = (x % ((2 ^ 64 : Nat) : Int)).toNat % 2 ^ 10 := by
    rw [BitVec.toNat_and, BitVec.toNat_ofInt, h1, Nat.and_two_pow_sub_one_eq_mod]
  refine ⟨(x % ((2 ^ 64 : Nat) : Int)).toNat % 2 ^ 10, by have := Nat.mod_lt (x % ((2 ^ 64 : Nat) : Int)).toNat (show 0 < 2 ^ 10 by decide); omega, ?_⟩
  show IntKind.i64.wrap ((BitVec.ofInt 64 x &&& BitVec.ofInt 64 1023).toNat : Nat) = _
  rw [key, IntKind.wrap_i64]
  omega
def RpRel1 (W : World) (g vb keys : Nat) (i : Value) (wr : World) : Prop :=
  ∃ (k : Nat) (t : Tb), k ≤ keys ∧ i = .int .i64 k ∧ t.Ok ∧ Rep t (rowK 50 14 (List.replicate k 0)) ∧ RpSt W wr g vb t (List.replicate keys 0)
def RpRel2 (W : World) (g vb keys m : Nat) (t0 : Tb) (i : Value) (wr : World) : Prop :=
  ∃ (k : Nat) (t : Tb) (V : List Int), k ≤ m ∧ i = .int .i64 k ∧ t.Ok ∧ V.length = keys ∧ Rep t (rowK 50 14 V) ∧ t.n = t0.n ∧ t.s = t0.s ∧ t.st.length = t0.st.length ∧ RpSt W wr g vb t V
def RpEnd (w0 : World) (m : Nat) (i : Value) (wr : World) : Prop := ∃ k : Nat, k ≤ m ∧ i = .int .i64 k ∧ Below w0.heap.size w0 wr

set_option maxHeartbeats 8000000 in
theorem cuckooReplaces_in (W : World) (s : Nat) (hs : s < 2 ^ 64) (n keys : Nat) (hn1 : 1 ≤ n) (hn2 : n ≤ 20) (hk1 : 1 ≤ keys) (hk2 : keys ≤ 60) (v1 : Value) (l : List Int) (R1 : Rd iEn 1 W v1 l) (hl : l.length ≤ 100) :
    Calls Try.prog 8 #[.int .u64 (s : Int), .int .i64 (n : Int), .int .i64 (keys : Int), v1] W fun e W' => e = .returned (.bool true) ∧ Below W.heap.size W W' := by
  have HR1 := hid fun k x (h : l[k]? = some x) => R1.get iEn_len (by decide) h
  have HOK0 := hid (newT_ok hs hn1 (by omega))
  have HREP0 := hid (newT_rep s n)
  obtain ⟨A1, k1, rfl, n1, m1⟩ := R1.form
  unfold maxLen at m1
  obtain ⟨N, hN1⟩ : ∃ N, l.length = N := ⟨_, rfl⟩
  have HN1 := hid hN1
  rw [hN1] at n1 hl ⊢
  have cnew := hid fun w => ck_new w s n hn1 (by omega)
  have hmk := fun w => make_at (P := Try.prog) 47 3 (.int .i64 0) 8 Try.underlying47 int_row rfl .i64 .i64 (keys : Int) keys rfl (by omega) (by omega) w
  have HMB := hid (fun w => Blk.made w (.int .i64 0) keys 3)
  clear R1 hN1 hs
  generalize newT s n = t0 at *
  generalize madeCells #[Value.int .i64 0] keys = row at hmk HMB
  have d1 : ¬ ((n : Int) < 1) := by omega
  have d2 : ¬ (20 < (n : Int)) := by omega
  have d3 : ¬ (100 < (N : Int)) := by omega
  have d4 : ¬ ((keys : Int) < 1) := by omega
  have d5 : ¬ (60 < (keys : Int)) := by omega
  have d6 : (keys : Int) ≠ 0 := by omega
  have hk0 : (0 : Int) ≤ (keys : Int) := by omega
  go_enter Try.func8, Try.ntmps8
  go_wp2_with fail
  refine (cuckoo_alive _).mono ?_
  rintro e w1 ⟨rfl, hb⟩
  have HB1 := hid hb
  clear hb
  go_wp2_with fail
  refine (cnew.out _).mono ?_
  rintro _ w2 ⟨g, rfl, hg, hb2, q, hT, hq⟩
  have hW1 := HB1.out.size
  have HT := hid (show TwF w2 g (fun z => W.heap.size ≤ z) t0 from ⟨q, _, hT, Nat.le_trans hW1 hg, Nat.le_trans hW1 hq, fun z hz => by simp [Value.ownBlock] at hz⟩)
  have HB2 := hid (held_next HB1.out hb2)
  clear hT hq hb2 HB1 cnew
  go_wp2_with fail
  refine (law12_num _ _).mono ?_
  rintro _ w3 ⟨rfl, rfl⟩
  have hA := HMB.out w2
  have HS := hid (show RpSt W (w2.alloc (.cells row 3)) g w2.heap.size t0 (List.replicate keys 0) from ⟨(HT.out.mono (G := fun z => W.heap.size ≤ z ∧ z ≠ w2.heap.size) (fun z hz h => ⟨h, by omega⟩)).below ((Below.refl _ _).alloc (Nat.le_refl _) _), by rw [iEn_rep]; exact hA, HB2.out.alloc HB2.out.size _, HB2.out.size⟩)
  clear hA HT HB2 HMB
  go_wp2_with fail
  generalize w2.alloc (.cells row 3) = w3 at *
  generalize w2.heap.size = vb at *
  go_loopw [13] (fun i wr => RpRel1 W g vb keys i wr) (fun i _ => keys - (intOf i).toNat)
  case atStart => exact ⟨0, t0, Nat.zero_le _, rfl, HOK0.out, HREP0.out, HS.out⟩
  case round =>
    clear HS HOK0 HREP0
    obtain ⟨k, t, hk, rfl, hok, hrep, hS⟩ := hrel
    have HS := hid hS
    have HOK := hid hok
    have HREP := hid hrep
    clear hS hok hrep
    by_cases h1 : k < keys
    · have hlen := HREP.out.len
      rw [rowK_len, List.length_replicate] at hlen
      have cP := ck_put16 HS.out.tw HOK.out (by omega) (kpf 50 14 k) (kpf_ok50 (by omega)) 0
      rw [kpf_v50] at cP
      have CP := hid cP
      have HNX := hid (rep_first HOK.out HREP.out (by omega))
      clear cP hlen
      go_wp2_with fail
      refine CP.out.mono ?_
      rintro _ w4 ⟨rfl, hT4, hC4⟩
      have HS4 := hid (HS.out.turn hT4 hC4)
      clear hT4 hC4 CP HS
      go_wp2_with fail
      go_roundw
      case rel => exact ⟨k + 1, _, by omega, by go_num, HNX.out.1, HNX.out.2, HS4.out⟩
      case measure => simp [intOf]; omega
    · have hkn : k = keys := by omega
      subst hkn
      clear h1
      have cZ := hid (ck_size HS.out.tw)
      go_wp2_with fail
      refine cZ.out.mono ?_
      rintro _ w4 ⟨rfl, hb4⟩
      have HS4 := hid (HS.out.below hb4)
      clear hb4 cZ HS
      go_wp2_with fail
      go_loopw [17] (fun i wr => RpRel2 W g vb k N t i wr) (fun i _ => N - (intOf i).toNat)
      case atStart => exact ⟨0, t, _, Nat.zero_le _, rfl, HOK.out, List.length_replicate, HREP.out, rfl, rfl, rfl, HS4.out⟩
      case round =>
        clear HS4
        obtain ⟨j, t2, V, hj, rfl, hok2, hV, hrep2, e1, e2, e3, hS2⟩ := hrel
        have HS2 := hid hS2
        have HOK2 := hid hok2
        have HREP2 := hid hrep2
        have HVL := hid hV
        have HE := hid (And.intro e1 (And.intro e2 e3))
        clear hS2 hok2 hrep2 e1 e2 e3 hV
        have hlen := HREP2.out.len
        rw [rowK_len, HVL.out] at hlen
        by_cases hjN : j < N
        · obtain ⟨x, hx⟩ : ∃ x, l[j]? = some x := ⟨_, List.getElem?_eq_getElem (by rw [HN1.out]; exact hjN)⟩
          obtain ⟨ba, oa, ca, hv, _, _, la, sa⟩ := HR1.out j x hx
          injection hv with hA hxx hc
          subst hA hc
          have y0 := (HS2.out.b.cell (p := ⟨ba, oa + j * 1 + 0, none⟩) la).trans (sa 0 _ rfl)
          simp only [Nat.mul_one, Nat.add_zero] at y0
          obtain ⟨K, hK, hKe⟩ := and1023 x
          obtain ⟨m, hm⟩ : ∃ m, K % k = m := ⟨_, rfl⟩
          have hmk : m < k := by rw [← hm]; exact Nat.mod_lt _ (by omega)
          have hme : (K : Int) % (k : Int) = (m : Int) := by rw [← hm]; rfl
          have hmt : Int.tmod (K : Int) (k : Int) = (m : Int) := by rw [← hm]; rfl
          have hK0 : (0 : Int) ≤ (K : Int) := by omega
          have hm0 : (0 : Int) ≤ (m : Int) := by omega
          have hm1 : (m : Int) < (k : Int) := by omega
          have f0 := HS2.out.bk.frozen m
          have z0 := HS2.out.bk.cellv (iEn_get V m (by rw [HVL.out]; exact hmk))
          have HS3 := hid (HS2.out.store m ((j : Int) + 1))
          have HNX := hid (rep_again HOK2.out HREP2.out (by rw [HVL.out]; exact hmk) (by omega) ((j : Int) + 1))
          have cP := ck_put16 HS3.out.tw HOK2.out (by omega) (kpf 50 14 m) (kpf_ok50 (by omega)) ((j : Int) + 1)
          rw [kpf_v50] at cP
          have CP := hid cP
          clear cP sa hxx hx hm
          go_wp2_with fail
          refine CP.out.mono ?_
          rintro _ w4 ⟨rfl, hT4, hC4⟩
          have HS4 := hid (HS3.out.turn hT4 hC4)
          clear hT4 hC4 CP HS3 HS2 y0 z0 f0
          go_wp2_with fail
          go_roundw
          case rel => exact ⟨j + 1, _, _, by omega, by go_num, HNX.out.1, by rw [List.length_set]; exact HVL.out, HNX.out.2.1, HNX.out.2.2.1.trans HE.out.1, HNX.out.2.2.2.1.trans HE.out.2.1, HNX.out.2.2.2.2.trans HE.out.2.2, HS4.out⟩
          case measure => simp [intOf]; omega
        · have hjN' : j = N := by omega
          subst hjN'
          clear hjN
          have cZ := hid (ck_size HS2.out.tw)
          have hE := HE.out
          rw [hE.1, hE.2.1, hE.2.2] at cZ
          have HSL := hid (st_le t2)
          clear hE
          go_wp2_with fail
          refine cZ.out.mono ?_
          rintro _ w5 ⟨rfl, hb5⟩
          have HS5 := hid (HS2.out.below hb5)
          clear hb5 cZ HS2
          have hstl : t2.st.length ≤ 100000000 := by have := HSL.out; omega
          go_wp2_with fail
          go_loopw [22] (fun i w' => RpEnd w5 k i w') (fun i _ => k - (intOf i).toNat)
          case atStart => exact ⟨0, Nat.zero_le _, rfl, Below.refl _ _⟩
          case round =>
            obtain ⟨i, hi, rfl, hbr⟩ := hrel
            have HS2 := hid (HS5.out.below hbr)
            have HBR := hid hbr
            clear hbr
            by_cases him : i < k
            · have hval := HREP2.out.val HOK2.out (p := kpf 50 14 i) (u := V.getD i 0) (rowK_mem.2 ⟨i, _, by rw [List.getD_eq_getElem?_getD, List.getElem?_eq_getElem (show i < V.length by rw [HVL.out]; exact him)]; rfl, rfl⟩)
              have cG := ck_get HS2.out.tw HOK2.out hstl (kpf 50 14 i) (kpf_ok50 (by omega))
              unfold CkGet at cG
              rw [hval.1, hval.2, kpf_v50] at cG
              have CG := hid cG
              have z0 := hid (HS2.out.bk.cellv (iEn_get V i (by rw [HVL.out]; exact him)))
              have hi0 : (0 : Int) ≤ (i : Int) := by omega
              have hi1 : (i : Int) < (k : Int) := by omega
              clear hval cG
              go_wp2_with fail
              refine CG.out.mono ?_
              rintro _ w7 ⟨u, rfl, hU, hb7⟩
              obtain ⟨Au, cu, hu, _, _, _⟩ := Owns.form hU
              subst hu
              have z1 := (hb7.cell (p := ⟨vb, i, none⟩) (World.block_lt_of_cell? _ _ z0.out)).trans z0.out
              have HB7 := hid (held_next HBR.out hb7)
              clear hU hb7 CG z0
              go_wp2_with fail
              go_roundw
              case rel => exact ⟨i + 1, by omega, by go_num, HB7.out⟩
              case measure => simp [intOf]; omega
            · have him' : i = k := by omega
              subst him'
              have cL := hid (ck_len HS2.out.tw HOK2.out (by omega))
              rw [hlen] at cL
              clear him
              go_wp2_with fail
              refine cL.out.mono ?_
              rintro _ w8 ⟨rfl, hb8⟩
              have HS8 := hid (HS2.out.below hb8)
              clear hb8 cL
              go_wp2_with fail
              go_ret
              exact ⟨by simp, HS8.out.b⟩
theorem cuckooReplaces_walk (W : World) (s : Int) (ws : (Lit.int .u64 s).wf = true) (n : Int) (wn : (Lit.int .i64 n).wf = true) (keys : Int) (wk : (Lit.int .i64 keys).wf = true) (v1 : Value) (l : List Int) (R1 : Rd iEn 1 W v1 l) (o1 : ∀ a ∈ l, (Lit.int .i64 a).wf = true) :
    Calls Try.prog 8 #[.int .u64 s, .int .i64 n, .int .i64 keys, v1] W fun e W' => e = .returned (.bool true) ∧ Below W.heap.size W W' := by
  have hs := wf_u64 ws
  obtain ⟨z, rfl⟩ := Int.eq_ofNat_of_zero_le hs.1
  by_cases h : n < 1 ∨ 20 < n ∨ keys < 1 ∨ 60 < keys ∨ 100 < l.length
  · obtain ⟨A, c, rfl, h1, h2⟩ := R1.form
    exact cuckooReplaces_out W z n keys A c _ h1 h2 h
  · obtain ⟨m, rfl⟩ := Int.eq_ofNat_of_zero_le (show 0 ≤ n by omega)
    obtain ⟨k, rfl⟩ := Int.eq_ofNat_of_zero_le (show 0 ≤ keys by omega)
    exact cuckooReplaces_in W z (by omega) m k (by omega) (by omega) (by omega) (by omega) v1 l R1 (by omega)

end Go.Proofs.Ytpjjijhojcfmnaa
