/-
  Package batch: a new book; all routes. No condition.
-/
import Derived.Test.YtcnecjjgnnkjkaaBatch3
namespace Go.Proofs.Ytcnecjjgnnkjkaa
open Go.RowKit
set_option linter.unusedVariables false
set_option linter.unusedSimpArgs false
set_option maxRecDepth 100000

def limOf (width routes most : Int) : Lim := ⟨(max 1 (min width 128)).toNat, (max 0 (min routes 300)).toNat, capH most⟩
def NewBk (w : World) (m : Lim) (e : Ending) (w' : World) : Prop :=
  ∃ b, e = .returned (.pointer (some ⟨b, 0, none⟩)) ∧ BookAt w' b (fun z => w.heap.size ≤ z) m [] ∧ Below w.heap.size w w'
theorem book_new (w : World) (width routes most : Int) : Calls Try.prog 19 #[.int .i64 width, .int .i64 routes, .int .i64 most] w (NewBk w (limOf width routes most)) := by
  obtain ⟨m1, hm1⟩ : ∃ m : Int, m = if 128 < width then 128 else width := ⟨_, rfl⟩
  obtain ⟨k1, hk1⟩ : ∃ k : Nat, (k : Int) = if 1 < m1 then m1 else 1 := ⟨(if 1 < m1 then m1 else 1).toNat, by split <;> omega⟩
  obtain ⟨m2, hm2⟩ : ∃ m : Int, m = if 300 < routes then 300 else routes := ⟨_, rfl⟩
  obtain ⟨k2, hk2⟩ : ∃ k : Nat, (k : Int) = if 0 < m2 then m2 else 0 := ⟨(if 0 < m2 then m2 else 0).toNat, by split <;> omega⟩
  obtain ⟨m3, hm3⟩ : ∃ m : Int, m = if 60 < most then 60 else most := ⟨_, rfl⟩
  obtain ⟨k3, hk3⟩ : ∃ k : Nat, (k : Int) = if 0 < m3 then m3 else 0 := ⟨(if 0 < m3 then m3 else 0).toNat, by split <;> omega⟩
  have hlim : limOf width routes most = ⟨k1, k2, k3⟩ := by
    unfold limOf capH
    have e1 : (max 1 (min width 128)).toNat = k1 := by split at hm1 <;> split at hk1 <;> omega
    have e2 : (max 0 (min routes 300)).toNat = k2 := by split at hm2 <;> split at hk2 <;> omega
    have e3 : (max 0 (min most 60)).toNat = k3 := by split at hm3 <;> split at hk3 <;> omega
    rw [e1, e2, e3]
  have hcap : capH most = k3 := congrArg Lim.mh hlim
  have hle : k1 ≤ 128 ∧ k2 ≤ 300 ∧ k3 ≤ 60 := by
    refine ⟨?_, ?_, ?_⟩
    · split at hm1 <;> split at hk1 <;> omega
    · split at hm2 <;> split at hk2 <;> omega
    · split at hm3 <;> split at hk3 <;> omega
  have a1 := min_at .i64 width 128 m1 hm1
  have a2 := max_at .i64 1 m1 k1 hk1
  have a3 := min_at .i64 routes 300 m2 hm2
  have a4 := max_at .i64 0 m2 k2 hk2
  have a5 := min_at .i64 most 60 m3 hm3
  have a6 := max_at .i64 0 m3 k3 hk3
  have HLE := hid hle
  rw [hlim]
  have cH := hid (fun w => hops_new most w)
  rw [hcap] at cH
  clear hm1 hk1 hm2 hk2 hm3 hk3 hlim hcap hle
  go_enter Try.func19, Try.ntmps19
  go_wp2_with fail
  refine (cH.out _).mono ?_
  rintro _ w1 ⟨hg, hq, rfl, hH, hh1, hh2, hb⟩
  have HH := hid hH
  have HB1 := hid hb
  have HT := hid ((trr_new w).below hb)
  clear hH hb
  simp only [World.size_alloc] at hh1 hh2
  have H1 := hid hh1
  have H2 := hid hh2
  clear hh1 hh2
  go_wp2_with fail
  go_ret
  have hb1 := HB1.out
  have hsz := hb1.size
  simp only [World.size_alloc] at hsz
  have hl := HH.out.lt
  have hn := Blk.new w1 [.int .i64 (k1 : Int), .int .i64 (k2 : Int), .int .i64 (k3 : Int), .pointer (some ⟨w.heap.size, 0, none⟩), .pointer (some ⟨hg, 0, none⟩)] 80
  have hb2 := (Below.refl w1.heap.size w1).alloc (Nat.le_refl _) (.cells #[.int .i64 (k1 : Int), .int .i64 (k2 : Int), .int .i64 (k3 : Int), .pointer (some ⟨w.heap.size, 0, none⟩), .pointer (some ⟨hg, 0, none⟩)] 80)
  have hba : Below w.heap.size w w1 := Below.trans ((Below.refl w.heap.size w).alloc (Nat.le_refl _) _) (hb1.mono (by simp))
  have h1 := H1.out
  have h2 := H2.out
  refine ⟨w1.heap.size, rfl, ⟨w.heap.size, hg, hq, fun z => z = w.heap.size, hn, HT.out.below hb2, HH.out.below hb2, Inv.nil _, HLE.out, fun z hz => ?_, ⟨by omega, by omega, by omega⟩, by omega, by omega⟩, hba.alloc (by omega) _⟩
  subst hz
  have := hb2.size
  exact ⟨by omega, Nat.le_refl _, by omega, by omega, by omega⟩
theorem book_routes {w : World} {b : Nat} {F : Nat → Prop} {m : Lim} {R : List Rt} (H : BookAt w b F m R) :
    Calls Try.prog 27 #[.pointer (some ⟨b, 0, none⟩)] w (RetRts w R) := by
  obtain ⟨g, hg, hq, FT, H⟩ := H
  have y3 := H.top.cellv (i := 3) rfl
  have hl := H.inv.len
  have hlim := H.lim
  have cA := hid (trr_all H.tri (by omega))
  clear H hl hlim
  go_enter Try.func27, Try.ntmps27
  go_wp2_with fail
  refine cA.out.mono ?_
  rintro _ w1 ⟨v, rfl, hO, hb⟩
  have HO := hid (show RetRts w R (.returned v) w1 from ⟨v, rfl, hO, hb⟩)
  obtain ⟨A, cap, rfl, _⟩ := hO.form
  clear hO hb cA y3
  go_wp2_with fail
  go_ret
  exact HO.out
end Go.Proofs.Ytcnecjjgnnkjkaa
