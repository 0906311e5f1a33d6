/-
  'make' of rows of structs. No condition.
-/
import Derived.Test.YtjhgmjfjlndomaaRd
namespace Go.Proofs.Ytjhgmjfjlndomaa
open Go.RowKit
set_option linter.unusedVariables false
set_option linter.unusedSimpArgs false

theorem make_atk {P : Program} (t e : TypeId) (z : Value) (size bytes : Nat) (ht : P.underlying t = some (.slice e)) (hinfo : (P.info? e).map (fun i => (i.zero, i.size, i.bytes)) = some (some z, size, bytes))
    (kl kc : IntKind) (j : Int) (n : Nat) (hj : j = n) (hbytes : bytes * n ≤ 281474976710656) (h63 : n ≤ 9223372036854775807) (w : World) :
    (Instr.makeSlice t (.int kl j) (.int kc j)).run P w = .ok (.slice (some ⟨w.heap.size, 0, none⟩) n n) (w.alloc (.cells (madeCells z.cells (n * size)) e)) := by
  subst hj
  obtain ⟨i, hi, hzz⟩ := Option.map_eq_some_iff.1 hinfo
  simp only [Prod.mk.injEq] at hzz
  obtain ⟨hz, hs, hb⟩ := hzz
  have hb' : (i.bytes : Int) * (n : Int) ≤ 281474976710656 := by
    have h : ((i.bytes * n : Nat) : Int) ≤ 281474976710656 := by rw [hb]; omega
    rwa [Int.natCast_mul] at h
  have hr := run_make (P := P) w t e i z ht hi hz kl kc n n (by omega) (Int.le_refl _) hb' (by omega)
  simp only [Int.toNat_natCast, hs] at hr
  exact hr
theorem made_repk {α : Type} {en : α → List Value} {size : Nat} (hl : ∀ a, (en a).length = size) (h0 : 0 < size) (x : α) (n : Nat) : madeCells (en x).toArray (n * size) = ((List.replicate n x).flatMap en).toArray := by
  have hlen := flat_len hl (List.replicate n x)
  rw [List.length_replicate] at hlen
  apply Array.ext
  · simp only [size_madeCells, List.size_toArray]; exact hlen.symm
  · intro i h1 h2
    rw [size_madeCells] at h1
    have hd : i / size < n := by rw [Nat.div_lt_iff_lt_mul h0]; exact h1
    have hm := Nat.mod_lt i h0
    have h3 := flat_get hl (List.replicate n x) (i / size) x (by rw [List.getElem?_replicate, if_pos hd]) (i % size) hm
    rw [Nat.mul_comm, Nat.div_add_mod] at h3
    have h4 : i < ((List.replicate n x).flatMap en).length := by rw [hlen]; exact h1
    rw [List.getElem?_eq_getElem h4, List.getElem?_eq_getElem (by rw [hl]; exact hm)] at h3
    injection h3 with h3
    simp only [madeCells, Array.getElem_map, Array.getElem_range, List.getElem_toArray, List.size_toArray, hl]
    rw [h3]
    simp [hl, hm]
theorem Blk.madek {α : Type} {en : α → List Value} {size : Nat} (hl : ∀ a, (en a).length = size) (h0 : 0 < size) (w : World) (x : α) (n : Nat) (t : TypeId) :
    Blk (w.alloc (.cells (madeCells (en x).toArray (n * size)) t)) w.heap.size t ((List.replicate n x).flatMap en) := by
  rw [made_repk hl h0]; exact Blk.new w _ t

end Go.Proofs.Ytjhgmjfjlndomaa
