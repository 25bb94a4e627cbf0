/- References: the contracts of those functions that look one up, and change what it is. -/
import Derived.Test.YtijiffgfodlepaaS
namespace Go.Proofs.Ytijiffgfodlepaa
open Go.RowKit Go.BigFrame Go.MapKept

/-- The cells of one. -/
theorem IsR.at {w : World} {R base : Nat} {v : Value} {l : List Rf} (h : IsR w R base v l) {i : Nat} {x : Rf} (hx : l[i]? = some x) :
    ∃ A cap, v = .slice (some ⟨A, 0, none⟩) l.length cap ∧ A < w.heap.size ∧ A ≠ R ∧ base ≤ A ∧ w.cell? ⟨A, i * 3, none⟩ = some (.int .i64 x.s) ∧ w.cell? ⟨A, i * 3 + 1, none⟩ = some (.int .u64 x.g) ∧ w.cell? ⟨A, i * 3 + 2, none⟩ = some (.int .u8 x.k) ∧
      w.frozen? ⟨A, i * 3 + 2, none⟩ = false := by
  have hi : i < l.length := (List.getElem?_eq_some_iff.1 hx).1
  obtain ⟨ad, cap, rfl, hA⟩ := h.form
  obtain ⟨A, rfl⟩ := hA (by omega)
  obtain ⟨e0, e1, e2⟩ := rcells_at hx
  refine ⟨A, cap, rfl, (h.row.lt A rfl).2, fun e => row_ne h (by simp [Value.ownBlock, e]), (h.row.lt A rfl).1, ?_, ?_, ?_, ?_⟩
  · rw [h.row.cellAt _ (by omega)]; exact e0
  · rw [h.row.cellAt _ (by omega)]; exact e1
  · rw [h.row.cellAt _ (by omega)]; exact e2
  · exact h.row.frozenAt _

set_option maxHeartbeats 800000 in
theorem of_out {R base : Nat} {v : Value} {l : List Rf} {w : World} (h : IsR w R base v l) (hlen : l.length ≤ 1000) (n : Int) (h0 : 0 ≤ n) (h1 : n < 18446744073709551616) (hn : n < 1 ∨ (l.length : Int) < n) :
    Calls Try.prog 24 #[.pointer (some ⟨R, 0, none⟩), .int .u64 n] w fun e w' => e = .returned (.tuple #[.pointer none, .int .i64 240]) ∧ w = w' := by
  obtain ⟨ad, cap, rfl, _⟩ := h.form
  have c0 := cell_of_block (j := 0) h.bl rfl
  have c1 := cell_of_block (j := 1) h.bl rfl
  clear h
  rcases hn with hn | hn
  · go_enter Try.func24, Try.ntmps24
    go_wp2
    go_ret2
    exact ⟨rfl, rfl⟩
  · have hn1 : ¬ n < 1 := by omega
    go_enter Try.func24, Try.ntmps24
    go_wp2
    go_ret2
    exact ⟨rfl, rfl⟩

set_option maxHeartbeats 800000 in
theorem of_over {R base : Nat} {v : Value} {l : List Rf} {w : World} (h : IsR w R base v l) (hlen : l.length ≤ 1000) (i : Nat) {x : Rf} (hx : l[i]? = some x) (hk : x.k = 3) :
    Calls Try.prog 24 #[.pointer (some ⟨R, 0, none⟩), .int .u64 (i + 1)] w fun e w' => e = .returned (.tuple #[.pointer none, .int .i64 240]) ∧ w = w' := by
  have hi : i < l.length := (List.getElem?_eq_some_iff.1 hx).1
  obtain ⟨A, cap, rfl, hA, _, _, d0, d1, d2, _⟩ := h.at hx
  have c0 := cell_of_block (j := 0) h.bl rfl
  have c1 := cell_of_block (j := 1) h.bl rfl
  have hn1 : ¬ (i : Int) + 1 < 1 := by omega
  have hn2 : ¬ (l.length : Int) < (i : Int) + 1 := by omega
  have hb : (x.k == 3) = true := by simpa using hk
  clear h hx hk
  go_enter Try.func24, Try.ntmps24
  go_wp2
  go_ret2
  exact ⟨rfl, rfl⟩

set_option maxHeartbeats 800000 in
theorem of_live {R base : Nat} {l : List Rf} {w : World} {A cap : Nat} (h : IsR w R base (.slice (some ⟨A, 0, none⟩) l.length cap) l) (hlen : l.length ≤ 1000) (i : Nat) {x : Rf} (hx : l[i]? = some x) (hk : ¬ x.k = 3) :
    Calls Try.prog 24 #[.pointer (some ⟨R, 0, none⟩), .int .u64 (i + 1)] w fun e w' => e = .returned (.tuple #[.pointer (some ⟨A, i * 3, none⟩), .int .i64 0]) ∧ w = w' := by
  have hi : i < l.length := (List.getElem?_eq_some_iff.1 hx).1
  obtain ⟨A', cap', e, hA, _, _, d0, d1, d2, _⟩ := h.at hx
  simp only [Value.slice.injEq, Option.some.injEq, Addr.mk.injEq, and_true, true_and] at e
  obtain ⟨rfl, rfl⟩ := e
  have c0 := cell_of_block (j := 0) h.bl rfl
  have c1 := cell_of_block (j := 1) h.bl rfl
  have hn1 : ¬ (i : Int) + 1 < 1 := by omega
  have hn2 : ¬ (l.length : Int) < (i : Int) + 1 := by omega
  have hb : (x.k == 3) = false := by simpa using hk
  clear h hx hk
  go_enter Try.func24, Try.ntmps24
  go_wp2
  go_ret2
  exact ⟨rfl, rfl⟩

end Go.Proofs.Ytijiffgfodlepaa
