/- References: the contracts of Lend, Over and Of. -/
import Derived.Test.YtijiffgfodlepaaT
import Derived.BigRegion
namespace Go.Proofs.Ytijiffgfodlepaa
open Go.RowKit Go.BigFrame Go.MapKept

/-- Which one a number names. -/
def named (l : List Rf) (n : Int) : Option (Nat × Rf) := if 1 ≤ n ∧ n ≤ l.length then (l[(n - 1).toNat]?).map fun x => ((n - 1).toNat, x) else none
def lendL (l : List Rf) (n : Int) : List Rf × Int := match named l n with
  | some (i, x) => if x.k = 3 then (l, 240) else if x.k = 1 then (l.set i ⟨x.s, x.g, 2⟩, 0) else (l, 241)
  | none => (l, 240)
def overL (l : List Rf) (n : Int) : List Rf × Int := match named l n with
  | some (i, x) => if x.k = 3 then (l, 240) else (l.set i ⟨x.s, x.g, 3⟩, 0)
  | none => (l, 240)

theorem named_some {l : List Rf} {n : Int} {i : Nat} {x : Rf} (h : named l n = some (i, x)) : n = i + 1 ∧ l[i]? = some x := by
  unfold named at h
  split at h
  · rename_i hn
    cases hl : l[(n - 1).toNat]? with
    | none => rw [hl] at h; cases h
    | some y =>
      rw [hl] at h
      simp only [Option.map_some, Option.some.injEq, Prod.mk.injEq] at h
      obtain ⟨rfl, rfl⟩ := h
      exact ⟨by omega, hl⟩
  · cases h
theorem named_none {l : List Rf} {n : Int} (h : named l n = none) : n < 1 ∨ (l.length : Int) < n := by
  unfold named at h
  split at h
  · rename_i hn
    have : (n - 1).toNat < l.length := by omega
    rw [List.getElem?_eq_getElem this] at h
    cases h
  · omega

theorem rcells_set {l : List Rf} : ∀ {i : Nat} {x : Rf} (k : Int), l[i]? = some x → rcells (l.set i ⟨x.s, x.g, k⟩) = (rcells l).set (i * 3 + 2) (.int .u8 k) := by
  induction l with
  | nil => intro i x k h; cases h
  | cons y r ih =>
    intro i x k h
    cases i with
    | zero => simp at h; subst h; rfl
    | succ i =>
      have := ih (i := i) (x := x) k (by simpa using h)
      have e : (i + 1) * 3 + 2 = (i * 3 + 2) + 1 + 1 + 1 := by omega
      rw [e]
      simp only [List.set_cons_succ]
      simp only [rcells, List.flatMap_cons] at this ⊢
      rw [this]
      simp

/-- One is something else now. -/
theorem IsR.turn {w : World} {R base : Nat} {l : List Rf} {A cap : Nat} (h : IsR w R base (.slice (some ⟨A, 0, none⟩) l.length cap) l) {i : Nat} {x : Rf} (hx : l[i]? = some x) (k : Int) :
    IsR (w.setCell ⟨A, i * 3 + 2, none⟩ (.int .u8 k)) R base (.slice (some ⟨A, 0, none⟩) l.length cap) (l.set i ⟨x.s, x.g, k⟩) := by
  have hi : i < l.length := (List.getElem?_eq_some_iff.1 hx).1
  have hne : A ≠ R := fun e => row_ne h (by simp [Value.ownBlock, e])
  refine ⟨(set_other _ (Ne.symm hne)).trans h.bl, ?_, h.ge⟩
  rw [List.length_set, rcells_set k hx]
  have := h.row.stored (i * 3 + 2) (.int .u8 k)
  exact this.1

set_option maxHeartbeats 800000 in
theorem lend_any {R base : Nat} {v : Value} {l : List Rf} {w : World} (h : IsR w R base v l) (hlen : l.length ≤ 1000) (n : Int) (h0 : 0 ≤ n) (h1 : n < 18446744073709551616) :
    Calls Try.prog 10 #[.pointer (some ⟨R, 0, none⟩), .int .u64 n] w fun e w' => e = .returned (.int .i64 (lendL l n).2) ∧ IsR w' R base v (lendL l n).1 ∧ Fr (rown R v) w w' := by
  unfold lendL
  cases hn : named l n with
  | none =>
    have hO := of_out h hlen n h0 h1 (named_none hn)
    have H := Lib.hid h
    clear h
    go_enter Try.func10, Try.ntmps10
    go_wp2_with fail
    refine hO.mono ?_
    rintro e w' ⟨rfl, rfl⟩
    clear hO
    dsimp only
    go_wp2
    go_ret
    exact ⟨rfl, H.out, Fr.refl _ _⟩
  | some p =>
    obtain ⟨i, x⟩ := p
    obtain ⟨rfl, hx⟩ := named_some hn
    by_cases hk : x.k = 3
    · have hO := of_over h hlen i hx hk
      have H := Lib.hid h
      simp only [hk, if_true]
      clear h hx hk hn
      go_enter Try.func10, Try.ntmps10
      go_wp2_with fail
      refine hO.mono ?_
      rintro e w' ⟨rfl, rfl⟩
      clear hO
      dsimp only
      go_wp2
      go_ret
      exact ⟨rfl, H.out, Fr.refl _ _⟩
    · obtain ⟨A, cap, rfl, hA, hAR, _, d0, d1, d2, d3⟩ := h.at hx
      have hO := of_live h hlen i hx hk
      have H := Lib.hid h
      have HX := Lib.hid hx
      simp only [hk, if_false]
      by_cases hk1 : x.k = 1
      · have hb : (x.k != 1) = false := by simp [hk1]
        simp only [hk1, if_true] at *
        have HK := Lib.hid hk1
        clear h hx hk hn hk1
        go_enter Try.func10, Try.ntmps10
        go_wp2_with fail
        refine hO.mono ?_
        rintro e w' ⟨rfl, rfl⟩
        clear hO
        dsimp only
        go_wp2
        go_ret
        exact ⟨rfl, H.out.turn HX.out 2, (Fr.refl _ _).setCell _ _ (.inl (by simp [rown, Value.ownBlock]))⟩
      · have hb : (x.k != 1) = true := by simp [hk1]
        simp only [hk1, if_false]
        clear h hx hk hn hk1
        go_enter Try.func10, Try.ntmps10
        go_wp2_with fail
        refine hO.mono ?_
        rintro e w' ⟨rfl, rfl⟩
        clear hO
        dsimp only
        go_wp2
        go_ret
        exact ⟨rfl, H.out, Fr.refl _ _⟩

set_option maxHeartbeats 800000 in
theorem over_any {R base : Nat} {v : Value} {l : List Rf} {w : World} (h : IsR w R base v l) (hlen : l.length ≤ 1000) (n : Int) (h0 : 0 ≤ n) (h1 : n < 18446744073709551616) :
    Calls Try.prog 11 #[.pointer (some ⟨R, 0, none⟩), .int .u64 n] w fun e w' => e = .returned (.int .i64 (overL l n).2) ∧ IsR w' R base v (overL l n).1 ∧ Fr (rown R v) w w' := by
  unfold overL
  cases hn : named l n with
  | none =>
    have hO := of_out h hlen n h0 h1 (named_none hn)
    have H := Lib.hid h
    clear h
    go_enter Try.func11, Try.ntmps11
    go_wp2_with fail
    refine hO.mono ?_
    rintro e w' ⟨rfl, rfl⟩
    clear hO
    dsimp only
    go_wp2
    go_ret
    exact ⟨rfl, H.out, Fr.refl _ _⟩
  | some p =>
    obtain ⟨i, x⟩ := p
    obtain ⟨rfl, hx⟩ := named_some hn
    by_cases hk : x.k = 3
    · have hO := of_over h hlen i hx hk
      have H := Lib.hid h
      simp only [hk, if_true]
      clear h hx hk hn
      go_enter Try.func11, Try.ntmps11
      go_wp2_with fail
      refine hO.mono ?_
      rintro e w' ⟨rfl, rfl⟩
      clear hO
      dsimp only
      go_wp2
      go_ret
      exact ⟨rfl, H.out, Fr.refl _ _⟩
    · obtain ⟨A, cap, rfl, hA, hAR, _, d0, d1, d2, d3⟩ := h.at hx
      have hO := of_live h hlen i hx hk
      have H := Lib.hid h
      have HX := Lib.hid hx
      simp only [hk, if_false]
      clear h hx hk hn
      go_enter Try.func11, Try.ntmps11
      go_wp2_with fail
      refine hO.mono ?_
      rintro e w' ⟨rfl, rfl⟩
      clear hO
      dsimp only
      go_wp2
      go_ret
      exact ⟨rfl, H.out.turn HX.out 3, (Fr.refl _ _).setCell _ _ (.inl (by simp [rown, Value.ownBlock]))⟩

set_option maxHeartbeats 800000 in
theorem rof_some {R base : Nat} {v : Value} {l : List Rf} {w : World} (h : IsR w R base v l) (hlen : l.length ≤ 1000) (i : Nat) {x : Rf} (hx : l[i]? = some x) :
    Calls Try.prog 13 #[.pointer (some ⟨R, 0, none⟩), .int .u64 (i + 1)] w fun e w' => e = .returned (.tuple #[ky x.s x.g, .int .u8 x.k]) ∧ Below w.heap.size w w' := by
  have hi : i < l.length := (List.getElem?_eq_some_iff.1 hx).1
  have hn1 : ¬ (i : Int) + 1 < 1 := by omega
  have hn2 : ¬ (l.length : Int) < (i : Int) + 1 := by omega
  obtain ⟨A, cap, rfl, hA, _, _, d0, d1, d2, _⟩ := h.at hx
  have c1 := cell_of_block (j := 1) h.bl rfl
  have hRl := lt_of_block h.bl
  unfold ky
  clear h hx
  go_enter Try.func13, Try.ntmps13
  go_wp2_with fail
  have hwi : IntKind.u64.wrap (i : Int) = (i : Int) := IntWalk.u64_in _ (by omega)
  have hi0 : (0 : Int) ≤ (i : Int) := by omega
  have hil : (i : Int) < (l.length : Int) := by omega
  go_region
  clear hwi
  go_wp2
  refine bodyPost_ret (v := .tuple #[.agg #[.int .i64 x.s, .int .u64 x.g], .int .u8 x.k]) (by simp [results, Try.results13, go_sem]) rfl ⟨rfl, ?_⟩
  exact (below_alloc w _).drew

end Go.Proofs.Ytijiffgfodlepaa
