/- The contracts of Pop and of the law's own walk through the links. -/
import Derived.Test.YtijiffgfodlepaaG
namespace Go.Proofs.Ytijiffgfodlepaa
open Go.RowKit Go.MapKept Go.BigFrame

/-- n is at the end, l' is what is left. -/
def Ends (front : Bool) (l : List Nd) (n : Nd) (l' : List Nd) : Prop := (front = true ∧ l = n :: l') ∨ (front = false ∧ l = l' ++ [n])

theorem Ends.get {front : Bool} {l l' : List Nd} {n : Nd} (h : Ends front l n l') : (if front then l.head? else l.getLast?) = some n := by
  rcases h with ⟨rfl, rfl⟩ | ⟨rfl, rfl⟩ <;> simp

theorem remove_any {B M : Nat} {l l' : List Nd} {n : Nd} {front : Bool} {w : World} (h : IsL w B M l) (he : Ends front l n l') :
    Calls Try.prog 28 #[.pointer (some ⟨B, 0, none⟩), ky n.s n.g] w fun e w' => e = .returned (.bool true) ∧ IsL w' B M l' ∧ Fr (own B M l) w w' := by
  rcases he with ⟨rfl, rfl⟩ | ⟨rfl, rfl⟩
  · cases l' with
    | nil => exact remove_only h
    | cons m r => exact remove_first h
  · rcases List.eq_nil_or_concat l' with rfl | ⟨r, m, rfl⟩
    · exact remove_only h
    · have e : (r ++ [m]) ++ [n] = r ++ [m, n] := by simp
      rw [List.concat_eq_append] at h ⊢
      rw [e] at h ⊢
      exact remove_last h

set_option maxHeartbeats 400000 in
theorem pop_any {B M : Nat} {l l' : List Nd} {n : Nd} {front : Bool} {w : World} (h : IsL w B M l) (he : Ends front l n l') :
    Calls Try.prog 20 #[.pointer (some ⟨B, 0, none⟩), .bool front] w fun e w' => e = .returned (.tuple #[ky n.s n.g, .bool true]) ∧ IsL w' B M l' ∧ Fr (own B M l) w w' := by
  obtain ⟨W, hW⟩ : ∃ W, W = w.alloc (.cells #[.int .i64 0, .int .u64 0] 29) := ⟨_, rfl⟩
  have hbW : Below w.heap.size w W := by rw [hW]; exact below_alloc w _
  have hLW := h.below hbW
  have hrk : W.heap[w.heap.size]? = some (.cells #[.int .i64 0, .int .u64 0] 29 (0, 0)) := by rw [hW]; exact (heap_alloc w _).1
  have hP := peek_some hLW front he.get
  have hlt := h.lt
  unfold ky at *
  have HW := Lib.hid hW
  have HE := Lib.hid he
  have HB := Lib.hid hbW
  have HL := Lib.hid hLW
  have HR := Lib.hid hrk
  have HLT := Lib.hid hlt
  clear h hW hbW hLW hrk he hlt
  go_enter Try.func20, Try.ntmps20
  go_wp2_with (go_at_call 26; rw [← HW.out]; refine hP.mono ?_; rintro e w1 ⟨rfl, hbb⟩; have hb1 := Lib.hid hbb; clear hbb)
  have hb2 : Below W.heap.size W (w1.alloc (.cells #[.int .i64 n.s, .int .u64 n.g] 29)) := hb1.out.alloc hb1.out.size _
  have hw2 := heap_alloc w1 (.cells #[.int .i64 n.s, .int .u64 n.g] 29)
  have hw3 := HL.out.below hb2
  have hsz : w.heap.size < W.heap.size := lt_of_block HR.out
  have hsz1 := hb1.out.size
  have hR := remove_any hw3 HE.out
  unfold ky at hR
  refine hR.mono ?_
  rintro e w4 ⟨rfl, hI, hF⟩
  have hr4 : w4.heap[w.heap.size]? = some (.cells #[.int .i64 0, .int .u64 0] 29 (0, 0)) := by
    rw [hF.block _ (by simp; omega) (fun hh => by have := HLT.out _ hh; omega), hb2.block _ hsz]; exact HR.out
  have hs4 : w4.heap[w1.heap.size]? = some (.cells #[.int .i64 n.s, .int .u64 n.g] 29 (0, 0)) := by
    rw [hF.block _ (by simp) (fun hh => by have := HLT.out _ hh; omega)]; exact hw2.1
  have hFr : Fr (own B M l) w w4 := ((Fr.of_below HB.out _).trans ((Fr.of_below hb2 _).mono (fun k hk => .inl hk))).trans hF
  have c0 := cell_of_block (j := 0) hr4 rfl
  have c1 := cell_of_block (j := 1) hr4 rfl
  have f0 := frozen_of_block (j := 0) hr4
  have f1 := frozen_of_block (j := 1) hr4
  have d0 := cell_of_block (j := 0) hs4 rfl
  have d1 := cell_of_block (j := 1) hs4 rfl
  have hlt4 := lt_of_block hr4
  have HI := Lib.hid hI
  have HF := Lib.hid hFr
  have hown : ∀ k ∈ own B M l', k ∈ own B M l := fun k hk => by
    simp only [own, List.mem_cons, List.mem_map] at hk ⊢
    rcases hk with h | h | ⟨a, ha, h⟩
    · exact .inl h
    · exact .inr (.inl h)
    · refine .inr (.inr ⟨a, ?_, h⟩)
      rcases HE.out with ⟨_, rfl⟩ | ⟨_, rfl⟩ <;> simp [ha]
  have HO := Lib.hid hown
  clear hI hFr hF hw3 hw2 hb2 hr4 hs4 hP hR HW hsz hsz1 hown
  go_wp2
  refine bodyPost_ret (v := .tuple #[.agg #[.int .i64 n.s, .int .u64 n.g], .bool true]) (by simp [results, Try.results20, go_sem, c0, c1]) rfl ⟨rfl, ?_, ?_⟩
  · refine HI.out.heap fun k hk => ?_
    have hne : k ≠ w.heap.size := fun e => by have := HLT.out k (HO.out k hk); omega
    rw [set_other _ hne, set_other _ hne]
  · exact (HF.out.setCell _ _ (.inr (Nat.le_refl _))).setCell _ _ (.inr (Nat.le_refl _))

def curS (l : List Nd) (j : Nat) : Int := match l[j]? with | some n => n.s | none => 0
def curG (l : List Nd) (j : Nat) : Int := match l[j]? with | some n => n.g | none => 0

theorem cur_of {l : List Nd} {j : Nat} {n : Nd} (h : l[j]? = some n) : curS l j = n.s ∧ curG l j = n.g := by simp [curS, curG, h]

theorem next_at {B M : Nat} {l : List Nd} {w : World} (h : IsL w B M l) {j : Nat} (hj : j < l.length) :
    Calls Try.prog 27 #[.pointer (some ⟨B, 0, none⟩), ky (curS l j) (curG l j)] w fun e w' => e = .returned (.tuple #[ky (curS l (j + 1)) (curG l (j + 1)), .bool (decide (j + 1 < l.length))]) ∧ Below w.heap.size w w' := by
  have e0 : l = l.take j ++ l[j] :: l.drop (j + 1) := by rw [← List.drop_eq_getElem_cons hj, List.take_append_drop]
  obtain ⟨c1, c2⟩ := cur_of (List.getElem?_eq_getElem hj)
  rw [c1, c2]
  cases hd : l.drop (j + 1) with
  | nil =>
    rw [hd] at e0
    rw [e0] at h
    have hn : l.length ≤ j + 1 := List.drop_eq_nil_iff.1 hd
    have e1 : l[j + 1]? = none := List.getElem?_eq_none hn
    have e2 : decide (j + 1 < l.length) = false := by simp; omega
    have e3 : curS l (j + 1) = 0 := by simp [curS, e1]
    have e4 : curG l (j + 1) = 0 := by simp [curG, e1]
    rw [e2, e3, e4]
    exact next_last h
  | cons m rest =>
    rw [hd] at e0
    rw [e0] at h
    have hn : j + 1 < l.length := by
      rcases Nat.lt_or_ge (j + 1) l.length with h1 | h1
      · exact h1
      · rw [List.drop_eq_nil_iff.2 h1] at hd; cases hd
    have e1 : l[j + 1]? = some m := by
      have := List.getElem?_drop (xs := l) (i := j + 1) (j := 0)
      rw [hd] at this
      simpa using this.symm
    have e2 : decide (j + 1 < l.length) = true := by simp; omega
    obtain ⟨e3, e4⟩ := cur_of e1
    rw [e2, e3, e4]
    exact next_some h

theorem peek_first {B M : Nat} {l : List Nd} {w : World} (h : IsL w B M l) :
    Calls Try.prog 26 #[.pointer (some ⟨B, 0, none⟩), .bool true] w fun e w' => e = .returned (.tuple #[ky (curS l 0) (curG l 0), .bool (decide (0 < l.length))]) ∧ Below w.heap.size w w' := by
  cases l with
  | nil => exact peek_nil h true
  | cons n r => exact peek_some h true (by simp)

set_option maxHeartbeats 800000 in
theorem through_any {B M : Nat} {l : List Nd} {w : World} (h : IsL w B M l) (hlen : l.length ≤ 300) :
    Calls Try.prog 18 #[.pointer (some ⟨B, 0, none⟩), .int .i64 l.length] w fun e w' => e = .returned (.int .i64 l.length) ∧ Below w.heap.size w w' := by
  have hP := peek_first h
  have hlt := h.lt
  unfold ky at *
  have HL := Lib.hid h
  have HLT := Lib.hid hlt
  clear h hlt
  go_enter Try.func18, Try.ntmps18
  go_wp2_with (go_at_call 26; refine hP.mono ?_; rintro e w1 ⟨rfl, hbb⟩; have hb1 := Lib.hid hbb; clear hbb)
  have hs1 := hb1.out.size
  have hI1 := HL.out.below (hb1.out.alloc hs1 (.cells #[.int .i64 (curS l 0), .int .u64 (curG l 0)] 29))
  have hh1 := (heap_alloc w1 (.cells #[.int .i64 (curS l 0), .int .u64 (curG l 0)] 29)).1
  have hB1 : Below w.heap.size w (w1.alloc (.cells #[.int .i64 (curS l 0), .int .u64 (curG l 0)] 29)) := hb1.out.alloc hs1 _
  generalize hq : w1.heap.size = bh at *
  have hbh : w.heap.size ≤ bh := by omega
  clear hP
  go_loopw [6, 7, 8] (fun is n i wr => ∃ j : Nat, j ≤ l.length ∧ is = .bool (decide (j < l.length)) ∧ n = .int .i64 j ∧ i = .int .i64 j ∧ IsL wr B M l ∧ wr.heap[bh]? = some (.cells #[.int .i64 (curS l j), .int .u64 (curG l j)] 29 (0, 0)) ∧ Below w.heap.size w wr)
    (fun _ _ i _ => l.length - (intOf i).toNat)
  case atStart => exact ⟨0, Nat.zero_le _, rfl, rfl, rfl, hI1, hh1, hB1⟩
  case round =>
    obtain ⟨j, hj, rfl, rfl, rfl, hIr, hhr, hBr⟩ := hrel
    have hN := fun hlt => next_at hIr (j := j) hlt
    have c0 := cell_of_block (j := 0) hhr rfl
    have c1 := cell_of_block (j := 1) hhr rfl
    have f0 := frozen_of_block (j := 0) hhr
    have f1 := frozen_of_block (j := 1) hhr
    have hz := lt_of_block hhr
    have HIR := Lib.hid hIr
    have HHR := Lib.hid hhr
    have HBR := Lib.hid hBr
    clear hIr hhr hBr hI1 hh1 hB1 hs1 hq
    unfold ky at hN
    by_cases hlt : j < l.length
    · replace hN := hN hlt
      have hd : decide (j < l.length) = true := by simpa using hlt
      rw [hd]
      go_wp2_with (go_at_call 27; refine hN.mono ?_; rintro e w2 ⟨rfl, hbb⟩; have q0 := (hbb.cell (p := ⟨bh, 0, none⟩) hz).trans c0; have q1 := (hbb.cell (p := ⟨bh, 1, none⟩) hz).trans c1; have p0 := (hbb.frozen (p := ⟨bh, 0, none⟩) hz).trans f0; have p1 := (hbb.frozen (p := ⟨bh, 1, none⟩) hz).trans f1; have hz2 := Nat.lt_of_lt_of_le hz hbb.size; have HBB := Lib.hid hbb; clear hbb)
      go_roundw
      case rel =>
        have hI2 := HIR.out.below HBB.out
        have hh2 : w2.heap[bh]? = some (.cells #[.int .i64 (curS l j), .int .u64 (curG l j)] 29 (0, 0)) := by
          rw [HBB.out.block _ hz]; exact HHR.out
        have hb2 : Below w.heap.size w ((w2.setCell ⟨bh, 0, none⟩ (.int .i64 (curS l (j + 1)))).setCell ⟨bh, 1, none⟩ (.int .u64 (curG l (j + 1)))) :=
          ((HBR.out.trans (HBB.out.mono HBR.out.size)).setCell hbh _).setCell hbh _
        refine ⟨j + 1, by omega, rfl, by go_num, by go_num, ?_, ?_, ?_⟩
        · refine hI2.heap fun k hk => ?_
          have hk2 := hI2.lt k hk
          have hne : k ≠ bh := fun e => by have := HLT.out k hk; omega
          rw [Below.heap_alloc _ _ _ (by simp; exact hk2), set_other _ hne, set_other _ hne]
        · rw [Below.heap_alloc _ _ _ (by simp; exact hz2)]
          exact set_same _ (set_same _ hh2)
        · exact hb2.alloc hb2.size _
      case measure => simp [intOf]; omega
    · have hd : decide (j < l.length) = false := by simpa using hlt
      rw [hd]
      have : j = l.length := by omega
      subst this
      go_wp2
      go_ret
      exact ⟨rfl, HBR.out⟩

end Go.Proofs.Ytijiffgfodlepaa
