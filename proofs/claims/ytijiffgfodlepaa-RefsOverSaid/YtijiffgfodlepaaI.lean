/- The document's example. -/
import Derived.Test.YtijiffgfodlepaaH
namespace Go.Proofs.Ytijiffgfodlepaa
open Go.RowKit Go.MapKept Go.BigFrame

set_option maxHeartbeats 400000 in
theorem new_any (w : World) :
    Calls Try.prog 15 #[] w fun e w' => ∃ B M, e = .returned (.pointer (some ⟨B, 0, none⟩)) ∧ w.heap.size ≤ B ∧ w.heap.size ≤ M ∧ IsL w' B M [] ∧ Below w.heap.size w w' := by
  have hmm := @run_makeMap Try.prog
  go_enter Try.func15, Try.ntmps15
  go_wp2
  go_ret
  have h0 := heap_alloc w (.map #[] 0)
  have h1 := heap_alloc (w.alloc (.map #[] 0)) (.cells #[.map (some w.heap.size), .pointer none, .pointer none] 68)
  have e0 : (w.alloc (.map #[] 0)).heap.size = w.heap.size + 1 := by simp
  rw [e0] at h1
  refine ⟨w.heap.size + 1, w.heap.size, rfl, by omega, Nat.le_refl _, ⟨h1.1, ⟨fun n hn => by simp at hn, #[], 0, ?_, .refl _⟩, trivial, List.Pairwise.nil, by simp⟩, (below_alloc w _).alloc (by simp) _⟩
  rw [Below.heap_alloc _ _ _ (by simp)]
  exact h0.1

set_option maxHeartbeats 400000 in
theorem one_any (k : Int) (h : 0 ≤ k) (h' : k < 256) (w : World) :
    Calls Try.prog 25 #[.int .u8 k] w fun e w' => e = .returned (ky k 1) ∧ Below w.heap.size w w' := by
  unfold ky
  go_enter Try.func25, Try.ntmps25
  go_wp2
  refine bodyPost_ret (v := .agg #[.int .i64 k, .int .u64 1]) (by simp [results, Try.results25, go_sem]) rfl ⟨rfl, ?_⟩
  exact below_alloc w _

theorem Fr.below {o : List Nat} {a b : World} (h : Fr o a b) {n : Nat} (hn : n ≤ a.heap.size) (ho : ∀ k ∈ o, n ≤ k) : Below n a b :=
  ⟨h.os, h.tape, h.output, h.size, fun k hk => h.block k (by omega) (fun hm => by have := ho k hm; omega)⟩

theorem find_head (n : Nd) (l : List Nd) : find (n :: l) n.s n.g = some n.b := by simp [find]

theorem wf11 : Wf 1 1 := by constructor <;> decide
theorem wf21 : Wf 2 1 := by constructor <;> decide

set_option maxRecDepth 100000 in
set_option maxHeartbeats 1600000 in
theorem works_any (w : World) : Calls Try.prog 14 #[] w fun e w' => e = .returned (.bool true) ∧ Below w.heap.size w w' := by
  go_enter Try.func14, Try.ntmps14
  go_wp2_with fail
  refine (new_any w).mono ?_
  rintro e w1 ⟨B, M, rfl, hB, hM, hI1, hb1⟩
  have HI := Lib.hid hI1
  have HB := Lib.hid hb1
  clear hI1 hb1
  go_wp2_with fail
  refine (one_any 1 (by omega) (by omega) w1).mono ?_
  rintro e w2 ⟨rfl, hb2⟩
  have HI2 := Lib.hid (HI.out.below hb2)
  have HB2 := Lib.hid (HB.out.trans (hb2.mono HB.out.size))
  clear hb2 HI HB
  unfold ky
  go_wp2_with fail
  refine (push_first HI2.out wf11 false).mono ?_
  rintro e w3 ⟨rfl, b1, hb1, hI3, hF3⟩
  have hz2 := HB2.out.size
  have HB3 := Lib.hid (HB2.out.trans (hF3.below hz2 (by simp [own]; exact ⟨hB, hM⟩)))
  have HI3 := Lib.hid hI3
  clear hI3 hF3 HI2 HB2
  dsimp only
  go_wp2_with fail
  refine (one_any 2 (by omega) (by omega) w3).mono ?_
  rintro e w4 ⟨rfl, hb4⟩
  have HI4 := Lib.hid (HI3.out.below hb4)
  have HB4 := Lib.hid (HB3.out.trans (hb4.mono HB3.out.size))
  have hz4 := HB4.out.size
  clear hb4 HI3 HB3
  unfold ky
  go_wp2_with fail
  refine (push_front HI4.out (by simp [Nd.is]) wf21).mono ?_
  rintro e w5 ⟨rfl, b2, hb2, hI5, hF5⟩
  have HB5 := Lib.hid (HB4.out.trans (hF5.below hz4 (by simp [own]; exact ⟨hB, hM, Nat.le_trans hz2 hb1⟩)))
  have HI5 := Lib.hid hI5
  clear hI5 hF5 HI4 HB4
  dsimp only
  go_wp2_with fail
  refine (one_any 1 (by omega) (by omega) w5).mono ?_
  rintro e w6 ⟨rfl, hb6⟩
  have HI6 := Lib.hid (HI5.out.below hb6)
  have HB6 := Lib.hid (HB5.out.trans (hb6.mono HB5.out.size))
  clear hb6 HI5 HB5
  unfold ky
  go_wp2_with fail
  refine (push_there (n := ⟨1, 1, b1⟩) HI6.out (by simp) true).mono ?_
  rintro e w7 ⟨rfl, hb7⟩
  have HI7 := Lib.hid (HI6.out.below hb7)
  have HB7 := Lib.hid (HB6.out.trans (hb7.mono HB6.out.size))
  clear hb7 HI6 HB6
  dsimp only
  go_wp2_with fail
  refine (peek_some (n := ⟨2, 1, b2⟩) HI7.out true (by simp)).mono ?_
  rintro e w8 ⟨rfl, hb8⟩
  have HI8 := Lib.hid (HI7.out.below hb8)
  have HB8 := Lib.hid (HB7.out.trans (hb8.mono HB7.out.size))
  clear hb8 HI7 HB7
  unfold ky
  dsimp only
  go_wp2_with fail
  have hx1 := heap_alloc w8 (.cells #[.int .i64 2, .int .u64 1] 29)
  have HX1 := Lib.hid hx1.1
  have HO := Lib.hid HI8.out.lt
  have HI9 := Lib.hid (HI8.out.below (below_alloc w8 (.cells #[.int .i64 2, .int .u64 1] 29)))
  have HB9 := Lib.hid (HB8.out.alloc HB8.out.size (.cells #[.int .i64 2, .int .u64 1] 29))
  have hz8 := HB8.out.size
  clear hx1 HI8 HB8
  generalize w8.alloc (.cells #[.int .i64 2, .int .u64 1] 29) = w9 at *
  generalize w8.heap.size = p1 at *
  clear w8
  refine (one_any 2 (by omega) (by omega) w9).mono ?_
  rintro e w10 ⟨rfl, hb10⟩
  have HX2 := Lib.hid ((hb10.block _ (lt_of_block HX1.out)).trans HX1.out)
  have HI10 := Lib.hid (HI9.out.below hb10)
  have HB10 := Lib.hid (HB9.out.trans (hb10.mono HB9.out.size))
  clear hb10 HI9 HB9 HX1
  unfold ky
  dsimp only
  go_wp2_with fail
  refine (next_some (pre := []) (n := ⟨2, 1, b2⟩) (m := ⟨1, 1, b1⟩) (rest := []) HI10.out).mono ?_
  rintro e w11 ⟨rfl, hb11⟩
  have HX3 := Lib.hid ((hb11.block _ (lt_of_block HX2.out)).trans HX2.out)
  have HI11 := Lib.hid (HI10.out.below hb11)
  have HB11 := Lib.hid (HB10.out.trans (hb11.mono HB10.out.size))
  clear hb11 HI10 HB10 HX2
  unfold ky
  dsimp only
  go_wp2_with fail
  have hy1 := heap_alloc w11 (.cells #[.int .i64 1, .int .u64 1] 29)
  have hba := below_alloc w11 (.cells #[.int .i64 1, .int .u64 1] 29)
  have HY1 := Lib.hid hy1.1
  have HX4 := Lib.hid ((hba.block _ (lt_of_block HX3.out)).trans HX3.out)
  have HI12 := Lib.hid (HI11.out.below hba)
  have HO2 := Lib.hid HI11.out.lt
  have HB12 := Lib.hid (HB11.out.trans (hba.mono HB11.out.size))
  have hz11 := HB11.out.size
  have hxy := lt_of_block HX3.out
  clear hy1 hba HI11 HB11 HX3
  generalize w11.alloc (.cells #[.int .i64 1, .int .u64 1] 29) = w12 at *
  generalize w11.heap.size = p2 at *
  clear w11
  refine (pop_any (front := false) (n := ⟨1, 1, b1⟩) (l' := [⟨2, 1, b2⟩]) HI12.out (.inr ⟨rfl, rfl⟩)).mono ?_
  rintro e w13 ⟨rfl, hI13, hF13⟩
  have hz12 := HB12.out.size
  have HX5 := Lib.hid ((hF13.block _ (lt_of_block HX4.out) (fun hm => by have := HO.out _ hm; omega)).trans HX4.out)
  have HY2 := Lib.hid ((hF13.block _ (lt_of_block HY1.out) (fun hm => by have := HO2.out _ hm; omega)).trans HY1.out)
  have HB13 := Lib.hid (HB12.out.trans (hF13.below hz12 (by simp [own]; exact ⟨hB, hM, by omega, by omega⟩)))
  have HI13 := Lib.hid hI13
  clear hI13 hF13 HB12 HI12 HY1 HX4 HO HO2
  unfold ky
  dsimp only
  go_wp2_with fail
  have hv := (heap_alloc w13 (.cells #[.int .i64 1, .int .u64 1] 29)).1
  have hba := below_alloc w13 (.cells #[.int .i64 1, .int .u64 1] 29)
  have hI14 := HI13.out.below hba
  have hX6 := (hba.block _ (lt_of_block HX5.out)).trans HX5.out
  have hY3 := (hba.block _ (lt_of_block HY2.out)).trans HY2.out
  have hB14 := HB13.out.trans (hba.mono HB13.out.size)
  clear hba HI13 HX5 HY2 HB13
  generalize w13.alloc (.cells #[.int .i64 1, .int .u64 1] 29) = W at *
  generalize w13.heap.size = p3 at *
  clear w13
  have a0 : ∀ x, (ext W x).cell? ⟨p1, 0, none⟩ = some (.int .i64 2) := fun x => cell_of_block (((below_ext W x).block _ (lt_of_block hX6)).trans hX6) rfl
  have a1 : ∀ x, (ext W x).cell? ⟨p1, 1, none⟩ = some (.int .u64 1) := fun x => cell_of_block (((below_ext W x).block _ (lt_of_block hX6)).trans hX6) rfl
  have b0 : ∀ x, (ext W x).cell? ⟨p2, 0, none⟩ = some (.int .i64 1) := fun x => cell_of_block (((below_ext W x).block _ (lt_of_block hY3)).trans hY3) rfl
  have b1 : ∀ x, (ext W x).cell? ⟨p2, 1, none⟩ = some (.int .u64 1) := fun x => cell_of_block (((below_ext W x).block _ (lt_of_block hY3)).trans hY3) rfl
  have d0 : ∀ x, (ext W x).cell? ⟨p3, 0, none⟩ = some (.int .i64 1) := fun x => cell_of_block (((below_ext W x).block _ (lt_of_block hv)).trans hv) rfl
  have d1 : ∀ x, (ext W x).cell? ⟨p3, 1, none⟩ = some (.int .u64 1) := fun x => cell_of_block (((below_ext W x).block _ (lt_of_block hv)).trans hv) rfl
  have k1 : ∀ x, Calls Try.prog 25 #[.int .u8 1] (ext W x) fun e w'' => e = .returned (.agg #[.int .i64 1, .int .u64 1]) ∧ ∃ y, w'' = ext W y := fun x => calls_ext (one_any 1 (by omega) (by omega) _)
  have k2 : ∀ x, Calls Try.prog 25 #[.int .u8 2] (ext W x) fun e w'' => e = .returned (.agg #[.int .i64 2, .int .u64 1]) ∧ ∃ y, w'' = ext W y := fun x => calls_ext (one_any 2 (by omega) (by omega) _)
  have k3 : ∀ x, Calls Try.prog 19 #[.pointer (some ⟨B, 0, none⟩)] (ext W x) fun e w'' => e = .returned (.int .i64 1) ∧ ∃ y, w'' = ext W y := fun x =>
    calls_ext ((len_any (hI14.below (below_ext W x))).mono (by rintro e w' ⟨rfl, rfl⟩; exact ⟨rfl, Below.refl _ _⟩))
  have HBW := Lib.hid hB14
  clear hI14 hX6 hY3 hB14 hv hb1 hb2
  refine region_ext (by kernel_rfl) (by kernel_rfl) ?_
  repeat (go_big_quiet_step (first | exact k1 _ | exact k2 _ | exact k3 _))
  refine wpQuiet_nil ?_
  rintro _ ⟨x, rfl⟩
  have hbx := HBW.out.trans ((below_ext W x).mono HBW.out.size)
  go_wp2
  go_ret
  exact ⟨rfl, hbx⟩

end Go.Proofs.Ytijiffgfodlepaa
