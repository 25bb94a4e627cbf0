/- References: the document's example, and the law's walk. -/
import Derived.Test.YtijiffgfodlepaaX
import Derived.Test.YtijiffgfodlepaaI
namespace Go.Proofs.Ytijiffgfodlepaa
open Go.RowKit Go.BigFrame Go.MapKept

theorem owned_any {R base : Nat} {v : Value} {l : List Rf} (w : World) (h : IsR w R base v l) (hlen : l.length ≤ 1000) :
    Calls Try.prog 7 #[.pointer (some ⟨R, 0, none⟩)] w fun e w' => ∃ q, e = .returned q ∧ w'.ownsRow w.heap.size 26 1 q (ofKind l 1 l.length).length (nums (ofKind l 1 l.length)) ∧ (ofKind l 1 l.length = [] → q = .slice none 0 0) ∧ Below w.heap.size w w' :=
  (callsIn_wide (n := 3)).1 (owned_in .wide 3 trivial trivial trivial rfl (Nat.le_refl _) w h hlen)

theorem endLent_any {R base : Nat} {v : Value} {l : List Rf} (w : World) (h : IsR w R base v l) (hlen : l.length ≤ 1000) :
    Calls Try.prog 12 #[.pointer (some ⟨R, 0, none⟩)] w fun e w' => e = .returned (.int .i64 (ofKind l 2 l.length).length) ∧ IsR w' R base v (endL l) ∧ Fr (rown R v) w w' :=
  (callsIn_wide (n := 3)).1 (endLent_in .wide 3 trivial trivial trivial rfl (Nat.le_refl _) w h hlen)

set_option maxHeartbeats 400000 in
theorem rone_any (k : Int) (h : 0 ≤ k) (h' : k < 256) (w : World) :
    Calls Try.prog 21 #[.int .u8 k] w fun e w' => e = .returned (ky k 1) ∧ Below w.heap.size w w' := by
  unfold ky
  go_enter Try.func21, Try.ntmps21
  go_wp2
  refine bodyPost_ret (v := .agg #[.int .i64 k, .int .u64 1]) (by simp [results, Try.results21, go_sem]) rfl ⟨rfl, ?_⟩
  exact below_alloc w _

set_option maxHeartbeats 800000 in
theorem over_spent {R base : Nat} {v : Value} {l : List Rf} {w : World} (h : IsR w R base v l) (hlen : l.length ≤ 1000) (i : Nat) {x : Rf} (hx : l[i]? = some x) (hk : x.k = 3) :
    Calls Try.prog 11 #[.pointer (some ⟨R, 0, none⟩), .int .u64 (i + 1)] w fun e w' => e = .returned (.int .i64 240) ∧ w = w' := by
  have hO := of_over h hlen i hx hk
  clear h hx hk
  go_enter Try.func11, Try.ntmps11
  go_wp2_with fail
  refine hO.mono ?_
  rintro e w' ⟨rfl, rfl⟩
  clear hO
  dsimp only
  go_wp2
  go_ret
  exact ⟨rfl, rfl⟩

theorem rown_ge {w : World} {R base : Nat} {v : Value} {l : List Rf} (h : IsR w R base v l) : ∀ k ∈ rown R v, base ≤ k := fun k hk => (rown_lt h k hk).1

set_option maxRecDepth 100000 in
set_option maxHeartbeats 1600000 in
theorem rworks_any (w : World) : Calls Try.prog 5 #[] w fun e w' => e = .returned (.bool true) ∧ Below w.heap.size w w' := by
  go_enter Try.func5, Try.ntmps5
  go_wp2_with fail
  refine (rnew_any w).mono ?_
  rintro e w1 ⟨rfl, hI1, hb1⟩
  have HI := Lib.hid hI1
  have HB := Lib.hid hb1
  clear hI1 hb1
  go_wp2_with fail
  refine (rone_any 1 (by omega) (by omega) w1).mono ?_
  rintro e w2 ⟨rfl, hb2⟩
  have HI2 := Lib.hid (HI.out.below hb2)
  have HB2 := Lib.hid (HB.out.trans (hb2.mono HB.out.size))
  have hz2 := HB2.out.size
  clear hb2 HI HB
  unfold ky
  go_wp2_with fail
  refine (own_any HI2.out (by simp) hz2 1 1).mono ?_
  rintro e w3 ⟨rfl, v3, hI3, hF3⟩
  have HB3 := Lib.hid (HB2.out.trans (hF3.below hz2 (rown_ge HI2.out)))
  have HI3 := Lib.hid hI3
  clear hI3 hF3 HI2 HB2
  dsimp only
  go_wp2_with fail
  refine (rone_any 2 (by omega) (by omega) w3).mono ?_
  rintro e w4 ⟨rfl, hb4⟩
  have HI4 := Lib.hid (HI3.out.below hb4)
  have HB4 := Lib.hid (HB3.out.trans (hb4.mono HB3.out.size))
  have hz4 := HB4.out.size
  clear hb4 HI3 HB3
  unfold ky
  dsimp only
  go_wp2_with fail
  refine (lent_any HI4.out (by simp) hz4 2 1).mono ?_
  rintro e w5 ⟨rfl, v5, hI5, hF5⟩
  have HB5 := Lib.hid (HB4.out.trans (hF5.below hz4 (rown_ge HI4.out)))
  have HI5 := Lib.hid hI5
  have hz5 := HB5.out.size
  clear hI5 hF5 HI4 HB4
  dsimp only
  go_wp2_with fail
  have hL := lend_any HI5.out (by simp) 1 (by omega) (by omega)
  have e1 : lendL ([] ++ [⟨1, 1, 1⟩] ++ [⟨2, 1, 2⟩]) 1 = ([⟨1, 1, 2⟩, ⟨2, 1, 2⟩], 0) := rfl
  rw [e1] at hL
  refine hL.mono ?_
  rintro e w6 ⟨rfl, hI6, hF6⟩
  have HB6 := Lib.hid (HB5.out.trans (hF6.below hz5 (rown_ge HI5.out)))
  have HI6 := Lib.hid hI6
  have hz6 := HB6.out.size
  clear hI6 hF6 HI5 HB5 hL e1
  dsimp only
  go_wp2_with fail
  have hE := endLent_any w6 HI6.out (by simp)
  have e2 : endL [⟨1, 1, 2⟩, ⟨2, 1, 2⟩] = [⟨1, 1, 3⟩, ⟨2, 1, 3⟩] := rfl
  have e3 : (ofKind [⟨1, 1, 2⟩, ⟨2, 1, 2⟩] 2 [(⟨1, 1, 2⟩ : Rf), ⟨2, 1, 2⟩].length).length = 2 := rfl
  rw [e2, e3] at hE
  refine hE.mono ?_
  rintro e w7 ⟨rfl, hI7, hF7⟩
  have HB7 := Lib.hid (HB6.out.trans (hF7.below hz6 (rown_ge HI6.out)))
  have HI7 := Lib.hid hI7
  have hz7 := HB7.out.size
  clear hI7 hF7 HI6 HB6 hE e2 e3
  dsimp only
  go_wp2_with fail
  refine (rof_some HI7.out (by simp) 0 rfl).mono ?_
  rintro e w8 ⟨rfl, hb8⟩
  have HI8 := Lib.hid (HI7.out.below hb8)
  have HB8 := Lib.hid (HB7.out.trans (hb8.mono HB7.out.size))
  clear hb8 HI7 HB7
  unfold ky
  dsimp only
  go_wp2_with fail
  have hv := (heap_alloc w8 (.cells #[.int .i64 1, .int .u64 1] 29)).1
  have hba := below_alloc w8 (.cells #[.int .i64 1, .int .u64 1] 29)
  have hI9 := HI8.out.below hba
  have hB9 := HB8.out.trans (hba.mono HB8.out.size)
  clear hba HI8 HB8
  generalize w8.alloc (.cells #[.int .i64 1, .int .u64 1] 29) = W at *
  generalize w8.heap.size = p3 at *
  clear w8
  have d0 : ∀ x, (ext W x).cell? ⟨p3, 0, none⟩ = some (.int .i64 1) := fun x => cell_of_block (((below_ext W x).block _ (lt_of_block hv)).trans hv) rfl
  have d1 : ∀ x, (ext W x).cell? ⟨p3, 1, none⟩ = some (.int .u64 1) := fun x => cell_of_block (((below_ext W x).block _ (lt_of_block hv)).trans hv) rfl
  have k1 : ∀ x, Calls Try.prog 21 #[.int .u8 1] (ext W x) fun e w'' => e = .returned (.agg #[.int .i64 1, .int .u64 1]) ∧ ∃ y, w'' = ext W y := fun x => calls_ext (rone_any 1 (by omega) (by omega) _)
  have k2 : ∀ x, Calls Try.prog 7 #[.pointer (some ⟨w.heap.size, 0, none⟩)] (ext W x) fun e w'' => e = .returned (.slice none 0 0) ∧ ∃ y, w'' = ext W y := fun x =>
    calls_ext ((owned_any _ (hI9.below (below_ext W x)) (by simp)).mono (by rintro e w' ⟨q, rfl, _, hq, hb⟩; exact ⟨by rw [hq rfl], hb⟩))
  have k3 : ∀ x, Calls Try.prog 11 #[.pointer (some ⟨w.heap.size, 0, none⟩), .int .u64 1] (ext W x) fun e w'' => e = .returned (.int .i64 240) ∧ ∃ y, w'' = ext W y := fun x =>
    calls_ext ((over_spent (hI9.below (below_ext W x)) (by simp) 0 rfl rfl).mono (by rintro e w' ⟨rfl, rfl⟩; exact ⟨rfl, Below.refl _ _⟩))
  have HBW := Lib.hid hB9
  clear hI9 hB9 hv
  refine region_ext (by kernel_rfl) (by kernel_rfl) ?_
  repeat (go_big_quiet_step (first | exact k1 _ | exact k2 _ | exact k3 _))
  refine wpQuiet_nil ?_
  rintro _ ⟨x, rfl⟩
  have hbx := HBW.out.trans ((below_ext W x).mono HBW.out.size)
  go_wp2
  go_ret
  exact ⟨rfl, hbx⟩

end Go.Proofs.Ytijiffgfodlepaa
