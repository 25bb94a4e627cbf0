/- The contracts of the linked list's functions that only read. -/
import Derived.Test.YtijiffgfodlepaaA
namespace Go.Proofs.Ytijiffgfodlepaa
open Go.RowKit Go.MapKept

def hd (l : List Nd) : Option Nat := l.head?.map Nd.b
def tl (l : List Nd) : Option Nat := l.getLast?.map Nd.b
def Chain (w : World) : Option Nat → List Nd → Prop
  | _, [] => True
  | pv, n :: r => w.heap[n.b]? = some (.cells #[.int .i64 n.s, .int .u64 n.g, pt (hd r), pt pv] 70 (0, 0)) ∧ Chain w (some n.b) r

/-- A list: its block B, its map's M, its nodes. -/
structure IsL (w : World) (B M : Nat) (l : List Nd) : Prop where
  bl : w.heap[B]? = some (.cells #[.map (some M), pt (hd l), pt (tl l)] 68 (0, 0))
  mp : MapIs w M l
  ch : Chain w none l
  ap : Apart l
  nd : (B :: M :: l.map Nd.b).Nodup

def find (l : List Nd) (s g : Int) : Option Nat := (l.find? (fun n => n.s == s && n.g == g)).map Nd.b

theorem cell_of_block {w : World} {b j : Nat} {cs : Array Value} {t : TypeId} {f : Nat × Nat} {v : Value} (h : w.heap[b]? = some (.cells cs t f)) (hv : cs[j]? = some v) : w.cell? ⟨b, j, none⟩ = some v := by
  simp [World.cell?, h, hv]
theorem frozen_of_block {w : World} {b j : Nat} {cs : Array Value} {t : TypeId} (h : w.heap[b]? = some (.cells cs t (0, 0))) : w.frozen? ⟨b, j, none⟩ = false := by
  simp [World.frozen?, h]
theorem lt_of_block {w : World} {b : Nat} {o : Obj} (h : w.heap[b]? = some o) : b < w.heap.size := (Array.getElem?_eq_some_iff.1 h).1

theorem IsL.look {w : World} {B M : Nat} {l : List Nd} (h : IsL w B M l) {s g : Int} (hk : Wf s g) :
    (Instr.lookup 65 (.map (some M)) (ky s g) false).run Try.prog w = .ok (pt (find l s g)) w := by
  unfold find
  cases hf : l.find? (fun n => n.s == s && n.g == g) with
  | none => exact h.mp.look_none hk (fun n hn hi => by
      have := List.find?_eq_none.1 hf n hn
      simp at this
      exact this hi.1 hi.2)
  | some n =>
    have h1 := List.find?_some hf
    simp only [Bool.and_eq_true, beq_iff_eq] at h1
    have := h.mp.look_some h.ap (List.mem_of_find?_eq_some hf)
    rw [← h1.1, ← h1.2]
    exact this

theorem MapIs.lt {w : World} {M : Nat} {l : List Nd} (h : MapIs w M l) : M < w.heap.size := by
  obtain ⟨_, es, clock, hb, _⟩ := h
  exact lt_of_block hb

theorem Chain.heap {w w' : World} : ∀ {l : List Nd} {pv : Option Nat}, Chain w pv l → (∀ n ∈ l, w'.heap[n.b]? = w.heap[n.b]?) → Chain w' pv l
  | [], _, _, _ => trivial
  | n :: _, _, h, hw => ⟨(hw n (by simp)).trans h.1, Chain.heap h.2 fun m hm => hw m (by simp [hm])⟩

theorem Chain.lt {w : World} : ∀ {l : List Nd} {pv : Option Nat}, Chain w pv l → ∀ n ∈ l, n.b < w.heap.size
  | n :: r, _, h, m, hm => by
    rcases List.mem_cons.1 hm with rfl | hm
    · exact lt_of_block h.1
    · exact Chain.lt h.2 m hm

/-- All blocks of a list. -/
def own (B M : Nat) (l : List Nd) : List Nat := B :: M :: l.map Nd.b

theorem IsL.lt {w : World} {B M : Nat} {l : List Nd} (h : IsL w B M l) : ∀ k ∈ own B M l, k < w.heap.size := by
  intro k hk
  simp only [own, List.mem_cons, List.mem_map] at hk
  rcases hk with rfl | rfl | ⟨n, hn, rfl⟩
  · exact lt_of_block h.bl
  · exact h.mp.lt
  · exact h.ch.lt n hn

theorem IsL.heap {w w' : World} {B M : Nat} {l : List Nd} (h : IsL w B M l) (hw : ∀ k ∈ own B M l, w'.heap[k]? = w.heap[k]?) : IsL w' B M l :=
  ⟨(hw B (by simp [own])).trans h.bl, h.mp.heap (hw M (by simp [own])), h.ch.heap (fun n hn => hw n.b (by simp only [own, List.mem_cons, List.mem_map]; exact .inr (.inr ⟨n, hn, rfl⟩))), h.ap, h.nd⟩

theorem IsL.below {w w' : World} {B M : Nat} {l : List Nd} (h : IsL w B M l) (hb : Below w.heap.size w w') : IsL w' B M l :=
  h.heap fun k hk => hb.block k (h.lt k hk)

theorem IsL.fr {w w' : World} {B M : Nat} {l : List Nd} (h : IsL w B M l) {o : List Nat} (hb : Fr o w w') (ho : ∀ k ∈ own B M l, k ∉ o) : IsL w' B M l :=
  h.heap fun k hk => hb.block k (h.lt k hk) (ho k hk)

theorem Chain.mid {w : World} : ∀ {pre : List Nd} {n : Nd} {rest : List Nd} {pv : Option Nat}, Chain w pv (pre ++ n :: rest) →
    w.heap[n.b]? = some (.cells #[.int .i64 n.s, .int .u64 n.g, pt (hd rest), pt (match pre with | [] => pv | _ => tl pre)] 70 (0, 0))
  | [], _, _, _, h => h.1
  | [m], n, rest, _, h => h.2.1
  | m :: k :: pre, n, rest, _, h => by
    have := Chain.mid (pre := k :: pre) h.2
    simpa [tl] using this

/-- A look-up in every later world. -/
theorem IsL.looks {w : World} {B M : Nat} {l : List Nd} (h : IsL w B M l) {s g : Int} (hk : Wf s g) :
    (∀ o n, (Instr.lookup 65 (.map (some M)) (ky s g) false).run Try.prog ((w.alloc o).drewN n) = .ok (pt (find l s g)) ((w.alloc o).drewN n)) ∧
    ∀ o o' n, (Instr.lookup 65 (.map (some M)) (ky s g) false).run Try.prog (((w.alloc o).alloc o').drewN n) = .ok (pt (find l s g)) (((w.alloc o).alloc o').drewN n) :=
  ⟨fun o n => (h.below (w' := (w.alloc o).drewN n) ⟨rfl, rfl, rfl, by simp, fun k hk => Below.heap_alloc w o k hk⟩).look hk,
   fun o o' n => (h.below (w' := ((w.alloc o).alloc o').drewN n) ⟨rfl, rfl, rfl, by simp; omega, fun k hk => by
      show ((w.alloc o).alloc o').heap[k]? = _
      rw [Below.heap_alloc _ _ _ (by simp; omega), Below.heap_alloc _ _ _ hk]⟩).look hk⟩

theorem pt_form (o : Option Nat) : ∃ p, pt o = .pointer p ∧ p.isSome = o.isSome := ⟨_, rfl, by simp⟩

set_option maxHeartbeats 400000 in
theorem has_any {B M : Nat} {l : List Nd} {w : World} (h : IsL w B M l) {s g : Int} (hk : Wf s g) :
    Calls Try.prog 16 #[.pointer (some ⟨B, 0, none⟩), ky s g] w fun e w' => e = .returned (.bool (find l s g).isSome) ∧ Below w.heap.size w w' := by
  have hB := cell_of_block (j := 0) h.bl rfl
  have hBlt := lt_of_block h.bl
  have hl1 := (h.looks hk).1
  obtain ⟨p, hp, hp1⟩ := pt_form (find l s g)
  rw [hp] at hl1
  rw [← hp1]
  clear hp hp1 hk h
  unfold ky at *
  go_enter Try.func16, Try.ntmps16
  go_wp2
  go_quiet (fail)
  go_wp2
  go_ret
  exact ⟨rfl, ⟨rfl, rfl, rfl, by simp, fun k hk => Below.heap_alloc w _ k hk⟩⟩

set_option maxHeartbeats 400000 in
theorem end_any {B M : Nat} {l : List Nd} {w : World} (h : IsL w B M l) (front : Bool) :
    Calls Try.prog 30 #[.pointer (some ⟨B, 0, none⟩), .bool front] w fun e w' => e = .returned (pt (if front then hd l else tl l)) ∧ w = w' := by
  have hB1 := cell_of_block (j := 1) h.bl rfl
  have hB2 := cell_of_block (j := 2) h.bl rfl
  unfold pt at *
  cases front
  all_goals
    go_enter Try.func30, Try.ntmps30
    go_wp2
    go_ret
    exact ⟨rfl, rfl⟩

set_option maxHeartbeats 400000 in
theorem len_any {B M : Nat} {l : List Nd} {w : World} (h : IsL w B M l) :
    Calls Try.prog 19 #[.pointer (some ⟨B, 0, none⟩)] w fun e w' => e = .returned (.int .i64 l.length) ∧ w = w' := by
  have hB := cell_of_block (j := 0) h.bl rfl
  have hl : ∀ ty, (Builtin.len_ #[65] ty #[.map (some M)]).run Try.prog w = .ok (.int .i64 l.length) w := by
    intro ty
    obtain ⟨_, es, clock, hb, hp⟩ := h.mp
    have := hp.length_eq
    simp at this
    simp [Builtin.len_, run_underlying Try.underlying65, MapKept.run_getObj_map hb, goInt, Result.andThen, this]
  go_enter Try.func19, Try.ntmps19
  go_wp2
  go_ret
  exact ⟨rfl, rfl⟩

theorem below_alloc (w : World) (o : Obj) : Below w.heap.size w (w.alloc o) := (Below.refl _ _).alloc (Nat.le_refl _) _

theorem end_nil {B M : Nat} {w : World} (h : IsL w B M []) (front : Bool) :
    Calls Try.prog 30 #[.pointer (some ⟨B, 0, none⟩), .bool front] w fun e w' => e = .returned (.pointer none) ∧ w = w' :=
  (end_any h front).mono fun e w' ⟨he, hw⟩ => ⟨by rw [he]; cases front <;> rfl, hw⟩

theorem end_some {B M : Nat} {l : List Nd} {w : World} (h : IsL w B M l) (front : Bool) {b : Nat} (hb : (if front then hd l else tl l) = some b) :
    Calls Try.prog 30 #[.pointer (some ⟨B, 0, none⟩), .bool front] w fun e w' => e = .returned (.pointer (some ⟨b, 0, none⟩)) ∧ w = w' :=
  (end_any h front).mono fun e w' ⟨he, hw⟩ => ⟨by rw [he, hb]; rfl, hw⟩

set_option maxHeartbeats 400000 in
theorem peek_nil {B M : Nat} {w : World} (h : IsL w B M []) (front : Bool) :
    Calls Try.prog 26 #[.pointer (some ⟨B, 0, none⟩), .bool front] w fun e w' => e = .returned (.tuple #[ky 0 0, .bool false]) ∧ Below w.heap.size w w' := by
  have h' := h.below (below_alloc w (.cells #[.int .i64 0, .int .u64 0] 29))
  unfold ky
  go_enter Try.func26, Try.ntmps26
  go_wp2_with (go_at_call 30; refine (end_nil h' front).mono ?_; rintro e w' ⟨rfl, rfl⟩)
  go_outline
  refine bodyPost_ret (v := .tuple #[.agg #[.int .i64 0, .int .u64 0], .bool false]) (by simp [results, Try.results26, go_sem]) rfl ⟨rfl, below_alloc _ _⟩

theorem one_end {l : List Nd} {front : Bool} {n : Nd} (h : (if front then l.head? else l.getLast?) = some n) : (if front then hd l else tl l) = some n.b ∧ n ∈ l := by
  cases front
  · exact ⟨by simpa [tl] using congrArg (Option.map Nd.b) h, List.mem_of_getLast? (by simpa using h)⟩
  · exact ⟨by simpa [hd] using congrArg (Option.map Nd.b) h, List.mem_of_head? (by simpa using h)⟩

theorem Chain.at {w : World} {l : List Nd} {pv : Option Nat} (h : Chain w pv l) {n : Nd} (hn : n ∈ l) : ∃ x y, w.heap[n.b]? = some (.cells #[.int .i64 n.s, .int .u64 n.g, x, y] 70 (0, 0)) := by
  obtain ⟨pre, rest, rfl⟩ := List.append_of_mem hn
  exact ⟨_, _, h.mid⟩

set_option maxHeartbeats 400000 in
theorem peek_some {B M : Nat} {l : List Nd} {w : World} (h : IsL w B M l) (front : Bool) {n : Nd} (hn : (if front then l.head? else l.getLast?) = some n) :
    Calls Try.prog 26 #[.pointer (some ⟨B, 0, none⟩), .bool front] w fun e w' => e = .returned (.tuple #[ky n.s n.g, .bool true]) ∧ Below w.heap.size w w' := by
  have h' := h.below (below_alloc w (.cells #[.int .i64 0, .int .u64 0] 29))
  obtain ⟨hb, hm⟩ := one_end hn
  obtain ⟨x, y, hx⟩ := h.ch.at hm
  have hlt := lt_of_block hx
  have c0 := cell_of_block (j := 0) hx rfl
  have c1 := cell_of_block (j := 1) hx rfl
  unfold ky
  go_enter Try.func26, Try.ntmps26
  go_wp2_with (go_at_call 30; refine (end_some h' front hb).mono ?_; rintro e w' ⟨rfl, rfl⟩)
  go_outline
  refine bodyPost_ret (v := .tuple #[.agg #[.int .i64 n.s, .int .u64 n.g], .bool true]) (by simp [results, Try.results26, go_sem]) rfl ⟨rfl, below_alloc _ _⟩

end Go.Proofs.Ytijiffgfodlepaa
