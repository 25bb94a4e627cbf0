/- The words for a linked list with its map, and what the map's operations give. -/
import Derived.Test.YtijiffgfodlepaaProg
import Derived.Maps.Keyed
import Derived.DeepKeys4
import Derived.WalkKit
import Derived.WalkSpells
import Derived.WalkLawsBesides
import Derived.Deep.QuietTactic
import Derived.BigQuiet
import Derived.StillTailTactics
namespace Go.Proofs.Ytijiffgfodlepaa
open Go.RowKit Go.MapKept

theorem keyed29 : Maps.Keyed Try.prog 29 :=
  Maps.Keyed.of_law (deep_law_laid (P := Try.prog) (m := 5) (by kernel_rfl) (by decide) (of_decide_eq_true (by kernel_rfl)) (by kernel_rfl) (by kernel_rfl))

def ky (s g : Int) : Value := .agg #[.int .i64 s, .int .u64 g]
def Wf (s g : Int) : Prop := (Lit.int .i64 s).wf = true ∧ (Lit.int .u64 g).wf = true

theorem key_of {s g : Int} (h : Wf s g) : ∃ l, keyOf Try.prog 29 (ky s g) = some l := by
  have e1 : Try.prog.keyType 29 = true := by kernel_rfl
  have e2 : ∀ s g : Int, (ky s g).formed Try.prog 29 = true := fun s g => by kernel_rfl
  have e3 : Try.prog.cellsOf 29 = 2 := by kernel_rfl
  have e4 : Try.prog.cellsOf 3 = 1 := by kernel_rfl
  have e5 : Try.prog.cellsOf 26 = 1 := by kernel_rfl
  obtain ⟨k, hk⟩ : ∃ k, Try.prog.types.size = k + 1 := ⟨Try.prog.types.size - 1, by kernel_rfl⟩
  simp only [keyOf, Try.underlying29, e1, e2, Bool.and_self, if_true, hk]
  simp [Program.keyLits, Try.underlying29, Try.underlying3, Try.underlying26, ky, Value.cells, e3, e4, e5, h.1, h.2]

structure Nd where
  s : Int
  g : Int
  b : Nat

def pt (o : Option Nat) : Value := .pointer (o.map fun b => ⟨b, 0, none⟩)
def Nd.e (n : Nd) : Value × Value := (ky n.s n.g, pt (some n.b))
def Nd.is (n : Nd) (s g : Int) : Prop := n.s = s ∧ n.g = g

/-- Block M is a map of just these entries. -/
def MapIs (w : World) (M : Nat) (l : List Nd) : Prop :=
  (∀ n ∈ l, Wf n.s n.g) ∧ ∃ es clock, w.heap[M]? = some (.map es clock) ∧ (es.toList.map fun e => (e.key, e.val)).Perm (l.map Nd.e)

theorem ky_inj {s g s' g' : Int} (h : ky s g = ky s' g') : s = s' ∧ g = g' := by
  simp [ky] at h; exact h

theorem MapIs.heap {w w' : World} {M : Nat} {l : List Nd} (h : MapIs w M l) (hw : w'.heap[M]? = w.heap[M]?) : MapIs w' M l := by
  obtain ⟨hf, es, clock, hb, hp⟩ := h
  exact ⟨hf, es, clock, hw.trans hb, hp⟩

theorem MapIs.perm {w : World} {M : Nat} {l l' : List Nd} (h : MapIs w M l) (hl : l.Perm l') : MapIs w M l' := by
  obtain ⟨hf, es, clock, hb, hp⟩ := h
  exact ⟨fun n hn => hf n (hl.mem_iff.2 hn), es, clock, hb, hp.trans (hl.map _)⟩

theorem MapIs.keys {es : List MapEntry} {l : List Nd} (hf : ∀ n ∈ l, Wf n.s n.g) (hp : (es.map fun e => (e.key, e.val)).Perm (l.map Nd.e)) : ∀ e ∈ es, ∃ k, keyOf Try.prog 29 e.key = some k := by
  intro e he
  have : (e.key, e.val) ∈ l.map Nd.e := hp.mem_iff.1 (List.mem_map.2 ⟨e, he, rfl⟩)
  obtain ⟨n, hn, e1⟩ := List.mem_map.1 this
  simp only [Nd.e, Prod.mk.injEq] at e1
  rw [← e1.1]
  exact key_of (hf n hn)

theorem MapIs.node {es : List MapEntry} {l : List Nd} (hp : (es.map fun e => (e.key, e.val)).Perm (l.map Nd.e)) {e : MapEntry} (he : e ∈ es) : ∃ n ∈ l, n.e = (e.key, e.val) := by
  have : (e.key, e.val) ∈ l.map Nd.e := hp.mem_iff.1 (List.mem_map.2 ⟨e, he, rfl⟩)
  obtain ⟨n, hn, e1⟩ := List.mem_map.1 this
  exact ⟨n, hn, e1⟩

/-- A key that is not in. -/
theorem MapIs.look_none {w : World} {M : Nat} {l : List Nd} (h : MapIs w M l) {s g : Int} (hk : Wf s g) (hn : ∀ n ∈ l, ¬ n.is s g) :
    (Instr.lookup 65 (.map (some M)) (ky s g) false).run Try.prog w = .ok (.pointer none) w := by
  obtain ⟨hf, es, clock, hb, hp⟩ := h
  obtain ⟨kl, hkey⟩ := key_of hk
  rcases keyed29.find w hkey es.toList (MapIs.keys hf hp) with ⟨h1, h2⟩ | ⟨j, e, h1, h2, h3⟩
  · simp [Instr.lookup, run_underlying Try.underlying65, MapKept.run_getObj_map hb, keyed29.check w _ hkey, h1, Result.andThen]
  · exfalso
    obtain ⟨n, hnl, he⟩ := MapIs.node hp (List.mem_of_getElem? h2)
    simp only [Nd.e, h3, Prod.mk.injEq] at he
    exact hn n hnl (ky_inj he.1)

def Apart (l : List Nd) : Prop := l.Pairwise fun m n => ¬ m.is n.s n.g

theorem Apart.eq {l : List Nd} (h : Apart l) {m n : Nd} (hm : m ∈ l) (hn : n ∈ l) (e : m.is n.s n.g) : m = n := by
  induction l with
  | nil => cases hm
  | cons x r ih =>
    obtain ⟨h1, h2⟩ := List.pairwise_cons.1 h
    rcases List.mem_cons.1 hm with rfl | hm' <;> rcases List.mem_cons.1 hn with rfl | hn'
    · rfl
    · exact absurd e (h1 _ hn')
    · exact absurd ⟨e.1.symm, e.2.symm⟩ (h1 _ hm')
    · exact ih h2 hm' hn'

theorem MapIs.look_some {w : World} {M : Nat} {l : List Nd} (h : MapIs w M l) (ha : Apart l) {n : Nd} (hn : n ∈ l) :
    (Instr.lookup 65 (.map (some M)) (ky n.s n.g) false).run Try.prog w = .ok (pt (some n.b)) w := by
  obtain ⟨hf, es, clock, hb, hp⟩ := h
  obtain ⟨kl, hkey⟩ := key_of (hf n hn)
  rcases keyed29.find w hkey es.toList (MapIs.keys hf hp) with ⟨h1, h2⟩ | ⟨j, e, h1, h2, h3⟩
  · exfalso
    have : n.e ∈ es.toList.map fun e => (e.key, e.val) := hp.mem_iff.2 (List.mem_map.2 ⟨n, hn, rfl⟩)
    obtain ⟨e, he, e1⟩ := List.mem_map.1 this
    simp only [Nd.e, Prod.mk.injEq] at e1
    exact h2 e he e1.1
  · obtain ⟨m, hm, he⟩ := MapIs.node hp (List.mem_of_getElem? h2)
    simp only [Nd.e, h3, Prod.mk.injEq] at he
    have : m = n := ha.eq hm hn (ky_inj he.1)
    subst this
    simp [Instr.lookup, run_underlying Try.underlying65, MapKept.run_getObj_map hb, keyed29.check w _ hkey, h1, Result.andThen, he.2]

theorem heap_set (w : World) (M : Nat) (o : Obj) (hM : M < w.heap.size) : (w.heap.setIfInBounds M o)[M]? = some o := by simp [hM]

/-- What one block more, or one block turned, leaves alone. -/
structure Fr (own : List Nat) (w w' : World) : Prop where
  os : w'.os = w.os
  tape : w'.tape = w.tape
  output : w'.output = w.output
  size : w.heap.size ≤ w'.heap.size
  block : ∀ k, k < w.heap.size → k ∉ own → w'.heap[k]? = w.heap[k]?

theorem Fr.refl (own : List Nat) (w : World) : Fr own w w := ⟨rfl, rfl, rfl, Nat.le_refl _, fun _ _ _ => rfl⟩
theorem Fr.trans {o : List Nat} {a b c : World} (h : Fr o a b) (k : Fr o b c) : Fr o a c :=
  ⟨k.os.trans h.os, k.tape.trans h.tape, k.output.trans h.output, Nat.le_trans h.size k.size, fun i hi hn => (k.block i (Nat.lt_of_lt_of_le hi h.size) hn).trans (h.block i hi hn)⟩
theorem Fr.mono {o o' : List Nat} {a b : World} (h : Fr o a b) (hs : ∀ k ∈ o, k ∈ o' ∨ a.heap.size ≤ k) : Fr o' a b :=
  ⟨h.os, h.tape, h.output, h.size, fun i hi hn => h.block i hi fun hm => by
    rcases hs i hm with h1 | h1
    · exact hn h1
    · omega⟩
theorem Fr.alloc {o : List Nat} {a b : World} (h : Fr o a b) (ob : Obj) : Fr o a (b.alloc ob) :=
  ⟨h.os, h.tape, h.output, by simp; have := h.size; omega, fun i hi hn => by
    rw [Below.heap_alloc b ob i (Nat.lt_of_lt_of_le hi h.size)]; exact h.block i hi hn⟩
theorem Fr.setCell {o : List Nat} {a b : World} (h : Fr o a b) (p : Addr) (v : Value) (hp : p.block ∈ o ∨ a.heap.size ≤ p.block) : Fr o a (b.setCell p v) :=
  ⟨h.os, h.tape, h.output, by simp; exact h.size, fun i hi hn => by
    rw [Below.heap_setCell b p v i (fun e => by
      subst e
      rcases hp with h1 | h1
      · exact hn h1
      · omega)]
    exact h.block i hi hn⟩
theorem Fr.drewN {o : List Nat} {a b : World} (h : Fr o a b) (n : Nat) : Fr o a (b.drewN n) := ⟨h.os, h.tape, h.output, h.size, h.block⟩
theorem Fr.drew {o : List Nat} {a b : World} (h : Fr o a b) : Fr o a b.drew := ⟨h.os, h.tape, h.output, h.size, h.block⟩
theorem Fr.of_below {a b : World} (h : Below a.heap.size a b) (o : List Nat) : Fr o a b := ⟨h.os, h.tape, h.output, h.size, fun i hi _ => h.block i hi⟩

/-- 'm[k] = x', the key not being in. -/
theorem MapIs.put {w : World} {M : Nat} {l : List Nd} (h : MapIs w M l) {n : Nd} (hk : Wf n.s n.g) (hn : ∀ m ∈ l, ¬ m.is n.s n.g) :
    ∃ o : Obj, (∀ W : World, W.heap[M]? = w.heap[M]? → (Instr.mapUpdate 65 (.map (some M)) (ky n.s n.g) (pt (some n.b))).run Try.prog W = .ok () (ChangeMaps.setBlock W M o)) ∧
      ∀ W : World, W.heap[M]? = some o → MapIs W M (n :: l) := by
  obtain ⟨hf, es, clock, hb, hp⟩ := h
  obtain ⟨kl, hkey⟩ := key_of hk
  refine ⟨.map (es.push ⟨ky n.s n.g, pt (some n.b), clock⟩) (clock + 1), fun W hW => ?_, fun W hW => ?_⟩
  · rcases keyed29.find W hkey es.toList (MapIs.keys hf hp) with ⟨h1, h2⟩ | ⟨j, e, h1, h2, h3⟩
    · simp [Instr.mapUpdate, run_underlying Try.underlying65, MapKept.run_getObj_map (hW.trans hb), keyed29.check W false hkey, h1, MapKept.run_setObj_map _ (hW.trans hb), Result.andThen, ChangeMaps.setBlock]
    · exfalso
      obtain ⟨m, hnl, he⟩ := MapIs.node hp (List.mem_of_getElem? h2)
      simp only [Nd.e, h3, Prod.mk.injEq] at he
      exact hn m hnl (ky_inj he.1)
  · refine ⟨fun m hm => ?_, _, _, hW, ?_⟩
    · rcases List.mem_cons.1 hm with rfl | hm
      · exact hk
      · exact hf m hm
    · simp only [Array.toList_push, List.map_append, List.map_cons, List.map_nil]
      exact List.perm_append_comm.trans (hp.cons _)

/-- 'delete(m, k)', the key being in. -/
theorem MapIs.drop {w : World} {M : Nat} {l : List Nd} {n : Nd} (h : MapIs w M (n :: l)) (ha : Apart (n :: l)) (ty : TypeId) :
    ∃ o : Obj, (∀ W : World, W.heap[M]? = w.heap[M]? → (Builtin.delete_ #[65, 29] ty #[.map (some M), ky n.s n.g]).run Try.prog W = .ok (.tuple #[]) (ChangeMaps.setBlock W M o)) ∧
      ∀ W : World, W.heap[M]? = some o → MapIs W M l := by
  obtain ⟨hf, es, clock, hb, hp⟩ := h
  obtain ⟨kl, hkey⟩ := key_of (hf n (by simp))
  have hmem : n.e ∈ es.toList.map fun e => (e.key, e.val) := hp.mem_iff.2 (by simp)
  rcases keyed29.find w hkey es.toList (MapIs.keys hf hp) with ⟨h1, h2⟩ | ⟨j, e, h1, h2, h3⟩
  · exfalso
    obtain ⟨e, he, e1⟩ := List.mem_map.1 hmem
    simp only [Nd.e, Prod.mk.injEq] at e1
    exact h2 e he e1.1
  · obtain ⟨m, hm, he⟩ := MapIs.node hp (List.mem_of_getElem? h2)
    simp only [Nd.e, h3, Prod.mk.injEq] at he
    have : m = n := ha.eq hm (by simp) (ky_inj he.1)
    subst this
    have hjl : j < es.toList.length := (List.getElem?_eq_some_iff.1 h2).1
    have hjs : j < es.size := by simpa using hjl
    have hsub : (es.eraseIdxIfInBounds j).toList = es.toList.eraseIdx j := by
      unfold Array.eraseIdxIfInBounds
      rw [dif_pos hjs]
      simp
    refine ⟨.map (es.eraseIdxIfInBounds j) clock, fun W hW => ?_, fun W hW => ⟨fun x hx => hf x (by simp [hx]), _, _, hW, ?_⟩⟩
    · have h1' : (Instr.findKey 29 (ky m.s m.g) es.toList).run Try.prog W = .ok (some (j, e.val)) W := by
        rcases keyed29.find W hkey es.toList (MapIs.keys hf hp) with ⟨g1, g2⟩ | ⟨j', e', g1, g2, g3⟩
        · exact absurd h3 (g2 e (List.mem_of_getElem? h2))
        · have hq : (es.toList.map fun e => (e.key, e.val)).Nodup := by
            refine (hp.nodup_iff).2 ?_
            have : (m :: l).Pairwise fun a b => a.e ≠ b.e := ha.imp (fun {a b} hab e => hab (ky_inj (Prod.mk.injEq _ _ _ _ ▸ e).1))
            exact List.pairwise_map.2 this
          obtain ⟨m', hm', he'⟩ := MapIs.node hp (List.mem_of_getElem? g2)
          simp only [Nd.e, g3, Prod.mk.injEq] at he'
          have : m' = m := ha.eq hm' (by simp) (ky_inj he'.1)
          subst this
          have hjj : j' = j := by
            have a1 : (es.toList.map fun e => (e.key, e.val))[j]? = some (ky m'.s m'.g, pt (some m'.b)) := by rw [List.getElem?_map, h2]; simp [h3, he.2]
            have a2 : (es.toList.map fun e => (e.key, e.val))[j']? = some (ky m'.s m'.g, pt (some m'.b)) := by rw [List.getElem?_map, g2]; simp [g3, he'.2]
            exact (List.getElem?_inj (by simpa using (List.getElem?_eq_some_iff.1 g2).1) hq).1 (a2.trans a1.symm)
          subst hjj
          rw [g1, ← he.2, ← he'.2]
      simp [Builtin.delete_, run_underlying Try.underlying65, MapKept.run_getObj_map (hW.trans hb), keyed29.check W _ hkey, h1', MapKept.run_setObj_map _ (hW.trans hb), Result.andThen, ChangeMaps.setBlock]
    · rw [hsub]
      have p1 : (es.toList.map fun e => (e.key, e.val)).Perm ((e.key, e.val) :: ((es.toList.eraseIdx j).map fun e => (e.key, e.val))) := by
        have : es.toList.Perm (e :: es.toList.eraseIdx j) := by
          have hg : es.toList[j] = e := (List.getElem?_eq_some_iff.1 h2).2
          rw [← hg]
          rw [List.eraseIdx_eq_take_drop_succ]
          conv => lhs; rw [← List.take_append_drop j es.toList, List.drop_eq_getElem_cons hjl]
          exact List.perm_middle
        exact this.map _
      have p2 : ((e.key, e.val) :: ((es.toList.eraseIdx j).map fun e => (e.key, e.val))).Perm (m.e :: l.map Nd.e) := p1.symm.trans hp
      have e1 : m.e = (e.key, e.val) := by simp [Nd.e, h3, he.2]
      rw [e1] at p2
      exact p2.cons_inv

#print axioms MapIs.put
end Go.Proofs.Ytijiffgfodlepaa
