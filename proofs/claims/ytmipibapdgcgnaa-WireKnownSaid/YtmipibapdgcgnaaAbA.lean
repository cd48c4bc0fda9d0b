/- The abstract machine: operations that make a block. -/
import Derived.Test.YtmipibapdgcgnaaAbR
import Derived.Laws.MakeOwn
import Derived.Laws.IdiomStrings
import Derived.Laws.AppendOwn
namespace Go.Ab
open Go

def upd (get : Get) (id : Nat) (x : Option Blk) : Get := fun j => if j = id then x else get j

theorem Heap.get_put (h : Heap) (id : Nat) (b : Blk) : (h.put id b).get = upd h.get id (some b) := by
  funext j
  unfold upd Heap.get Heap.put
  split
  · rename_i e; subst e; exact Tree.get_put_same _ _ _
  · rename_i e; exact Tree.get_put_ne _ _ (Ne.symm e)

theorem Heap.get_del (h : Heap) (id : Nat) : (h.del id).get = upd h.get id none := by
  funext j
  unfold upd Heap.get Heap.del
  split
  · rename_i e; subst e; exact Tree.get_put_same _ _ _
  · rename_i e; exact Tree.get_put_ne _ _ (Ne.symm e)

theorem Heap.get_alloc (h : Heap) (b : Blk) : (h.alloc b).get = upd h.get h.next (some b) := by
  funext j
  unfold upd Heap.get Heap.alloc
  split
  · rename_i e; subst e; exact Tree.get_put_same _ _ _
  · rename_i e; exact Tree.get_put_ne _ _ (Ne.symm e)

@[simp] theorem Heap.next_put (h : Heap) (id : Nat) (b : Blk) : (h.put id b).next = h.next := rfl
@[simp] theorem Heap.next_del (h : Heap) (id : Nat) : (h.del id).next = h.next := rfl
@[simp] theorem Heap.next_alloc (h : Heap) (b : Blk) : (h.alloc b).next = h.next + 1 := rfl

section
variable {P : Program} {ev EV : Operand → Value} {ρ ρ' : Ren} {n n' : Scope} {B G : Nat} {get : Get} {w w' : World}

theorem CellsR.mono {cs : List Value} {C : Array Value} {d : Nat} (h : CellsR ρ n cs C d) (hρ : ∀ i, n i → ρ' i = ρ i) (hn : ∀ i, n i → n' i) : CellsR ρ' n' cs C d :=
  fun i v hv => let ⟨V, h1, h2⟩ := h i v hv; ⟨V, h1, h2.mono hρ hn⟩

theorem EntriesR.mono {es : List MapEntry} {Es : Array MapEntry} (h : EntriesR ρ n es Es) (hρ : ∀ i, n i → ρ' i = ρ i) (hn : ∀ i, n i → n' i) : EntriesR ρ' n' es Es :=
  ⟨h.1, fun i e E he hE => let ⟨a, b, c, d⟩ := h.2 i e E he hE; ⟨a, b, c, d.mono hρ hn⟩⟩

theorem BlkR.mono {id : Nat} {b : Blk} (h : BlkR B ρ n w id b) (hid : n id) (hρ : ∀ i, n i → ρ' i = ρ i) (hn : ∀ i, n i → n' i) : BlkR B ρ' n' w id b := by
  have e := hρ id hid
  cases b with
  | cells own cs =>
    cases own with
    | true => obtain ⟨h0, C, t, fz, h1, h2, h3, h4⟩ := h; exact ⟨by rw [e]; exact h0, C, t, fz, by rw [e]; exact h1, by rw [e]; exact h2, h3, by rw [e]; exact h4.mono hρ hn⟩
    | false => obtain ⟨h0, C, t, fz, h1, h4⟩ := h; exact ⟨by rw [e]; exact h0, C, t, fz, by rw [e]; exact h1, by rw [e]; exact h4.mono hρ hn⟩
  | map es c => obtain ⟨h0, Es, h1, h2⟩ := h; exact ⟨by rw [e]; exact h0, Es, by rw [e]; exact h1, h2.mono hρ hn⟩
  | iter s p => obtain ⟨h0, h1, h2⟩ := h; exact ⟨by rw [e]; exact h0, by rw [e]; exact h1, by rw [e]; exact h2⟩

theorem BlkR.frame {id : Nat} {b : Blk} (h : BlkR B ρ n w id b) (e : w'.heap[(ρ id).blk]? = w.heap[(ρ id).blk]?) : BlkR B ρ n w' id b := by
  cases b with
  | cells own cs =>
    cases own with
    | true => obtain ⟨h0, C, t, fz, h1, h2⟩ := h; exact ⟨h0, C, t, fz, by rw [e]; exact h1, h2⟩
    | false => obtain ⟨h0, C, t, fz, h1, h2⟩ := h; exact ⟨h0, C, t, fz, by rw [e]; exact h1, h2⟩
  | map es c => obtain ⟨h0, Es, h1, h2⟩ := h; exact ⟨h0, Es, by rw [e]; exact h1, h2⟩
  | iter s p => obtain ⟨h0, h1, h2⟩ := h; exact ⟨h0, h1, by rw [e]; exact h2⟩

/-- Where a block lies there is a block. -/
theorem BlkR.lt {id : Nat} {b : Blk} (h : BlkR B ρ n w id b) : (ρ id).blk < w.heap.size := by
  cases b with
  | cells own cs =>
    cases own with
    | true => obtain ⟨_, C, t, fz, h1, _⟩ := h; exact (Array.getElem?_eq_some_iff.1 h1).1
    | false => obtain ⟨_, C, t, fz, h1, _⟩ := h; exact (Array.getElem?_eq_some_iff.1 h1).1
  | map es c => obtain ⟨_, Es, h1, _⟩ := h; exact (Array.getElem?_eq_some_iff.1 h1).1
  | iter s p => obtain ⟨_, _, h1⟩ := h; exact (Array.getElem?_eq_some_iff.1 h1).1

def ownB : Blk → Bool
  | .cells o _ => o
  | _ => true

theorem own_iff {id : Nat} : own get id ↔ ∃ b, get id = some b ∧ ownB b = true := by
  unfold own
  cases h : get id with
  | none => simp
  | some b =>
    cases b with
    | cells o cs => cases o <;> simp [ownB]
    | map es c => simp [ownB]
    | iter s p => simp [ownB]

theorem BlkR.base {id : Nat} {b : Blk} (h : BlkR B ρ n w id b) (ho : ownB b = true) : B ≤ (ρ id).blk := by
  cases b with
  | cells own cs => simp only [ownB] at ho; subst ho; exact h.1
  | map es c => exact h.1
  | iter s p => exact h.1

theorem BlkR.ro {id : Nat} {b : Blk} (h : BlkR B ρ n w id b) (ho : ownB b = false) : (ρ id).blk < B := by
  cases b with
  | cells own cs => simp only [ownB] at ho; subst ho; exact h.1
  | map es c => simp [ownB] at ho
  | iter s p => simp [ownB] at ho

theorem own.lt (hr : HR B G ρ n get w) {id : Nat} (h : own get id) : (ρ id).blk < w.heap.size := by
  obtain ⟨b, hb, _⟩ := own_iff.1 h
  exact (hr.blk id b hb).lt

/-- A block of one's own is changed. -/
theorem HR.setBlk (hr : HR B G ρ n get w) {id : Nat} {b : Blk} (ho : own get id) (hb : BlkR B ρ n w' id b) (hob : ownB b = true) (hs : w'.heap.size = w.heap.size)
    (hf : ∀ k, k ≠ (ρ id).blk → w'.heap[k]? = w.heap[k]?) (h1 : w'.os = w.os) (h2 : w'.tape = w.tape) (h3 : w'.output = w.output) :
    Step B G ρ n get w ρ n (upd get id (some b)) w' where
  hr := {
    blk := fun j c hj => by
      unfold upd at hj
      split at hj
      · rename_i e; subst e; cases hj; exact hb
      · rename_i e
        refine (hr.blk j c hj).frame (hf _ fun heq => ?_)
        cases hoj : ownB c with
        | true => exact e (hr.inj j id (own_iff.2 ⟨c, hj, hoj⟩) ho heq)
        | false =>
          have a1 := (hr.blk j c hj).ro hoj
          have a2 := hb.base hob
          omega
    lt := fun j c hj => by
      unfold upd at hj
      split at hj
      · rename_i e; subst e; obtain ⟨b0, hb0, _⟩ := own_iff.1 ho; exact hr.lt _ _ hb0
      · exact hr.lt _ _ hj
    inj := fun i j hi hj he => by
      have conv : ∀ i, own (upd get id (some b)) i → own get i := fun i hi => by
        by_cases e : i = id
        · subst e; exact ho
        · unfold own upd at hi; rw [if_neg e] at hi; exact hi
      exact hr.inj i j (conv i hi) (conv j hj) he
    glob := hr.glob
    globs := hr.globs
    base := by rw [hs]; exact hr.base }
  le := fun _ h => h
  agree := fun _ _ => rfl
  size := by omega
  frame := fun k hk hne => hf k (fun e => hne id ho e.symm)
  foot := fun i hi _ => by
    by_cases e : i = id
    · subst e; exact ⟨i, ho, rfl⟩
    · unfold own upd at hi; rw [if_neg e] at hi; exact ⟨i, hi, rfl⟩
  os := h1
  tape := h2
  output := h3

/-- The world has one block more. -/
structure NewW (w w' : World) : Prop where
  size : w'.heap.size = w.heap.size + 1
  old : ∀ k, k < w.heap.size → w'.heap[k]? = w.heap[k]?
  os : w'.os = w.os
  tape : w'.tape = w.tape
  output : w'.output = w.output

theorem NewW.alloc (w : World) (o : Obj) : NewW w (w.alloc o) where
  size := by simp
  old := fun k hk => heap_alloc_old w o k hk
  os := rfl
  tape := rfl
  output := rfl

/-- A block is there that was not there. -/
theorem HR.newBlk (hr : HR B G ρ n get w) {id : Nat} {m : Scope} {b : Blk} (hn : ¬ n id) (hnm : ∀ i, n i → m i) (hm : m id) (hw : NewW w w') (hρ : ∀ i, n i → ρ' i = ρ i) (hid : (ρ' id).blk = w.heap.size)
    (hb : BlkR B ρ' m w' id b) : Step B G ρ n get w ρ' m (upd get id (some b)) w' where
  hr := {
    blk := fun j c hj => by
      unfold upd at hj
      split at hj
      · rename_i e; subst e; cases hj; exact hb
      · have hlt := hr.lt j c hj
        have hbj := hr.blk j c hj
        have := hbj.mono (n' := m) hlt hρ hnm
        refine this.frame (hw.old _ ?_)
        rw [hρ j hlt]; exact hbj.lt
    lt := fun j c hj => by
      unfold upd at hj
      split at hj
      · rename_i e; rw [e]; exact hm
      · exact hnm _ (hr.lt _ _ hj)
    inj := fun i j hi hj he => by
      have conv : ∀ i, i ≠ id → own (upd get id (some b)) i → own get i ∧ n i := fun i e hi => by
        unfold own upd at hi; rw [if_neg e] at hi
        have ho : own get i := hi
        obtain ⟨c, hc, _⟩ := own_iff.1 ho
        exact ⟨ho, hr.lt _ _ hc⟩
      by_cases e1 : i = id
      · by_cases e2 : j = id
        · rw [e1, e2]
        · obtain ⟨q1, q2⟩ := conv j e2 hj
          have := own.lt hr q1
          rw [hρ j q2, e1, hid] at he
          omega
      · obtain ⟨p1, p2⟩ := conv i e1 hi
        by_cases e2 : j = id
        · have := own.lt hr p1
          rw [hρ i p2, e2, hid] at he
          omega
        · obtain ⟨q1, q2⟩ := conv j e2 hj
          rw [hρ i p2, hρ j q2] at he
          exact hr.inj i j p1 q1 he
    glob := fun g hg => by rw [hρ g (hr.globs g hg)]; exact hr.glob g hg
    globs := fun g hg => hnm g (hr.globs g hg)
    base := by rw [hw.size]; have := hr.base; omega }
  le := hnm
  agree := hρ
  size := by rw [hw.size]; omega
  frame := fun k hk _ => hw.old k hk
  foot := fun i hi hlt => by
    by_cases e : i = id
    · subst e; rw [hid] at hlt; omega
    · unfold own upd at hi; rw [if_neg e] at hi
      have ho : own get i := hi
      obtain ⟨c, hc, _⟩ := own_iff.1 ho
      exact ⟨i, ho, by rw [hρ i (hr.lt _ _ hc)]⟩
  os := hw.os
  tape := hw.tape
  output := hw.output

/-! ### Rows of zeros -/
theorem zerosL_length (l : List Value) : ∀ n, (zerosL l n).length = n * l.length
  | 0 => by simp [zerosL]
  | n + 1 => by simp only [zerosL, List.length_append, zerosL_length l n, Nat.add_mul, Nat.one_mul]; omega

theorem zerosL_get (l : List Value) : ∀ n i, i < n * l.length → (zerosL l n)[i]? = l[i % l.length]?
  | 0, i, h => by simp at h
  | n + 1, i, h => by
    simp only [zerosL, List.getElem?_append]
    split
    · rename_i hi; rw [Nat.mod_eq_of_lt hi]
    · rename_i hi
      have hi : l.length ≤ i := by omega
      rw [zerosL_get l n (i - l.length) (by rw [Nat.add_mul] at h; omega)]
      congr 1
      rw [← Nat.mod_eq_sub_mod hi]

theorem zerosL_made (z : Array Value) (k : Nat) : (zerosL z.toList k).toArray = madeCells z (k * z.size) := by
  unfold madeCells
  apply Array.ext
  · simp [zerosL_length]
  · intro i h1 h2
    have hi : i < k * z.toList.length := by simpa [zerosL_length] using h1
    have := zerosL_get z.toList k i hi
    have hz : 0 < z.size := by
      rcases Nat.eq_zero_or_pos z.size with h | h
      · simp [h] at hi
      · exact h
    have hm : i % z.size < z.size := Nat.mod_lt _ hz
    have e1 : (zerosL z.toList k).toArray[i] = z[i % z.size] := by
      have h3 : (zerosL z.toList k)[i]? = some z[i % z.size] := by rw [this]; simp [hm]
      have h4 : i < (zerosL z.toList k).length := by simpa using h1
      rw [List.getElem?_eq_getElem h4] at h3
      simpa using h3
    rw [e1]
    simp [hm]

theorem zerosL_zeroCells (z : Array Value) (k : Nat) : (zerosL z.toList k).toArray = Builtin.zeroCells z k := by
  rw [zerosL_made]; rfl

theorem VRs.cellsR {cs : Array Value} {C : Array Value} (h : VRs ρ n cs C) : CellsR ρ n cs.toList C 0 := by
  intro i v hv
  obtain ⟨V, h1, h2⟩ := h.get (i := i) (x := v) (by simpa using hv)
  exact ⟨V, by simpa using h1, h2⟩

theorem closed_cells {z : Value} (h : closedN 3 z = true) : VRs ρ n z.cells z.cells := (VR.of_closed h).cells

theorem VRs.refl_list {l : List Value} (h : ∀ v ∈ l, VR ρ n v v) : VRs ρ n l.toArray l.toArray := ⟨rfl, fun i x y hx hy => by
  rw [hx] at hy; cases hy
  exact h x (by have := Array.mem_of_getElem? hx; simpa using this)⟩

theorem zerosL_mem {l : List Value} : ∀ {k : Nat} {v : Value}, v ∈ zerosL l k → v ∈ l
  | 0, v, h => by simp [zerosL] at h
  | k + 1, v, h => by
    simp only [zerosL, List.mem_append] at h
    exact h.elim id zerosL_mem

theorem zeros_rel {z : Value} (h : closedN 3 z = true) (k : Nat) : VRs ρ n (zerosL z.cells.toList k).toArray (zerosL z.cells.toList k).toArray :=
  VRs.refl_list fun v hv => by
    have := zerosL_mem hv
    obtain ⟨i, hi⟩ := List.mem_iff_getElem?.1 this
    exact (closed_cells h).2 i v v (by simpa using hi) (by simpa using hi)

/-- What is to be shown of an operation that makes a block. -/
def Makes (B : Nat) (ρ : Ren) (n : Scope) (w : World) (b : Blk) (f : Nat → Value) (V : Value) (w' : World) : Prop :=
  NewW w w' ∧ ownB b = true ∧ ∃ r : Rn, r.blk = w.heap.size ∧ ∀ (ρ' : Ren) (m : Scope) (id : Nat), (∀ i, n i → ρ' i = ρ i) → (∀ i, n i → m i) → m id → ρ' id = r → BlkR B ρ' m w' id b ∧ VR ρ' m (f id) V

theorem makes_cells {cs : List Value} {C : Array Value} {t : TypeId} {f : Nat → Value} {V : Value} (hB : B ≤ w.heap.size) (hrel : CellsR ρ n cs C 0)
    (hf : ∀ (ρ' : Ren) (m : Scope) (id : Nat), m id → ρ' id = ⟨w.heap.size, 0, C.size⟩ → VR ρ' m (f id) V) : Makes B ρ n w (.cells true cs) f V (w.alloc (.cells C t)) := by
  refine ⟨NewW.alloc _ _, rfl, ⟨w.heap.size, 0, C.size⟩, rfl, fun ρ' m id hρ hn hm hid => ⟨?_, hf ρ' m id hm hid⟩⟩
  refine ⟨by rw [hid]; exact hB, C, t, (0, 0), by rw [hid]; exact heap_alloc_new w _, by rw [hid], fun o _ h => by simp at h, ?_⟩
  rw [hid]
  exact hrel.mono hρ hn

theorem newPtr {ρ' : Ren} {m : Scope} {id s l : Nat} (hm : m id) (hid : ρ' id = ⟨s, 0, l⟩) : AR ρ' m ⟨id, 0, none⟩ ⟨s, 0, none⟩ := ⟨hm, rfl, by simp [hid]⟩

theorem aOp_sound {o : Oper} {b : Blk} {f : Nat → Value} (hB : B ≤ w.heap.size) (hv : ∀ x ∈ o.op.operands, VR ρ n (ev x) (EV x)) (h : aOp P ev o = some (b, f)) :
    ∃ V w', (execOp EV o).run P w = .ok (.value V) w' ∧ Makes B ρ n w b f V w' := by
  obtain ⟨dst, op, type, pos, after, guard⟩ := o
  cases op <;> simp only [aOp] at h <;> (try (cases h; done)) <;> simp only [Op.operands] at hv
  case alloc elem =>
    simp only [Option.bind_eq_some_iff] at h
    obtain ⟨z, hz, h⟩ := h
    split at h
    · rename_i hc
      cases h
      refine ⟨.pointer (some ⟨w.heap.size, 0, none⟩), _, ?_, makes_cells (t := elem) hB (closed_cells hc).cellsR fun ρ' m id hm hid => .ptr (newPtr hm hid)⟩
      simp [execOp, Instr.alloc, zeroOf_run hz, newVar, newRow]
    · cases h
  case box elem x =>
    cases h
    refine ⟨.pointer (some ⟨w.heap.size, 0, none⟩), _, ?_, makes_cells (t := elem) hB (hv x (by simp)).cells.cellsR fun ρ' m id hm hid => .ptr (newPtr hm hid)⟩
    simp [execOp, Instr.box, newVar, newRow]
  case buildSlice t len parts =>
    split at h
    · rename_i e ht
      simp only [Option.bind_eq_some_iff] at h
      obtain ⟨k, hk, z, hz, h⟩ := h
      split at h
      · cases h
      · rename_i hc
        simp only [Bool.or_eq_true, Bool.not_eq_true', not_or, Bool.not_eq_true, Bool.not_eq_false] at hc
        obtain ⟨⟨⟨hc1, hc2⟩, hc3⟩, hc4⟩ := hc
        have hc2 := Nat.eq_of_beq_eq_true hc2
        have hc3 : ¬ (16777216 < len * k) := fun hh => by rw [blt_iff.2 hh] at hc3; cases hc3
        have hc4 : ¬ (16777216 < len) := fun hh => by rw [blt_iff.2 hh] at hc4; cases hc4
        simp only [Option.map_eq_some_iff] at h
        obtain ⟨cs, hf, heq⟩ := h
        cases heq
        obtain ⟨p1, p2⟩ := parts_rel (parts := parts) (ρ := ρ) (n := n) (ev := ev) (EV := EV) (fun x hx => hv x (by simpa using hx))
        obtain ⟨R, hR, hrel⟩ := fill_rel _ _ _ _ cs p1 p2 (zeros_rel hc1 len) hf
        refine ⟨.slice (some ⟨w.heap.size, 0, none⟩) len len, _, ?_, makes_cells (t := e) hB hrel.cellsR fun ρ' m id hm hid => .slice hm (.inl (newPtr hm hid)) (Nat.le_refl _) (by unfold UNK; omega)⟩
        rw [zerosL_made, hc2] at hR
        unfold madeCells at hR
        simp only [Array.toList_map] at hR
        have hnot : ¬ (2 ^ 24 < len * k) := by omega
        by_cases h0 : len * k = 0
        · have e0 : (Array.range (len * k)).map (z.cells[· % z.cells.size]!) = #[] := by simp [h0]
          have e1 : (Array.range (len * k)).map (fun _ => (default : Value)) = #[] := by simp [h0]
          rw [e0] at hR
          simp only [execOp, Instr.buildSlice, Sem.run_bind, underlying_run ht, szOf_run hk, Result.andThen_ok, if_neg hnot, if_pos h0]
          simp [hR, newRow, e1]
        · simp only [execOp, Instr.buildSlice, Sem.run_bind, underlying_run ht, szOf_run hk, Result.andThen_ok, if_neg hnot, if_neg h0, zeroOf_run hz]
          simp [hR, newRow]
    · cases h
  case range t x =>
    split at h
    · rename_i s ht ha
      cases h
      have hx := hv x (by simp)
      rw [ha] at hx
      refine ⟨.pointer (some ⟨w.heap.size, 0, none⟩), w.alloc (.stringIter s 0), by simp [execOp, hx.string_inv, Instr.range, underlying_run ht], NewW.alloc _ _, rfl, ⟨w.heap.size, 0, 0⟩, rfl, fun ρ' m id hρ hn hm hid => ⟨⟨by rw [hid]; exact hB, by rw [hid], by rw [hid]; exact heap_alloc_new w _⟩, .ptr (newPtr hm hid)⟩⟩
    · cases h
  case makeMap t r =>
    cases r with
    | none =>
      cases h
      refine ⟨.map (some w.heap.size), w.alloc (.map #[] 0), by simp [execOp, Instr.makeMap], NewW.alloc _ _, rfl, ⟨w.heap.size, 0, 0⟩, rfl, fun ρ' m id hρ hn hm hid => ⟨⟨by rw [hid]; exact hB, #[], by rw [hid]; exact heap_alloc_new w _, rfl, fun i e E he => by simp at he⟩, .map hm (by rw [hid])⟩⟩
    | some r => simp at h
  case makeSlice t l c =>
    split at h
    · rename_i e kl l' kc c' ht hl hc
      simp only [Option.bind_eq_some_iff] at h
      obtain ⟨i, hi, z, hz, h⟩ := h
      split at h
      · cases h
      · rename_i hh
        simp only [Bool.or_eq_true, Bool.not_eq_true', not_or, Bool.not_eq_true, Bool.not_eq_false, Bool.and_eq_true, decide_eq_true_eq] at hh
        obtain ⟨⟨⟨h1, h2⟩, ⟨h3, h4⟩, h5⟩, h6⟩ := hh
        have h2 := Nat.eq_of_beq_eq_true h2
        have h6 : ¬ (1099511627776 < c'.toNat * i.bytes) := fun hh => by rw [blt_iff.2 hh] at h6; cases h6
        cases h
        have hL := hv l (by simp); rw [hl] at hL
        have hC := hv c (by simp); rw [hc] at hC
        have hb : (i.bytes : Int) * c' ≤ 281474976710656 := by
          have : (c'.toNat * i.bytes : Nat) ≤ 1099511627776 := by omega
          have h' : ((c'.toNat * i.bytes : Nat) : Int) ≤ 1099511627776 := by omega
          rw [Int.natCast_mul, Int.toNat_of_nonneg (by omega), Int.mul_comm] at h'
          omega
        have hrun := run_make (P := P) w t e i z ht hi hz kl kc l' c' h3 h4 hb (by omega)
        refine ⟨.slice (some ⟨w.heap.size, 0, none⟩) l'.toNat c'.toNat, _, ?_, makes_cells (t := e) hB (zeros_rel h1 c'.toNat).cellsR fun ρ' m id hm hid => .slice hm (.inl (newPtr hm hid)) (by omega) (by unfold UNK; omega)⟩
        rw [zerosL_made, h2]
        simp only [execOp, hL.int_inv, hC.int_inv, Sem.run_bind, hrun]
        rfl
    · cases h
  case convert src dst x =>
    split at h
    · rename_i e s hs hd ha
      split at h
      · rename_i he
        split at h
        · rename_i hlt
          cases h
          have hx := hv x (by simp)
          rw [ha] at hx
          have hrun := run_bytes_of_string (P := P) w src dst e s hs hd he
          have hge := grownCap_ge w s.size 0 e
          refine ⟨_, _, by simp only [execOp, hx.string_inv, Sem.run_bind, hrun]; rfl, ?_⟩
          have hsz : (bytesRow s (grownCap w s.size 0 e)).size = grownCap w s.size 0 e := by
            simp only [bytesRow, Array.size_append, Array.size_map, Array.size_replicate]
            have : s.data.size = s.size := rfl
            omega
          refine ⟨⟨by simp, fun k hk => heap_alloc_old w.drew _ k hk, rfl, rfl, rfl⟩, rfl, ⟨w.heap.size, 0, grownCap w s.size 0 e⟩, rfl, fun ρ' m id hρ hn hm hid => ⟨?_, .sliceU (newPtr hm hid) hge (by rw [hid]; simp)⟩⟩
          refine ⟨by rw [hid]; exact hB, _, e, _, by rw [hid]; exact heap_alloc_new w.drew _, by rw [hid]; exact hsz, fun o ho hh => by simp only at hh; omega, ?_⟩
          rw [hid]
          intro i v hv
          simp only [List.getElem?_map, Option.map_eq_some_iff] at hv
          obtain ⟨u, hu, rfl⟩ := hv
          refine ⟨.int .u8 u.toNat, ?_, .scalar rfl⟩
          have hi : i < s.data.size := by
            rw [Array.getElem?_toList] at hu
            exact (Array.getElem?_eq_some_iff.1 hu).1
          rw [Nat.zero_add, bytesRow_at s _ i hi]
          rw [Array.getElem?_toList] at hu
          rw [Array.getElem?_eq_getElem hi] at hu
          cases hu
          rfl
        · cases h
      · cases h
    · cases h
end

end Go.Ab
