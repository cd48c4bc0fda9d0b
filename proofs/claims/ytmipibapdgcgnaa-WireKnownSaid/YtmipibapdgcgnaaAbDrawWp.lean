/- The abstract machine: a region that draws its order, as a rule for a text. -/
import Derived.Test.YtmipibapdgcgnaaAbDrawRun
namespace Go.Ab
open Go

namespace Ctx
section
variable {P : Program} {G N : Nat} {ops : Array Oper} {M : List Nat} (C : Ctx P G N ops M)
variable {B : Nat} {ρ0 : Ren} {w0 : World} {l : Array Bool} {a : Act} {w : World} {b : Nat} {ρ : Ren}

/-- When all has come up. -/
theorem finish (H : C.Heaps) (I : Inv C B ρ0 w0 l a w b ρ) (hall : ∀ p, p < ops.size → C.dn l p = true) :
    FR ρ (lts (C.hs ops.size).next) (C.frs ops.size) a ∧ Step B G ρ0 (lts (C.hs 0).next) (C.hs 0).get w0 ρ (lts (C.hs ops.size).next) (C.hs ops.size).get w := by
  obtain ⟨h1, h2⟩ := C.sub_gD H (l := l) I.bn (Nat.le_refl _) (fun p a1 a2 a3 => by have := (I.eD p a2 a3).1 (hall p a2); omega) (fun p _ a2 _ => hall p a2)
  have hS : ∀ i, C.SD b l i → i < (C.hs ops.size).next := by
    rintro i (h | ⟨p, hp, rfl⟩)
    · have := Heaps.le C H ops.size I.bn (Nat.le_refl _); omega
    · exact C.ahead_next H hp.2.1 hp.2.2.1 hp.2.2.2.1 hp.2.1 (Nat.le_refl _)
  refine ⟨⟨fun t => ?_, ?_, ?_⟩, ?_⟩
  · have := I.tm t
    rw [C.lastW_cut (p := ops.size) (Nat.le_refl _) (fun q hq _ => by simp [hall q hq, hq])] at this
    exact this.mono (fun _ _ => rfl) hS
  · rw [I.tsz, C.frN ops.size (Nat.le_refl _)]
  · rw [C.defs ops.size (Nat.le_refl _)]; exact I.df.mono (fun _ _ => rfl) hS
  · refine I.st.trans ⟨?_, hS, fun _ _ => rfl, Nat.le_refl _, fun _ _ _ => rfl, fun i hi _ => ⟨i, own_sub h1 hi, rfl⟩, rfl, rfl, rfl⟩
    have h0 := I.st.hr.sub h1
    exact ⟨fun id x hx => (h0.blk id x hx).mono (h0.lt id x hx) (fun _ _ => rfl) hS, fun id x hx => hS _ (h0.lt id x hx), h0.inj, h0.glob, fun g hg => hS _ (h0.globs g hg), h0.base⟩

theorem wpAny_of (H : C.Heaps) (hwit : ∀ p, p ≤ ops.size → ∃ ρ a w, FR ρ (lts (C.hs p).next) (C.frs p) a ∧ HR B G ρ (lts (C.hs p).next) (C.hs p).get w) {Q : Exit → Act → World → Prop}
    (hQ : ∀ a w ρ, FR ρ (lts (C.hs ops.size).next) (C.frs ops.size) a → Step B G ρ0 (lts (C.hs 0).next) (C.hs 0).get w0 ρ (lts (C.hs ops.size).next) (C.hs ops.size).get w → Q .normal a w) :
    ∀ (k : Nat) (l : Array Bool) (a : Act) (w : World) (b : Nat) (ρ : Ren), undone ops.size l = k → Inv C B ρ0 w0 l a w b ρ → wpAny P .any ops Q k l a w := by
  intro k
  induction k with
  | zero =>
    intro l a w b ρ hk I
    have hr : Region.ready .any ops l = [] := by
      refine List.eq_nil_iff_forall_not_mem.2 fun j hj => ?_
      obtain ⟨h1, o, ho, _⟩ := mem_ready.1 hj
      have hlt := (Array.getElem?_eq_some_iff.1 ho).1
      have hm : j ∈ (List.range ops.size).filter fun i => !l.getD i true := List.mem_filter.2 ⟨List.mem_range.2 hlt, by rw [h1]; rfl⟩
      have := List.length_pos_of_mem hm
      unfold undone at hk
      omega
    obtain ⟨h1, h2⟩ := C.finish H I (C.all_done I hr)
    exact ⟨hr, hQ _ _ _ h1 h2⟩
  | succ k ih =>
    intro l a w b ρ hk I
    refine ⟨fun hr => ?_, fun i hi => ?_⟩
    · obtain ⟨h1, h2⟩ := C.finish H I (C.all_done I hr)
      exact hQ _ _ _ h1 h2
    · obtain ⟨h1, o, ho, _⟩ := mem_ready.1 hi
      have hlt := (Array.getElem?_eq_some_iff.1 ho).1
      refine C.step H hwit I hi Q _ fun a' w' b' ρ' I' => ih _ a' w' b' ρ' ?_ I'
      have := undone_set hlt I.sz h1
      omega

theorem undone_none (n : Nat) : undone n (Array.replicate n false) = n := by
  unfold undone
  rw [List.filter_eq_self.2 fun i hi => ?_, List.length_range]
  have hi : i < n := List.mem_range.1 hi
  simp [hi]

/-- At the start. -/
theorem start (H : C.Heaps) (hf : FR ρ (lts (C.hs 0).next) (C.frs 0) a) (hr : HR B G ρ (lts (C.hs 0).next) (C.hs 0).get w) : Inv C B ρ w (Array.replicate ops.size false) a { w with drawn := w.drawn + 1 } 0 ρ := by
  have hdn : ∀ p, C.dn (Array.replicate ops.size false) p = false := fun p => by
    unfold dn
    by_cases h : C.ix p < ops.size <;> simp [h]
  have hah : ∀ p, ¬ C.Ahead 0 (Array.replicate ops.size false) p := fun p h => by have := h.2.2.2.2; rw [hdn] at this; cases this
  have hS : C.SD 0 (Array.replicate ops.size false) = lts (C.hs 0).next := by
    funext i
    refine propext ⟨fun h => h.elim id fun ⟨p, hp, _⟩ => (hah p hp).elim, .inl⟩
  have hG : C.gD 0 (Array.replicate ops.size false) = (C.hs 0).get := by
    funext i
    apply Option.ext
    intro x
    refine ⟨fun h => ?_, fun h => ?_⟩
    · rcases C.gD_inv h with ⟨_, h⟩ | ⟨p, hp, _⟩
      · exact h
      · exact (hah p hp).elim
    · rw [C.gD_low (H.low 0 i x (by omega) h)]; exact h
  have hr' : HR B G ρ (lts (C.hs 0).next) (C.hs 0).get { w with drawn := w.drawn + 1 } := ⟨fun id x hx => hr.blk id x hx, hr.lt, hr.inj, hr.glob, hr.globs, hr.base⟩
  refine ⟨by simp, fun p q _ _ h => ?_, by omega, .inl rfl, fun p _ _ => ?_, fun t => ?_, ?_, ?_, ?_⟩
  · rw [hdn] at h; cases h
  · rw [hdn]; simp
  · rw [hS, C.lastW_cut (p := 0) (by omega) (fun q _ _ => by rw [hdn]; simp)]
    exact hf.tmps t
  · rw [hf.size]; exact C.n0
  · rw [hS]; exact hf.defs
  · rw [hS, hG]
    exact ⟨hr', fun _ h => h, fun _ _ => rfl, Nat.le_refl _, fun _ _ _ => rfl, fun i hi _ => ⟨i, hi, rfl⟩, rfl, rfl, rfl⟩

end
end Ctx

theorem T.draw {P : Program} {G N : Nat} {ops : Array Oper} {M : List Nat} {id : Nat} {Q : Ex → Fr → Heap → Prop} {fr : Fr} {h : Heap} (hm : P.follows .mixedOrders = true) (C : Ctx P G N ops M)
    (h0 : C.frs 0 = fr) (h1 : C.hs 0 = h) (hq : Q .normal (C.frs ops.size) (C.hs ops.size)) : T P G N (.region id ops true) Q fr h := by
  subst h0; subst h1
  intro hn B ρ a w hf hr
  have H := C.heaps hf hr
  refine wp_region_any hm (C.wpAny_of (B := B) (ρ0 := ρ) (w0 := w) H (fun p hp => ?_) (fun a w ρ' q1 q2 => ?_) ops.size _ _ _ 0 ρ (Ctx.undone_none _) (C.start H hf hr))
  · obtain ⟨ρ, a, w, q1, q2, _⟩ := C.wit hf hr p hp
    exact ⟨ρ, a, w, q1, q2⟩
  · exact ⟨.normal, _, _, ρ', rfl, q1, q2, C.frN _ (Nat.le_refl _), hq⟩

end Go.Ab
