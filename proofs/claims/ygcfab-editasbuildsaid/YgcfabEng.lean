/-
  The engine of this seat's walks: a heap of known blocks ('Heap'), what an operation asks of it ('runH', 'vc'), lists of operations ('V', 'VD'), code ('W') and calls ('Fn').
-/
import Derived.Tactics
import Derived.Orders
import Derived.Laws.Sem
import Derived.Laws.World
namespace Go.Proofs.Ygcfab
namespace Eng

abbrev Heap := Nat → Option Obj
abbrev Env := Nat → Value

def upd {α : Type} (f : Nat → α) (i : Nat) (v : α) : Nat → α := fun j => if j = i then v else f j
theorem upd_same {α : Type} (f : Nat → α) (i : Nat) (v : α) : upd f i v i = v := by simp [upd]
theorem upd_ne {α : Type} (f : Nat → α) (i : Nat) (v : α) (j : Nat) (h : j ≠ i) : upd f i v j = f j := by simp [upd, h]
theorem upd_upd {α : Type} (f : Nat → α) (i : Nat) (v u : α) : upd (upd f i v) i u = upd f i u := by
  funext j; by_cases h : j = i <;> simp [upd, h]
theorem upd_comm {α : Type} (f : Nat → α) (i j : Nat) (v u : α) (h : i ≠ j) : upd (upd f i v) j u = upd (upd f j u) i v := by
  funext k
  by_cases h1 : k = i
  · subst h1; simp [upd, h]
  · by_cases h2 : k = j
    · subst h2; simp [upd, Ne.symm h]
    · simp [upd, h1, h2]

def Le (H G : Heap) : Prop := ∀ b o, H b = some o → G b = some o
theorem Le.refl (H : Heap) : Le H H := fun _ _ h => h
theorem Le.trans {A B C : Heap} (h : Le A B) (h' : Le B C) : Le A C := fun b o hb => h' b o (h b o hb)
theorem Le.fresh {H G : Heap} (h : Le H G) {b : Nat} (hb : H b = none) (o : Option Obj) : Le H (upd G b o) := by
  intro c x hx
  by_cases hc : c = b
  · subst hc; rw [hb] at hx; cases hx
  · rw [upd_ne _ _ _ _ hc]; exact h c x hx
theorem Le.upd {H G : Heap} (h : Le H G) (b : Nat) (o : Option Obj) : Le (upd H b o) (upd G b o) := by
  intro c x hx
  by_cases hc : c = b
  · subst hc; rw [upd_same] at hx ⊢; exact hx
  · rw [upd_ne _ _ _ _ hc] at hx ⊢; exact h c x hx

def Sat (w : World) (H : Heap) : Prop := ∀ b o, H b = some o → w.heap[b]? = some o
theorem Sat.le {w : World} {H G : Heap} (h : Sat w G) (l : Le H G) : Sat w H := fun b o hb => h b o (l b o hb)
theorem Sat.lt {w : World} {H : Heap} (h : Sat w H) {b : Nat} {o : Obj} (hb : H b = some o) : b < w.heap.size :=
  (Array.getElem?_eq_some_iff.1 (h b o hb)).1
theorem Sat.fresh {w : World} {H : Heap} (h : Sat w H) : H w.heap.size = none := by
  cases hb : H w.heap.size with
  | none => rfl
  | some o => exact absurd (h.lt hb) (Nat.lt_irrefl _)

/-- What became of the world: only blocks of H and new ones have turned; H' is what is known now. -/
structure Rel (H : Heap) (w : World) (H' : Heap) (w' : World) : Prop where
  sat : Sat w' H'
  size : w.heap.size ≤ w'.heap.size
  keep : ∀ b, b < w.heap.size → H b = none → w'.heap[b]? = w.heap[b]?
  dom : ∀ b, H' b ≠ none → H b ≠ none ∨ w.heap.size ≤ b
  tape : w'.tape = w.tape
  os : w'.os = w.os
  output : w'.output = w.output

theorem Rel.refl {H : Heap} {w : World} (h : Sat w H) : Rel H w H w :=
  ⟨h, Nat.le_refl _, fun _ _ _ => rfl, fun _ hb => .inl hb, rfl, rfl, rfl⟩

theorem Rel.trans {H H1 H2 : Heap} {w w1 w2 : World} (a : Rel H w H1 w1) (b : Rel H1 w1 H2 w2) : Rel H w H2 w2 := by
  refine ⟨b.sat, Nat.le_trans a.size b.size, fun c hc hn => ?_, fun c hc => ?_, b.tape.trans a.tape, b.os.trans a.os, b.output.trans a.output⟩
  · rw [b.keep c (Nat.lt_of_lt_of_le hc a.size) ?_]
    · exact a.keep c hc hn
    · cases h1 : H1 c with
      | none => rfl
      | some o =>
        rcases a.dom c (by rw [h1]; simp) with h | h
        · exact absurd hn h
        · omega
  · rcases b.dom c hc with h | h
    · exact a.dom c h
    · exact .inr (Nat.le_trans a.size h)

theorem Rel.weaken {H H' H'' : Heap} {w w' : World} (a : Rel H w H' w') (l : Le H'' H') : Rel H w H'' w' := by
  refine ⟨a.sat.le l, a.size, a.keep, fun b hb => ?_, a.tape, a.os, a.output⟩
  refine a.dom b ?_
  cases h : H'' b with
  | none => exact absurd h hb
  | some o => rw [l b o h]; simp

/-- A smaller start: the same end. -/
theorem Rel.start {H G H' : Heap} {w w' : World} (a : Rel H w H' w') (l : Le H G) : Rel G w H' w' := by
  refine ⟨a.sat, a.size, fun b hb hn => a.keep b hb ?_, fun b hb => ?_, a.tape, a.os, a.output⟩
  · cases h : H b with
    | none => rfl
    | some o => rw [l b o h] at hn; cases hn
  · rcases a.dom b hb with h | h
    · left
      cases h' : H b with
      | none => exact absurd h' h
      | some o => rw [l b o h']; simp
    · exact .inr h

/-- THE FRAME: what lay beside H lies there yet. -/
theorem Rel.frame {H G H' : Heap} {w w' : World} (hs : Sat w G) (l : Le H G) (a : Rel H w H' w') :
    ∃ G', Rel G w G' w' ∧ Le H' G' ∧ ∀ b, H b = none → G b ≠ none → G' b = G b := by
  refine ⟨fun b => match H' b with | some o => some o | none => if H b = none then G b else none, ⟨?_, a.size, ?_, ?_, a.tape, a.os, a.output⟩, ?_, ?_⟩
  · intro b o hb
    cases h' : H' b with
    | some o' => simp only [h'] at hb; cases hb; exact a.sat b _ h'
    | none =>
      simp only [h'] at hb
      split at hb
      · rename_i hn
        rw [a.keep b (hs.lt hb) hn]
        exact hs b o hb
      · cases hb
  · intro b hb hn
    refine a.keep b hb ?_
    cases h : H b with
    | none => rfl
    | some o => rw [l b o h] at hn; cases hn
  · intro b hb
    cases h' : H' b with
    | some o' =>
      rcases a.dom b (by rw [h']; simp) with h | h
      · left
        cases h2 : H b with
        | none => exact absurd h2 h
        | some o => rw [l b o h2]; simp
      · exact .inr h
    | none =>
      simp only [h'] at hb
      split at hb
      · exact .inl hb
      · exact absurd rfl hb
  · intro b o hb; simp only [hb]
  · intro b hn hg
    cases h' : H' b with
    | none => simp only [h', hn, if_true]
    | some o =>
      exfalso
      rcases a.dom b (by rw [h']; simp) with h | h
      · exact h hn
      · cases hgb : G b with
        | none => exact hg hgb
        | some x => exact absurd (hs.lt hgb) (by omega)

def hcell (H : Heap) (a : Addr) : Option Value :=
  match H a.block with
  | some (.cells c _ _) => if a.spot.isSome then none else c[a.off]?
  | _ => none
def hfrozen (H : Heap) (a : Addr) : Bool :=
  match H a.block with
  | some (.cells _ _ (lo, hi)) => lo ≤ a.off && a.off < hi
  | _ => false
def hset (H : Heap) (a : Addr) (v : Value) : Heap :=
  match H a.block with
  | some (.cells c e f) => upd H a.block (some (.cells (c.setIfInBounds a.off v) e f))
  | _ => H

theorem hset_ne {H : Heap} {a : Addr} {v : Value} {b : Nat} (h : b ≠ a.block) : hset H a v b = H b := by
  unfold hset
  cases H a.block with
  | none => rfl
  | some o => cases o <;> first | rfl | exact upd_ne _ _ _ _ h

def runH (P : Program) {α : Type} : Sem α → Heap → (α → Heap → Prop) → Prop
  | .pure a, H, k => k a H
  | .load _ a f, H, k => match hcell H a with
    | some v => runH P (f v) H k
    | none => False
  | .store _ a v f, H, k => v.oneCell' = true ∧ (hcell H a).isSome = true ∧ hfrozen H a = false ∧ runH P f (hset H a v) k
  | .new o f, H, k => ∀ b, H b = none → runH P (f b) (upd H b (some o)) k
  | .shape r f, H, k => match H r with
    | some (.cells c e _) => runH P (f (some (e, c.size))) H k
    | _ => False
  | .freeze _ _ _, _, _ => False
  | .frozen a f, H, k => match H a.block with
    | some (.cells _ _ _) => runH P (f (hfrozen H a)) H k
    | _ => False
  | .getObj r f, H, k => match H r with
    | some (.cells _ _ _) => False
    | some o => runH P (f o) H k
    | none => False
  | .setObj r o f, H, k => match H r with
    | some (.cells _ _ _) => False
    | some _ => runH P f (upd H r (some o)) k
    | none => False
  | .choose q f, H, k => if q.forced then runH P (f 0) H k else ∀ t, runH P (f (q.cut t)) H k
  | .sys _ _, _, _ => False
  | .program f, H, k => runH P (f P) H k
  | .mark _ f, H, k => runH P f H k
  | .halt _, _, _ => False

section
variable {P : Program} {α β : Type}

theorem runH_mono (s : Sem α) : ∀ (H : Heap) (k k' : α → Heap → Prop), (∀ a G, k a G → k' a G) → runH P s H k → runH P s H k' := by
  induction s with
  | pure a => intro H k k' hk h; exact hk _ _ h
  | load m a f ih =>
    intro H k k' hk h
    simp only [runH] at h ⊢
    split at h
    · exact ih _ H k k' hk h
    · exact h.elim
  | store m a v f ih => intro H k k' hk h; exact ⟨h.1, h.2.1, h.2.2.1, ih _ k k' hk h.2.2.2⟩
  | new o f ih => intro H k k' hk h b hb; exact ih b _ k k' hk (h b hb)
  | shape r f ih =>
    intro H k k' hk h
    simp only [runH] at h ⊢
    split at h
    · exact ih _ H k k' hk h
    · exact h.elim
  | freeze a n f ih => intro H k k' hk h; exact h.elim
  | frozen a f ih =>
    intro H k k' hk h
    simp only [runH] at h ⊢
    split at h
    · exact ih _ H k k' hk h
    · exact h.elim
  | getObj r f ih =>
    intro H k k' hk h
    simp only [runH] at h ⊢
    split at h
    · exact h.elim
    · exact ih _ H k k' hk h
    · exact h.elim
  | setObj r o f ih =>
    intro H k k' hk h
    simp only [runH] at h ⊢
    split at h
    · exact h.elim
    · exact ih _ k k' hk h
    · exact h.elim
  | choose q f ih =>
    intro H k k' hk h
    simp only [runH] at h ⊢
    split
    · rename_i hf; simp only [hf, if_true] at h; exact ih _ H k k' hk h
    · rename_i hf; simp only [hf] at h; exact fun t => ih _ H k k' hk (h t)
  | sys c f ih => intro H k k' hk h; exact h.elim
  | program f ih => intro H k k' hk h; exact ih _ H k k' hk h
  | mark m f ih => intro H k k' hk h; exact ih H k k' hk h
  | halt x => intro H k k' hk h; exact h.elim

theorem hcell_sat {w : World} {H : Heap} (hs : Sat w H) {a : Addr} {v : Value} (h : hcell H a = some v) : w.cell? a = some v := by
  unfold hcell at h
  split at h
  · rename_i c e f hb
    have := hs _ _ hb
    simp only [World.cell?, this]
    exact h
  · cases h

theorem sat_setCell {w : World} {H : Heap} (hs : Sat w H) {a : Addr} {v u : Value} (h : hcell H a = some u) : Sat (w.setCell a v) (hset H a v) := by
  unfold hcell at h
  split at h
  · rename_i c e f hb
    have hw := hs _ _ hb
    have hsp : a.spot.isSome = false := by
      cases hsp : a.spot.isSome with
      | false => rfl
      | true => simp [hsp] at h
    intro b o ho
    simp only [hset, hb] at ho
    by_cases hba : b = a.block
    · subst hba
      rw [upd_same] at ho
      cases ho
      simp only [World.setCell, Array.getElem?_modify, if_true, hw, Option.map_some, hsp]
      rfl
    · rw [upd_ne _ _ _ _ hba] at ho
      have := hs _ _ ho
      simp only [World.setCell, Array.getElem?_modify]
      rw [if_neg (fun e => hba e.symm)]
      exact this
  · cases h

theorem rel_setCell {w : World} {H : Heap} (hs : Sat w H) {a : Addr} {v u : Value} (h : hcell H a = some u) : Rel H w (hset H a v) (w.setCell a v) := by
  have h0 : H a.block ≠ none := by
    intro hn; unfold hcell at h; simp [hn] at h
  refine ⟨sat_setCell hs h, by simp, fun b _ hn => ?_, fun b hb => ?_, rfl, rfl, rfl⟩
  · have hne : a.block ≠ b := fun e => h0 (e ▸ hn)
    simp only [World.setCell, Array.getElem?_modify]
    rw [if_neg hne]
  · left
    by_cases hba : b = a.block
    · subst hba; exact h0
    · rw [hset_ne hba] at hb; exact hb

theorem rel_alloc {w : World} {H : Heap} (hs : Sat w H) (o : Obj) : Rel H w (upd H w.heap.size (some o)) { w with heap := w.heap.push o } := by
  refine ⟨?_, by simp, fun b hb _ => ?_, fun b hb => ?_, rfl, rfl, rfl⟩
  · intro b x hx
    by_cases hb : b = w.heap.size
    · subst hb; rw [upd_same] at hx; cases hx; simp
    · rw [upd_ne _ _ _ _ hb] at hx
      have := hs _ _ hx
      have hl := hs.lt hx
      simp only [Array.getElem?_push, Nat.ne_of_lt hl, if_false]
      exact this
  · simp only [Array.getElem?_push, Nat.ne_of_lt hb, if_false]
  · by_cases hbs : b = w.heap.size
    · exact .inr (Nat.le_of_eq hbs.symm)
    · rw [upd_ne _ _ _ _ hbs] at hb; exact .inl hb

theorem rel_drew {w : World} {H : Heap} (hs : Sat w H) : Rel H w H { w with drawn := w.drawn + 1 } :=
  ⟨hs, Nat.le_refl _, fun _ _ _ => rfl, fun _ h => .inl h, rfl, rfl, rfl⟩

theorem rel_setObj {w : World} {H : Heap} (hs : Sat w H) {r : Nat} {x : Obj} (hx : H r = some x) (o : Obj) : Rel H w (upd H r (some o)) { w with heap := w.heap.setIfInBounds r o } := by
  have hl := hs.lt hx
  refine ⟨?_, by simp, fun b hb hn => ?_, fun b hb => ?_, rfl, rfl, rfl⟩
  · intro b y hy
    by_cases hb : b = r
    · subst hb; rw [upd_same] at hy; cases hy; simp [hl]
    · rw [upd_ne _ _ _ _ hb] at hy
      have := hs _ _ hy
      simp only [Array.getElem?_setIfInBounds_ne (fun e => hb e.symm)]
      exact this
  · have hne : r ≠ b := fun e => by subst e; rw [hx] at hn; cases hn
    simp only [Array.getElem?_setIfInBounds_ne hne]
  · by_cases hbr : b = r
    · subst hbr; left; rw [hx]; simp
    · rw [upd_ne _ _ _ _ hbr] at hb; exact .inl hb

theorem runH_sound (s : Sem α) : ∀ (H : Heap) (k : α → Heap → Prop) (w : World), Sat w H → runH P s H k →
    ∃ a w' H', s.run P w = .ok a w' ∧ Rel H w H' w' ∧ k a H' := by
  induction s with
  | pure a => intro H k w hs h; exact ⟨a, w, H, rfl, .refl hs, h⟩
  | load m a f ih =>
    intro H k w hs h
    simp only [runH] at h
    split at h
    · rename_i v hv
      obtain ⟨x, w', H', hr, hrel, hk⟩ := ih v H k w hs h
      exact ⟨x, w', H', by simp only [Sem.run, hcell_sat hs hv]; exact hr, hrel, hk⟩
    · exact h.elim
  | store m a v f ih =>
    intro H k w hs h
    obtain ⟨h1, h2, h3, h4⟩ := h
    cases hc : hcell H a with
    | none => rw [hc] at h2; cases h2
    | some u =>
      have hrel := rel_setCell (v := v) hs hc
      obtain ⟨x, w', H', hr, hrel', hk⟩ := ih _ k _ hrel.sat h4
      have hfz : w.frozen? a = false := by
        unfold hfrozen at h3
        unfold hcell at hc
        split at hc
        · rename_i c e fr hb
          simp only [World.frozen?, hs _ _ hb]
          simp only [hb] at h3
          exact h3
        · cases hc
      refine ⟨x, w', H', ?_, hrel.trans hrel', hk⟩
      have hcw := hcell_sat hs hc
      cases v <;> first
        | (simp [Value.oneCell'] at h1; done)
        | (simp only [Sem.run, hcw, hfz]; exact hr)
  | new o f ih =>
    intro H k w hs h
    have hrel := rel_alloc hs o
    obtain ⟨x, w', H', hr, hrel', hk⟩ := ih _ _ k _ hrel.sat (h _ hs.fresh)
    exact ⟨x, w', H', hr, hrel.trans hrel', hk⟩
  | shape r f ih =>
    intro H k w hs h
    simp only [runH] at h
    split at h
    · rename_i c e fr hv
      obtain ⟨x, w', H', hr, hrel, hk⟩ := ih _ H k w hs h
      exact ⟨x, w', H', by simp only [Sem.run, World.shape?, hs _ _ hv]; exact hr, hrel, hk⟩
    · exact h.elim
  | freeze a n f ih => intro H k w hs h; exact h.elim
  | frozen a f ih =>
    intro H k w hs h
    simp only [runH] at h
    split at h
    · rename_i c e fr hv
      obtain ⟨x, w', H', hr, hrel, hk⟩ := ih _ H k w hs h
      refine ⟨x, w', H', ?_, hrel, hk⟩
      simp only [Sem.run, World.frozen?, hs _ _ hv]
      simp only [hfrozen, hv] at hr
      exact hr
    · exact h.elim
  | getObj r f ih =>
    intro H k w hs h
    simp only [runH] at h
    split at h
    · exact h.elim
    · rename_i o hc ho
      obtain ⟨x, w', H', hr, hrel, hk⟩ := ih _ H k w hs h
      refine ⟨x, w', H', ?_, hrel, hk⟩
      simp only [Sem.run, hs _ _ ho]
      cases o <;> first
        | exact hr
        | exact (hc _ _ _ ho).elim
    · exact h.elim
  | setObj r o f ih =>
    intro H k w hs h
    simp only [runH] at h
    split at h
    · exact h.elim
    · rename_i y hc ho
      have hrel := rel_setObj hs ho o
      obtain ⟨x, w', H', hr, hrel', hk⟩ := ih _ k _ hrel.sat h
      refine ⟨x, w', H', ?_, hrel.trans hrel', hk⟩
      simp only [Sem.run, hs _ _ ho]
      cases y <;> first
        | exact hr
        | exact (hc _ _ _ ho).elim
    · exact h.elim
  | choose q f ih =>
    intro H k w hs h
    simp only [runH] at h
    split at h
    · rename_i hf
      obtain ⟨x, w', H', hr, hrel, hk⟩ := ih _ H k w hs h
      exact ⟨x, w', H', by simp only [Sem.run, hf, if_true]; exact hr, hrel, hk⟩
    · rename_i hf
      have hrel := rel_drew hs
      obtain ⟨x, w', H', hr, hrel', hk⟩ := ih _ H k _ hrel.sat (h (w.tape w.drawn q))
      exact ⟨x, w', H', by simp only [Sem.run, hf]; exact hr, hrel.trans hrel', hk⟩
  | sys c f ih => intro H k w hs h; exact h.elim
  | program f ih => intro H k w hs h; exact ih _ H k w hs h
  | mark m f ih => intro H k w hs h; exact ih H k w hs h
  | halt x => intro H k w hs h; exact h.elim

theorem runH_bind' (s : Sem α) (f : α → Sem β) : ∀ (H : Heap) (k : β → Heap → Prop), runH P (s.bind f) H k = runH P s H (fun a H' => runH P (f a) H' k) := by
  induction s with
  | pure a => intro H k; rfl
  | load m a g ih => intro H k; simp only [Sem.bind, runH]; split <;> simp [ih]
  | store m a v g ih => intro H k; simp only [Sem.bind, runH, ih]
  | new o g ih => intro H k; simp only [Sem.bind, runH, ih]
  | shape r g ih => intro H k; simp only [Sem.bind, runH]; split <;> simp [ih]
  | freeze a n g ih => intro H k; rfl
  | frozen a g ih => intro H k; simp only [Sem.bind, runH]; split <;> simp [ih]
  | getObj r g ih => intro H k; simp only [Sem.bind, runH]; split <;> simp [ih]
  | setObj r o g ih => intro H k; simp only [Sem.bind, runH]; split <;> simp [ih]
  | choose q g ih => intro H k; simp only [Sem.bind, runH, ih]
  | sys c g ih => intro H k; rfl
  | program g ih => intro H k; simp only [Sem.bind, runH, ih]
  | mark m g ih => intro H k; simp only [Sem.bind, runH, ih]
  | halt x => intro H k; rfl

theorem runH_bind (s : Sem α) (f : α → Sem β) (H : Heap) (k : β → Heap → Prop) : runH P (s >>= f) H k = runH P s H (fun a H' => runH P (f a) H' k) := runH_bind' s f H k
theorem runH_map (s : Sem α) (f : α → β) (H : Heap) (k : β → Heap → Prop) : runH P (f <$> s) H k = runH P s H (fun a H' => k (f a) H') := runH_bind' s _ H k
theorem runH_pure (a : α) (H : Heap) (k : α → Heap → Prop) : runH P (Pure.pure a : Sem α) H k = k a H := rfl
theorem runH_ite (c : Prop) [Decidable c] (x y : Sem α) (H : Heap) (k : α → Heap → Prop) : runH P (if c then x else y) H k = if c then runH P x H k else runH P y H k := by split <;> rfl

theorem hcell_le {H G : Heap} (l : Le H G) {a : Addr} {v : Value} (h : hcell H a = some v) : hcell G a = some v := by
  unfold hcell at h ⊢
  split at h
  · rename_i c e f hb; simp only [l _ _ hb]; exact h
  · cases h

theorem runH_frame (s : Sem α) : ∀ (H : Heap) (k : α → Heap → Prop) (G : Heap), Le H G → runH P s H k →
    runH P s G (fun a G' => ∃ H', k a H' ∧ Le H' G' ∧ ∀ b, H b = none → G b ≠ none → H' b = none ∧ G' b = G b) := by
  induction s with
  | pure a => intro H k G l h; exact ⟨H, h, l, fun _ hn _ => ⟨hn, rfl⟩⟩
  | load m a f ih =>
    intro H k G l h
    simp only [runH] at h ⊢
    split at h
    · rename_i v hv; simp only [hcell_le l hv]; exact ih v H k G l h
    · exact h.elim
  | store m a v f ih =>
    intro H k G l h
    obtain ⟨h1, h2, h3, h4⟩ := h
    cases hc : hcell H a with
    | none => rw [hc] at h2; cases h2
    | some u =>
      have hc' := hc
      unfold hcell at hc'
      split at hc'
      · rename_i c e fr hb
        have hg := l _ _ hb
        have hle : Le (hset H a v) (hset G a v) := by
          simp only [hset, hb, hg]; exact l.upd _ _
        refine ⟨h1, by rw [hcell_le l hc]; rfl, ?_, ?_⟩
        · simp only [hfrozen, hb] at h3
          simp only [hfrozen, hg]; exact h3
        · refine runH_mono f _ _ _ ?_ (ih _ k _ hle h4)
          rintro x G' ⟨H', hk, hl, hkeep⟩
          refine ⟨H', hk, hl, fun b hn hgn => ?_⟩
          have hba : b ≠ a.block := fun e => by subst e; rw [hb] at hn; cases hn
          have e1 : hset H a v b = H b := by simp only [hset, hb]; exact upd_ne _ _ _ _ hba
          have e2 : hset G a v b = G b := by simp only [hset, hg]; exact upd_ne _ _ _ _ hba
          have hh := hkeep b (e1.trans hn) (by rw [e2]; exact hgn)
          exact ⟨hh.1, hh.2.trans e2⟩
      · cases hc'
  | new o f ih =>
    intro H k G l h b hb
    have hn : H b = none := by
      cases hh : H b with
      | none => rfl
      | some x => rw [l _ _ hh] at hb; cases hb
    refine runH_mono (f b) _ _ _ ?_ (ih b _ k _ (l.upd b (some o)) (h b hn))
    rintro x G' ⟨H', hk, hl, hkeep⟩
    refine ⟨H', hk, hl, fun c hcn hgn => ?_⟩
    have hcb : c ≠ b := fun e => hgn (e ▸ hb)
    have hh := hkeep c (by rw [upd_ne _ _ _ _ hcb]; exact hcn) (by rw [upd_ne _ _ _ _ hcb]; exact hgn)
    exact ⟨hh.1, hh.2.trans (upd_ne _ _ _ _ hcb)⟩
  | shape r f ih =>
    intro H k G l h
    simp only [runH] at h ⊢
    split at h
    · rename_i c e fr hv; simp only [l _ _ hv]; exact ih _ H k G l h
    · exact h.elim
  | freeze a n f ih => intro H k G l h; exact h.elim
  | frozen a f ih =>
    intro H k G l h
    simp only [runH] at h ⊢
    split at h
    · rename_i c e fr hv
      simp only [l _ _ hv]
      have : hfrozen G a = hfrozen H a := by simp only [hfrozen, hv, l _ _ hv]
      rw [this]
      exact ih _ H k G l h
    · exact h.elim
  | getObj r f ih =>
    intro H k G l h
    simp only [runH] at h ⊢
    split at h
    · exact h.elim
    · rename_i o hc ho
      simp only [l _ _ ho]
      exact ih _ H k G l h
    · exact h.elim
  | setObj r o f ih =>
    intro H k G l h
    simp only [runH] at h ⊢
    split at h
    · exact h.elim
    · rename_i y hc ho
      simp only [l _ _ ho]
      refine runH_mono f _ _ _ ?_ (ih _ k _ (l.upd r (some o)) h)
      rintro x G' ⟨H', hk, hl, hkeep⟩
      refine ⟨H', hk, hl, fun c hcn hgn => ?_⟩
      have hcr : c ≠ r := fun e => by subst e; rw [ho] at hcn; cases hcn
      have hh := hkeep c (by rw [upd_ne _ _ _ _ hcr]; exact hcn) (by rw [upd_ne _ _ _ _ hcr]; exact hgn)
      exact ⟨hh.1, hh.2.trans (upd_ne _ _ _ _ hcr)⟩
    · exact h.elim
  | choose q f ih =>
    intro H k G l h
    simp only [runH] at h ⊢
    split
    · rename_i hf; simp only [hf, if_true] at h; exact ih _ H k G l h
    · rename_i hf; simp only [hf] at h; exact fun t => ih _ H k G l (h t)
  | sys c f ih => intro H k G l h; exact h.elim
  | program f ih => intro H k G l h; exact ih _ H k G l h
  | mark m f ih => intro H k G l h; exact ih H k G l h
  | halt x => intro H k G l h; exact h.elim
end

/-- THE CALL of a function, over what is known of the heap. -/
structure Fn (P : Program) (f : FuncId) (args : Array Value) (H : Heap) (R : Value → Heap → Prop) : Prop where
  run : ∀ w, Sat w H → Calls P f args w (fun e w' => ∃ v H', e = .returned v ∧ Rel H w H' w' ∧ R v H')

theorem Fn.mono {P : Program} {f : FuncId} {args : Array Value} {H : Heap} {R R' : Value → Heap → Prop} (h : Fn P f args H R) (hr : ∀ v H', R v H' → R' v H') : Fn P f args H R' :=
  ⟨fun w hs => (h.run w hs).mono fun _ _ ⟨v, H', he, hrel, hk⟩ => ⟨v, H', he, hrel, hr _ _ hk⟩⟩

/-- A contract that says what comes out and what the heap is then, used. -/
theorem Fn.use {P : Program} {f : FuncId} {args : Array Value} {H G : Heap} {x : Value} {k : Value → Heap → Prop} (h : Fn P f args H (fun v H' => v = x ∧ H' = G)) (hk : k x G) : Fn P f args H k :=
  h.mono fun _ _ ⟨e1, e2⟩ => by rw [e1, e2]; exact hk

theorem Fn.frame {P : Program} {f : FuncId} {args : Array Value} {H G : Heap} {R : Value → Heap → Prop} (l : Le H G) (h : Fn P f args H R) :
    Fn P f args G (fun v G' => ∃ H', R v H' ∧ Le H' G' ∧ ∀ b, H b = none → G b ≠ none → G' b = G b) := by
  refine ⟨fun w hs => ?_⟩
  refine (h.run w (hs.le l)).mono ?_
  rintro e w' ⟨v, H', he, hrel, hk⟩
  obtain ⟨G', hG, hl, hkeep⟩ := hrel.frame hs l
  exact ⟨v, G', he, hG, H', hk, hl, hkeep⟩

def ev (T : Env) : Operand → Value
  | .tmp t => T t
  | .const v => v
  | .global g => .pointer (some ⟨g, 0, none⟩)
  | .func f => .func (.func f) #[] #[]

def nextK (P : Program) (k : Value → Heap → Prop) : Next → Heap → Prop
  | .value v, H => k v H
  | .skip, H => k undef H
  | .enter f args, H => Fn P f args H k
  | _, _ => False

/-- What one operation asks. -/
def vc (P : Program) (o : Oper) (T : Env) (H : Heap) (k : Value → Heap → Prop) : Prop := runH P (execOp (ev T) o) H (nextK P k)

theorem nextK_mono {P : Program} {k k' : Value → Heap → Prop} (hk : ∀ v G, k v G → k' v G) (x : Next) (H : Heap) (h : nextK P k x H) : nextK P k' x H := by
  cases x <;> first
    | exact hk _ _ h
    | exact Fn.mono h hk
    | exact h

theorem vc_mono {P : Program} {o : Oper} {T : Env} {H : Heap} {k k' : Value → Heap → Prop} (hk : ∀ v G, k v G → k' v G) (h : vc P o T H k) : vc P o T H k' :=
  runH_mono _ _ _ _ (fun x G hx => nextK_mono hk x G hx) h

theorem vc_frame {P : Program} {o : Oper} {T : Env} {H G : Heap} {k : Value → Heap → Prop} (l : Le H G) (h : vc P o T H k) :
    vc P o T G (fun v G' => ∃ H', k v H' ∧ Le H' G' ∧ ∀ b, H b = none → G b ≠ none → G' b = G b) := by
  refine runH_mono _ _ _ _ ?_ (runH_frame _ H _ G l h)
  rintro x G' ⟨H', hx, hl, hkeep⟩
  cases x with
  | value v => exact ⟨H', hx, hl, fun b hb hg => (hkeep b hb hg).2⟩
  | skip => exact ⟨H', hx, hl, fun b hb hg => (hkeep b hb hg).2⟩
  | enter f args =>
    refine (Fn.frame hl hx).mono ?_
    rintro v G'' ⟨H'', hk, hl', hkeep'⟩
    refine ⟨H'', hk, hl', fun b hb hg => ?_⟩
    obtain ⟨h1, h2⟩ := hkeep b hb hg
    rw [hkeep' b h1 (by rw [h2]; exact hg), h2]
  | _ => exact hx.elim

/-- The frame of temporaries, as a function. -/
structure Mt (n : Nat) (a : Act) (T : Env) : Prop where
  size : a.tmps.size = n
  defers : a.defers = []
  get : ∀ i, a.tmps.getD i undef = T i

def put (T : Env) (d : Option Tmp) (v : Value) : Env :=
  match d with
  | some d => upd T d v
  | none => T
def dOk (n : Nat) (d : Option Tmp) : Prop :=
  match d with
  | some d => d < n
  | none => True
theorem Mt.put {n : Nat} {a : Act} {T : Env} (h : Mt n a T) {d : Option Tmp} (hd : dOk n d) (v : Value) : Mt n (a.put d v) (put T d v) := by
  cases d with
  | none => exact h
  | some d =>
    refine ⟨by simp [Act.put, h.size], h.defers, fun i => ?_⟩
    by_cases hi : i = d
    · subst hi
      have : i < a.tmps.size := by rw [h.size]; exact hd
      simp [Act.put, Eng.put, upd_same, this]
    · simp only [Eng.put, upd_ne _ _ _ _ hi, ← h.get i, Act.put]
      simp [Array.getElem?_setIfInBounds_ne (fun e => hi e.symm)]
theorem Mt.eval {n : Nat} {a : Act} {T : Env} (h : Mt n a T) : a.eval = ev T := by
  funext x
  cases x <;> simp only [Act.eval, ev]
  exact h.get _

/-- Is the operation's guard met? -/
def gd (ops : Array Oper) (o : Oper) (T : Env) : Bool :=
  match o.guard with
  | none => true
  | some (j, want) =>
    match (ops[j]?).bind (·.dst) with
    | some d => match T d with
      | .bool b => b == want
      | _ => false
    | none => false
theorem Mt.wanted {n : Nat} {a : Act} {T : Env} (h : Mt n a T) (ops : Array Oper) (o : Oper) : Region.wanted o (yielded ops a.tmps) = gd ops o T := by
  unfold Region.wanted gd
  cases o.guard with
  | none => rfl
  | some g =>
    obtain ⟨j, want⟩ := g
    simp only [yielded]
    cases hd : (ops[j]?).bind (·.dst) with
    | none => rfl
    | some d =>
      simp only [Option.bind_some]
      have hg := h.get d
      rw [Array.getD_eq_getD_getElem?] at hg
      cases ht : a.tmps[d]? with
      | none =>
        rw [ht] at hg
        simp only [Option.getD_none] at hg
        rw [← hg]
        rfl
      | some v =>
        rw [ht] at hg
        simp only [Option.getD_some] at hg
        rw [← hg]
        cases v <;> first
          | rfl
          | (rename_i b; cases b <;> cases want <;> rfl)

section
variable {P : Program} {n : Nat} {ops : Array Oper}

/-- Operations one behind the other. -/
def V (P : Program) (n : Nat) (ops : Array Oper) (Q : Env → Heap → Prop) : List Oper → Env → Heap → Prop
  | [], T, H => Q T H
  | o :: l, T, H => dOk n o.dst ∧ if gd ops o T then vc P o T H (fun v H' => V P n ops Q l (put T o.dst v) H') else V P n ops Q l (put T o.dst undef) H

/-- The wp of one operation, from 'vc'. -/
theorem vc_sound {o : Oper} {T : Env} {H : Heap} {a : Act} {w : World} {k : Value → Heap → Prop} {K : Act → World → Prop} {Q : Exit → Act → World → Prop}
    (hs : Sat w H) (hm : Mt n a T) (h : vc P o T H k) (hK : ∀ v w' H', Rel H w H' w' → k v H' → K (a.put o.dst v) w') : o.wp P a w K Q := by
  unfold Oper.wp
  rw [hm.eval]
  obtain ⟨x, w', H', hr, hrel, hk⟩ := runH_sound _ H _ w hs h
  rw [hr]
  cases x with
  | value v => exact hK v w' H' hrel hk
  | skip => exact hK undef w' H' hrel hk
  | enter f args =>
    refine (hk.run w' hrel.sat).mono ?_
    rintro e w'' ⟨v, H'', rfl, hrel', hk'⟩
    exact hK v w'' H'' (hrel.trans hrel') hk'
  | _ => exact hk.elim

theorem V_sound {Q : Env → Heap → Prop} {Q' : Exit → Act → World → Prop} (H0 : Heap) (w0 : World)
    (hQ : ∀ a T w H, Mt n a T → Rel H0 w0 H w → Q T H → Q' .normal a w) :
    ∀ (l : List Oper) (T : Env) (H : Heap) (a : Act) (w : World), Mt n a T → Rel H0 w0 H w → V P n ops Q l T H → wpList P ops Q' l a w := by
  intro l
  induction l with
  | nil => intro T H a w hm hr h; exact hQ a T w H hm hr h
  | cons o l ih =>
    intro T H a w hm hr h
    obtain ⟨hd, h⟩ := h
    unfold wpList
    rw [hm.wanted]
    split
    · rename_i hg
      simp only [hg, if_true] at h
      refine .inl (vc_sound hr.sat hm h fun v w' H' hrel hk => ?_)
      exact ih _ _ _ _ (hm.put hd v) (hr.trans hrel) hk
    · rename_i hg
      simp only [hg] at h
      exact ih _ _ _ _ (hm.put hd undef) hr h

/-- CODE. -/
structure W (P : Program) (n : Nat) (c : Code) (Q : Exit → Env → Heap → Prop) (T : Env) (H : Heap) : Prop where
  run : ∀ a w, Mt n a T → Sat w H → c.wp P (fun e a' w' => ∃ T' H', Mt n a' T' ∧ Rel H w H' w' ∧ Q e T' H') a w

theorem W_mono {c : Code} {Q Q' : Exit → Env → Heap → Prop} {T : Env} {H : Heap} (hq : ∀ e T H, Q e T H → Q' e T H) (h : W P n c Q T H) : W P n c Q' T H :=
  ⟨fun a w hm hs => wp_mono (h.run a w hm hs) fun _ _ _ ⟨T', H', a1, a2, a3⟩ => ⟨T', H', a1, a2, hq _ _ _ a3⟩⟩

theorem W_le {c : Code} {Q : Exit → Env → Heap → Prop} {T : Env} {H G : Heap} (l : Le H G) (h : W P n c Q T H) : W P n c Q T G :=
  ⟨fun a w hm hs => wp_mono (h.run a w hm (hs.le l)) fun _ _ _ ⟨T', H', a1, a2, a3⟩ => ⟨T', H', a1, a2.start l, a3⟩⟩

theorem W_region {id : Nat} {l : List Oper} {Q : Exit → Env → Heap → Prop} {T : Env} {H : Heap} (h : V P n l.toArray (Q .normal) l T H) : W P n (.region id l.toArray false) Q T H :=
  ⟨fun a w hm hs => wp_region_lit (V_sound H w (fun _ T _ H a1 a2 a3 => ⟨T, H, a1, a2, a3⟩) l T H a w hm (.refl hs) h)⟩

def thenQ (k : Env → Heap → Prop) (Q : Exit → Env → Heap → Prop) : Exit → Env → Heap → Prop
  | .normal, T, H => k T H
  | e, T, H => Q e T H
def blockQ (id : Nat) (Q : Exit → Env → Heap → Prop) : Exit → Env → Heap → Prop
  | .exit id', T, H => if id' = id then Q .normal T H else Q (.exit id') T H
  | e, T, H => Q e T H

theorem W_seq {x y : Code} {Q : Exit → Env → Heap → Prop} {T : Env} {H : Heap} (h : W P n x (thenQ (W P n y Q) Q) T H) : W P n (.seq x y) Q T H := by
  refine ⟨fun a w hm hs => ?_⟩
  refine wp_seq (wp_mono (h.run a w hm hs) ?_)
  rintro e a' w' ⟨T', H', hm', hr, hq⟩
  cases e with
  | normal => exact wp_mono (hq.run a' w' hm' hr.sat) fun _ _ _ ⟨T2, H2, a1, a2, a3⟩ => ⟨T2, H2, a1, hr.trans a2, a3⟩
  | _ => exact ⟨T', H', hm', hr, hq⟩

theorem W_cond {c : Operand} {x y : Code} {Q : Exit → Env → Heap → Prop} {T : Env} {H : Heap} {b : Bool} (hc : ev T c = .bool b)
    (ht : b = true → W P n x Q T H) (hf : b = false → W P n y Q T H) : W P n (.cond c x y) Q T H := by
  refine ⟨fun a w hm hs => ?_⟩
  refine wp_cond (t := b) (by rw [hm.eval]; exact hc) ?_
  cases b with
  | true => exact (ht rfl).run a w hm hs
  | false => exact (hf rfl).run a w hm hs

theorem W_skip {Q : Exit → Env → Heap → Prop} {T : Env} {H : Heap} (h : Q .normal T H) : W P n .skip Q T H :=
  ⟨fun _ _ hm hs => wp_skip ⟨T, H, hm, .refl hs, h⟩⟩
theorem W_ret {Q : Exit → Env → Heap → Prop} {T : Env} {H : Heap} (h : Q .ret T H) : W P n .ret Q T H :=
  ⟨fun _ _ hm hs => wp_ret ⟨T, H, hm, .refl hs, h⟩⟩
theorem W_exit {id : Nat} {Q : Exit → Env → Heap → Prop} {T : Env} {H : Heap} (h : Q (.exit id) T H) : W P n (.exit id) Q T H :=
  ⟨fun _ _ hm hs => wp_exit ⟨T, H, hm, .refl hs, h⟩⟩
theorem W_block {id : Nat} {c : Code} {Q : Exit → Env → Heap → Prop} {T : Env} {H : Heap} (h : W P n c (blockQ id Q) T H) : W P n (.block id c) Q T H := by
  refine ⟨fun a w hm hs => ?_⟩
  refine wp_block (wp_mono (h.run a w hm hs) ?_)
  rintro e a' w' ⟨T', H', hm', hr, hq⟩
  cases e with
  | exit id' =>
    simp only [blockQ] at hq
    simp only [Exit.inBlock]
    split
    · rename_i he; rw [if_pos he] at hq; exact ⟨T', H', hm', hr, hq⟩
    · rename_i he; rw [if_neg he] at hq; exact ⟨T', H', hm', hr, hq⟩
  | _ => exact ⟨T', H', hm', hr, hq⟩

/-- A loop: 'I m' holds at a round's head with m rounds at most to go. -/
theorem W_loop {c : Code} {Q : Exit → Env → Heap → Prop} (I : Nat → Env → Heap → Prop)
    (round : ∀ m T H, I m T H → W P n c (thenQ (fun T' H' => ∃ m', m' < m ∧ I m' T' H') Q) T H) :
    ∀ (m : Nat) (T : Env) (H : Heap), I m T H → W P n (.loop c) Q T H := by
  intro m T H hI
  refine ⟨fun a w hm hs b k cs => ?_⟩
  have key : ∀ (m : Nat) (T : Env) (G : Heap) (a : Act) (w' : World), I m T G → Mt n a T → Rel H w G w' →
      ∃ e a' w'', (∃ T' H', Mt n a' T' ∧ Rel H w H' w'' ∧ Q e T' H') ∧ Arrives P (lone (b.at a (.code c :: .inLoop c :: k)) cs w') b k cs e a' w'' := by
    intro m
    induction m using Nat.strongRecOn with
    | _ m ih =>
      intro T G a w' hI hm hr
      obtain ⟨e, a1, w1, ⟨T1, H1, hm1, hr1, hq⟩, harr⟩ := (round m T G hI).run a w' hm hr.sat b (.inLoop c :: k) cs
      cases e with
      | normal =>
        obtain ⟨m', hlt, hI'⟩ := hq
        obtain ⟨e2, a2, w2, hq2, harr2⟩ := ih m' hlt T1 H1 a1 w1 hI' hm1 (hr.trans hr1)
        exact ⟨e2, a2, w2, hq2, .of_steps (Steps.trans harr (.one step_inLoop)) harr2⟩
      | exit id => exact ⟨_, a1, w1, ⟨T1, H1, hm1, hr.trans hr1, hq⟩, .pass (x := .inLoop c) rfl (fun _ _ => .inl (by simp)) harr⟩
      | goto l => exact ⟨_, a1, w1, ⟨T1, H1, hm1, hr.trans hr1, hq⟩, .pass (x := .inLoop c) rfl (fun _ _ => .inl (by simp)) harr⟩
      | ret => exact ⟨_, a1, w1, ⟨T1, H1, hm1, hr.trans hr1, hq⟩, .pass (x := .inLoop c) rfl (fun _ _ => .inl (by simp)) harr⟩
      | panic ch => exact ⟨_, a1, w1, ⟨T1, H1, hm1, hr.trans hr1, hq⟩, .pass (x := .inLoop c) rfl (fun _ _ => .inl (by simp)) harr⟩
      | outgrown => exact ⟨_, a1, w1, ⟨T1, H1, hm1, hr.trans hr1, hq⟩, .pass (x := .inLoop c) rfl (fun _ _ => .inl (by simp)) harr⟩
  obtain ⟨e, a', w', hq, harr⟩ := key m T H a w hI hm (.refl hs)
  exact ⟨e, a', w', hq, .of_steps (.one step_loop) harr⟩

/-- It reads, and writes nothing. -/
def ro {α : Type} : Sem α → Prop
  | .pure _ => True
  | .load _ _ f => ∀ v, ro (f v)
  | .program f => ∀ p, ro (f p)
  | .halt _ => True
  | _ => False
theorem ro_bind {α β : Type} (s : Sem α) (f : α → Sem β) (h : ro s) (hf : ∀ a, ro (f a)) : ro (s >>= f) := by
  show ro (s.bind f)
  induction s with
  | pure a => exact hf a
  | load m a g ih => exact fun v => ih v (h v)
  | program g ih => exact fun v => ih v (h v)
  | halt x => trivial
  | _ => exact h.elim
theorem run_ro {α : Type} (s : Sem α) (h : ro s) : ∀ (w w' : World) (a : α), s.run P w = .ok a w' → w' = w := by
  induction s with
  | pure a => intro w w' b hr; simp only [Sem.run] at hr; cases hr; rfl
  | load m a g ih =>
    intro w w' b hr
    simp only [Sem.run] at hr
    split at hr
    · exact ih _ (h _) w w' b hr
    · split at hr
      · exact ih _ (h _) w w' b hr
      · cases hr
  | program g ih => intro w w' b hr; exact ih _ (h _) w w' b hr
  | halt x => intro w w' b hr; cases hr
  | _ => exact h.elim
theorem ro_underlying (t : TypeId) : ro (underlying t) := by
  unfold underlying
  refine ro_bind _ _ (fun _ => trivial) fun p => ?_
  split <;> trivial
theorem ro_isAgg (t : TypeId) : ro (isAgg t) := by
  unfold isAgg
  refine ro_bind _ _ (ro_underlying t) fun d => ?_
  split <;> trivial
theorem ro_sizeOf (t : TypeId) : ro (sizeOf t) := by
  unfold sizeOf typeInfo
  refine ro_bind _ _ (ro_bind _ _ (fun _ => trivial) fun p => ?_) fun _ => trivial
  split <;> trivial
theorem ro_loadCellsFrom (a : Addr) : ∀ (n i : Nat) (acc : Array Value), ro (loadCellsFrom a i n acc)
  | 0, _, _ => trivial
  | n + 1, i, _ => ro_bind _ _ (fun _ => trivial) fun _ => ro_loadCellsFrom a n (i + 1) _
theorem ro_loadVar (t : TypeId) (a : Addr) : ro (loadVar t a) := by
  unfold loadVar
  refine ro_bind _ _ (ro_isAgg t) fun b => ?_
  split
  · exact ro_bind _ _ (ro_sizeOf t) fun n => ro_bind _ _ (ro_loadCellsFrom a n 0 _) fun _ => trivial
  · exact fun _ => trivial

/-- One result: out of a temporary, or out of memory. -/
def resOne (T : Env) : ResultVar → Sem Value
  | .tmp t => pure (T t)
  | .cell a t => match T a with
    | .pointer (some ad) => loadVar t ad
    | _ => stuck "no result"
theorem ro_resOne (T : Env) (r : ResultVar) : ro (resOne T r) := by
  cases r with
  | tmp t => trivial
  | cell a t =>
    unfold resOne
    simp only []
    split
    · exact ro_loadVar _ _
    · trivial
def tupleOf : List Value → Value
  | [v] => v
  | vs => .tuple vs.toArray
/-- The results, one behind the other. -/
def resH (P : Program) (H : Heap) (T : Env) : List ResultVar → (List Value → Prop) → Prop
  | [], k => k []
  | r :: rs, k => runH P (resOne T r) H (fun v _ => resH P H T rs (fun vs => k (v :: vs)))
def endQ (P : Program) (rs : List ResultVar) (R : Value → Heap → Prop) : Exit → Env → Heap → Prop
  | .normal, T, H | .ret, T, H => resH P H T rs (fun vs => ∃ H', Le H' H ∧ R (tupleOf vs) H')
  | _, _, _ => False

theorem resH_sound {H : Heap} {T : Env} {w : World} (hs : Sat w H) : ∀ (rs : List ResultVar) (k : List Value → Prop), resH P H T rs k →
    ∃ vs, (rs.mapM (resOne T)).run P w = .ok vs w ∧ k vs
  | [], k, h => ⟨[], rfl, h⟩
  | r :: rs, k, h => by
    obtain ⟨v, w', H', hr, hrel, hk⟩ := runH_sound _ H _ w hs h
    have hw : w' = w := run_ro _ (ro_resOne T r) w w' v hr
    subst hw
    obtain ⟨vs, hvs, hk2⟩ := resH_sound hs rs _ hk
    exact ⟨v :: vs, by rw [List.mapM_cons]; simp [hr, hvs], hk2⟩

def resReal (tmps : Array Value) : ResultVar → Sem Value
  | .tmp t => pure (tmps.getD t undef)
  | .cell a t => do loadVar t (← asAddr (tmps.getD a undef))
theorem resReal_run {a : Act} {T : Env} (hm : Mt n a T) {w w' : World} {v : Value} (r : ResultVar) (h : (resOne T r).run P w = .ok v w') : (resReal a.tmps r).run P w = .ok v w' := by
  cases r with
  | tmp t => simp only [resReal, hm.get]; exact h
  | cell x t =>
    simp only [resOne] at h
    simp only [resReal, hm.get]
    split at h
    · rename_i ad hx; rw [hx]; exact h
    · cases h
theorem mapM_real {a : Act} {T : Env} (hm : Mt n a T) {w : World} : ∀ (rs : List ResultVar) (vs : List Value), (rs.mapM (resOne T)).run P w = .ok vs w → (rs.mapM (resReal a.tmps)).run P w = .ok vs w
  | [], _, h => h
  | r :: rs, vs, h => by
    rw [List.mapM_cons] at h ⊢
    simp only [Sem.run_bind] at h ⊢
    cases hr : (resOne T r).run P w with
    | halt x w' => rw [hr] at h; simp at h
    | ok v w' =>
      have hw : w' = w := run_ro _ (ro_resOne T r) w w' v hr
      subst hw
      rw [hr] at h
      rw [resReal_run hm r hr]
      simp only [Result.andThen_ok] at h ⊢
      cases hr2 : (rs.mapM (resOne T)).run P w' with
      | halt x w2 => rw [hr2] at h; simp at h
      | ok us w2 =>
        rw [hr2] at h
        simp only [Result.andThen_ok, Sem.run_pure] at h
        cases h
        rw [mapM_real hm rs us hr2]
        rfl
theorem results_eq {fn : Func} {a : Act} {T : Env} (hm : Mt n a T) {w : World} {vs : List Value} (h : (fn.results.toList.mapM (resOne T)).run P w = .ok vs w) :
    (results fn a.tmps).run P w = .ok (tupleOf vs) w := by
  have h2 := mapM_real hm _ _ h
  have h3 : (fn.results.mapM (resReal a.tmps)).run P w = .ok vs.toArray w := by
    rw [Array.mapM_eq_mapM_toList]
    simp [h2]
  have h4 : results fn a.tmps = (do
      let vs ← fn.results.mapM (resReal a.tmps)
      pure (if h : vs.size = 1 then vs[0] else .tuple vs)) := rfl
  rw [h4, Sem.run_bind, h3]
  match vs with
  | [] => rfl
  | [v] => rfl
  | x :: y :: r => simp [tupleOf]

/-- THE CALL, from the body's code. -/
def argEnv (args : Array Value) : Env := fun i => args.getD i undef
theorem Fn_of {f : FuncId} {fn : Func} {c : Code} {args : Array Value} {H : Heap} {R : Value → Heap → Prop}
    (hf : P.funcs[f]? = some fn) (hb : fn.body = some c) (hn : fn.ntmps = n) (ha : args.size ≤ n)
    (h : W P n c (endQ P fn.results.toList R) (argEnv args) H) : Fn P f args H R := by
  refine ⟨fun w hs => ?_⟩
  refine calls_of_wp hf hb (wp_mono (h.run _ w ⟨?_, rfl, ?_⟩ hs) ?_)
  · simp [hn]; omega
  · intro i
    simp only [argEnv, Array.getD_eq_getD_getElem?]
    by_cases hi : i < args.size
    · simp [Array.getElem?_append, hi]
    · simp only [Array.getElem?_append, hi, if_false, Array.getElem?_replicate, Array.getElem?_eq_none (Nat.le_of_not_lt hi)]
      split <;> rfl
  · rintro e a' w' ⟨T', H', hm, hr, hq⟩
    have fin : ∀ (hq : resH P H' T' fn.results.toList (fun vs => ∃ H'', Le H'' H' ∧ R (tupleOf vs) H'')),
        a'.defers = [] ∧ ∃ v, (results fn a'.tmps).run P w' = .ok v w' ∧ ∃ v' H'', Ending.returned v = .returned v' ∧ Rel H w H'' w' ∧ R v' H'' := by
      intro hq
      obtain ⟨vs, hvs, H'', hle, hR⟩ := resH_sound hr.sat _ _ hq
      exact ⟨hm.defers, _, results_eq hm hvs, _, H'', rfl, hr.weaken hle, hR⟩
    cases e with
    | normal => exact fin hq
    | ret => exact fin hq
    | _ => exact hq.elim

theorem argEnv1 (v0 : Value) : argEnv #[v0] = (upd (fun _ => undef) 0 v0) := by
  funext i
  match i with
  | 0 => rfl
  | k + 1 => simp [argEnv, upd]
theorem argEnv2 (v0 v1 : Value) : argEnv #[v0, v1] = (upd (upd (fun _ => undef) 0 v0) 1 v1) := by
  funext i
  match i with
  | 0 => rfl
  | 1 => rfl
  | k + 2 => simp [argEnv, upd]
theorem argEnv3 (v0 v1 v2 : Value) : argEnv #[v0, v1, v2] = (upd (upd (upd (fun _ => undef) 0 v0) 1 v1) 2 v2) := by
  funext i
  match i with
  | 0 => rfl
  | 1 => rfl
  | 2 => rfl
  | k + 3 => simp [argEnv, upd]
theorem argEnv4 (v0 v1 v2 v3 : Value) : argEnv #[v0, v1, v2, v3] = (upd (upd (upd (upd (fun _ => undef) 0 v0) 1 v1) 2 v2) 3 v3) := by
  funext i
  match i with
  | 0 => rfl
  | 1 => rfl
  | 2 => rfl
  | 3 => rfl
  | k + 4 => simp [argEnv, upd]
theorem argEnv5 (v0 v1 v2 v3 v4 : Value) : argEnv #[v0, v1, v2, v3, v4] = (upd (upd (upd (upd (upd (fun _ => undef) 0 v0) 1 v1) 2 v2) 3 v3) 4 v4) := by
  funext i
  match i with
  | 0 => rfl
  | 1 => rfl
  | 2 => rfl
  | 3 => rfl
  | 4 => rfl
  | k + 5 => simp [argEnv, upd]
theorem argEnv6 (v0 v1 v2 v3 v4 v5 : Value) : argEnv #[v0, v1, v2, v3, v4, v5] = (upd (upd (upd (upd (upd (upd (fun _ => undef) 0 v0) 1 v1) 2 v2) 3 v3) 4 v4) 5 v5) := by
  funext i
  match i with
  | 0 => rfl
  | 1 => rfl
  | 2 => rfl
  | 3 => rfl
  | 4 => rfl
  | 5 => rfl
  | k + 6 => simp [argEnv, upd]
theorem argEnv7 (v0 v1 v2 v3 v4 v5 v6 : Value) : argEnv #[v0, v1, v2, v3, v4, v5, v6] = (upd (upd (upd (upd (upd (upd (upd (fun _ => undef) 0 v0) 1 v1) 2 v2) 3 v3) 4 v4) 5 v5) 6 v6) := by
  funext i
  match i with
  | 0 => rfl
  | 1 => rfl
  | 2 => rfl
  | 3 => rfl
  | 4 => rfl
  | 5 => rfl
  | 6 => rfl
  | k + 7 => simp [argEnv, upd]
end

section draw
variable {P : Program} {n : Nat} {ops : Array Oper}

def vcq (P : Program) (o : Oper) (T : Env) (H : Heap) (v : Value) : Prop := vc P o T H (fun v' H' => v' = v ∧ Le H H')

theorem vcq_frame {o : Oper} {T : Env} {H G : Heap} {v : Value} (l : Le H G) (h : vcq P o T H v) : vcq P o T G v := by
  refine vc_mono ?_ (vc_frame l h)
  rintro v' G' ⟨H', ⟨rfl, hle⟩, hl, hkeep⟩
  refine ⟨rfl, fun b o hb => ?_⟩
  cases hh : H b with
  | none => rw [hkeep b hh (by rw [hb]; simp)]; exact hb
  | some x =>
    have : G b = some x := l _ _ hh
    rw [this] at hb
    cases hb
    exact hl _ _ (hle _ _ hh)

/-- A step of the canonical walk: the operation's number, and how it is taken (0: it yields one value and changes nothing; 1: it may change the heap, in a way that the others bear; 2: it may change the heap as it likes). -/
structure Stp where
  i : Nat
  m : Nat

/-- One operation in its mode. C: what the operations that stand beside one another may do to the heap. -/
def vcm (P : Program) (C : Heap → Heap → Prop) (m : Nat) (o : Oper) (T : Env) (H : Heap) (k : Value → Heap → Prop) : Prop :=
  match m with
  | 0 => ∃ v, (∀ G, C H G → vcq P o T G v) ∧ k v H
  | 1 => vc P o T H (fun v H' => C H H' ∧ k v H')
  | _ => vc P o T H k

def VD (P : Program) (n : Nat) (ops : Array Oper) (C : Heap → Heap → Prop) (Q : Env → Heap → Prop) : List (Oper × Stp) → Env → Heap → Prop
  | [], T, H => Q T H
  | (o, s) :: l, T, H => dOk n o.dst ∧ if gd ops o T then vcm P C s.m o T H (fun v H' => VD P n ops C Q l (put T o.dst v) H') else VD P n ops C Q l (put T o.dst undef) H

/-- an operation that looks at no memory: a copy, a part of a tuple -/
def calm (o : Oper) : Bool :=
  match o.op with
  | .move _ | .extract _ _ => true
  | _ => false

theorem calm_vcq {o : Oper} (hc : calm o = true) {T : Env} {H G : Heap} {v : Value} (h : vcq P o T H v) : vcq P o T G v := by
  obtain ⟨dst, op, type, pos, after, guard⟩ := o
  unfold calm at hc
  cases op <;> simp at hc
  case move x => exact ⟨h.1, .refl G⟩
  case extract x i =>
    unfold vcq vc at *
    simp only [execOp, runH_bind] at *
    unfold Instr.extract at *
    split at h
    · split at h
      · exact ⟨h.1, .refl G⟩
      · exact h.elim
    · exact h.elim

/-- The operation must come behind operation 'j'. -/
def isPred (o : Oper) (j : Nat) : Bool := o.after.any fun e => Region.binds .any e && e.on == j

/-- May 'x', which stands earlier, be passed by 'y'? -/
def passOk (ops : Array Oper) (x y : Oper × Stp) : Bool := x.2.m == 0 && x.1.apart ops y.1 && (y.2.m == 0 || y.2.m == 1 || calm x.1)

/-- 'desc': x and what hangs on it -/
def chkTail (ops : Array Oper) (x : Oper × Stp) (desc : List Nat) : List (Oper × Stp) → Bool
  | [] => true
  | y :: l => !isPred x.1 y.2.i && y.2.i != x.2.i && (if desc.any (isPred y.1) then chkTail ops x (y.2.i :: desc) l else passOk ops x y && chkTail ops x desc l)

def chk (ops : Array Oper) : List (Oper × Stp) → Bool
  | [] => true
  | x :: l => !isPred x.1 x.2.i && chkTail ops x [x.2.i] l && chk ops l

theorem ev_put {T : Env} {d : Option Tmp} {v : Value} {x : Operand} (h : ∀ e, d = some e → x ≠ .tmp e) : ev (put T d v) x = ev T x := by
  cases d with
  | none => rfl
  | some d =>
    cases x with
    | tmp t => exact upd_ne _ _ _ _ (fun e => h d rfl (e ▸ rfl))
    | _ => rfl
theorem exec_put {o : Oper} (hs : ∀ cs b, o.op ≠ .select cs b) {T : Env} {d : Option Tmp} {v : Value} (h : ∀ e, d = some e → e ∉ o.looksAt ops) : execOp (ev (put T d v)) o = execOp (ev T) o :=
  execOp_congr o hs fun x hx => ev_put fun e he hxe => h e he (by
    subst hxe
    exact List.mem_append_left _ (List.mem_filterMap.2 ⟨.tmp e, by simpa using hx, rfl⟩))
theorem gd_put {o : Oper} {T : Env} {d : Option Tmp} {v : Value} (h : ∀ e, d = some e → e ∉ o.looksAt ops) : gd ops o (put T d v) = gd ops o T := by
  unfold gd
  cases hg : o.guard with
  | none => rfl
  | some gw =>
    obtain ⟨j, want⟩ := gw
    simp only []
    cases ht : (ops[j]?).bind (·.dst) with
    | none => rfl
    | some t =>
      simp only []
      cases d with
      | none => rfl
      | some d =>
        have hne : t ≠ d := fun e => h d rfl (by subst e; simp [Oper.looksAt, hg, ht])
        simp only [put, upd_ne _ _ _ _ hne]
theorem put_comm {T : Env} {d e : Option Tmp} {v u : Value} (h : ∀ x, d = some x → e ≠ some x) : put (put T d v) e u = put (put T e u) d v := by
  cases d with
  | none => rfl
  | some d =>
    cases e with
    | none => rfl
    | some e => exact upd_comm _ _ _ _ _ (fun he => h d rfl (he ▸ rfl))
theorem vc_put {o : Oper} (hs : ∀ cs b, o.op ≠ .select cs b) {T : Env} {d : Option Tmp} {v : Value} (h : ∀ e, d = some e → e ∉ o.looksAt ops) {H : Heap} {k : Value → Heap → Prop} : vc P o (put T d v) H k = vc P o T H k := by
  unfold vc; rw [exec_put hs h]

/-- TWO NEIGHBOURS CHANGE PLACES. -/
theorem VD_swap {C : Heap → Heap → Prop} (hC0 : ∀ H, C H H) (hCt : ∀ A B D, C A B → C B D → C A D) (hsel : ∀ (j : Nat) (o : Oper) cs b, ops[j]? = some o → o.op ≠ .select cs b) {Q : Env → Heap → Prop} {x y : Oper × Stp}
    (hx : ops[x.2.i]? = some x.1) (hy : ops[y.2.i]? = some y.1)
    (hpass : passOk ops x y = true) {l : List (Oper × Stp)} {T : Env} {H : Heap}
    (h : VD P n ops C Q (x :: y :: l) T H) : VD P n ops C Q (y :: x :: l) T H := by
  obtain ⟨ox, sx⟩ := x
  obtain ⟨oy, sy⟩ := y
  simp only [passOk, Bool.and_eq_true, beq_iff_eq] at hpass
  obtain ⟨⟨hm0, hap⟩, hkind⟩ := hpass
  obtain ⟨a1, a2, a3⟩ := Oper.apart_spec hap
  have sx' : ∀ cs b, ox.op ≠ .select cs b := fun cs b => hsel _ _ cs b hx
  have sy' : ∀ cs b, oy.op ≠ .select cs b := fun cs b => hsel _ _ cs b hy
  simp only [VD] at h ⊢
  obtain ⟨dx, h⟩ := h
  have gx : ∀ v, gd ops ox (put T oy.dst v) = gd ops ox T := fun v => gd_put a3
  have gy : ∀ v, gd ops oy (put T ox.dst v) = gd ops oy T := fun v => gd_put a1
  by_cases hgx : gd ops ox T = true
  · simp only [hgx, if_true, hm0, vcm] at h
    obtain ⟨v, hv, dy, h⟩ := h
    rw [gy] at h
    refine ⟨dy, ?_⟩
    have hbase : ∀ (u : Value) (G : Heap), (∀ G', C G G' → vcq P ox T G' v) → VD P n ops C Q l (put (put T ox.dst v) oy.dst u) G →
        (dOk n ox.dst ∧ if gd ops ox (put T oy.dst u) = true then vcm P C sx.m ox (put T oy.dst u) G (fun v' H' => VD P n ops C Q l (put (put T oy.dst u) ox.dst v') H') else VD P n ops C Q l (put (put T oy.dst u) ox.dst undef) G) := by
      intro u G hq hV
      refine ⟨dx, ?_⟩
      rw [gx, hgx, if_pos rfl, hm0]
      refine ⟨v, fun G' hG' => ?_, ?_⟩
      · have := hq G' hG'
        unfold vcq at *; rw [vc_put sx' a3]; exact this
      · have e := put_comm (T := T) (v := v) (u := u) a2
        rw [e] at hV; exact hV
    by_cases hgy : gd ops oy T = true
    · simp only [hgy, if_true] at h ⊢
      match hsm : sy.m with
      | 0 =>
        simp only [hsm, vcm] at h ⊢
        obtain ⟨u, hu, hV⟩ := h
        refine ⟨u, fun G hG => ?_, hbase u H hv hV⟩
        have := hu G hG
        unfold vcq at *; rw [vc_put sy' a1] at this; exact this
      | 1 =>
        simp only [hsm, vcm] at h ⊢
        rw [vc_put sy' a1] at h
        exact vc_mono (fun u G ⟨hle, hV⟩ => ⟨hle, hbase u G (fun G' hG' => hv G' (hCt _ _ _ hle hG')) hV⟩) h
      | m + 2 =>
        simp only [hsm, vcm] at h ⊢
        rw [vc_put sy' a1] at h
        have hk2 : calm ox = true := by
          rw [hsm] at hkind
          simp only [Bool.or_eq_true, beq_iff_eq] at hkind
          rcases hkind with (h | h) | h
          · omega
          · omega
          · exact h
        exact vc_mono (fun u G hV => hbase u G (fun G' _ => calm_vcq hk2 (hv H (hC0 H))) hV) h
    · simp only [hgy] at h ⊢
      exact hbase undef H hv h
  · simp only [hgx] at h
    obtain ⟨dy, h⟩ := h
    rw [gy] at h
    refine ⟨dy, ?_⟩
    have hbase : ∀ (u : Value) (G : Heap), VD P n ops C Q l (put (put T ox.dst undef) oy.dst u) G →
        (dOk n ox.dst ∧ if gd ops ox (put T oy.dst u) = true then vcm P C sx.m ox (put T oy.dst u) G (fun v' H' => VD P n ops C Q l (put (put T oy.dst u) ox.dst v') H') else VD P n ops C Q l (put (put T oy.dst u) ox.dst undef) G) := by
      intro u G hV
      refine ⟨dx, ?_⟩
      rw [gx, if_neg hgx]
      have e := put_comm (T := T) (v := undef) (u := u) a2
      rw [e] at hV; exact hV
    by_cases hgy : gd ops oy T = true
    · simp only [hgy, if_true] at h ⊢
      match hsm : sy.m with
      | 0 =>
        simp only [hsm, vcm] at h ⊢
        obtain ⟨u, hu, hV⟩ := h
        refine ⟨u, fun G hG => ?_, hbase u H hV⟩
        have := hu G hG
        unfold vcq at *; rw [vc_put sy' a1] at this; exact this
      | 1 =>
        simp only [hsm, vcm] at h ⊢
        rw [vc_put sy' a1] at h
        exact vc_mono (fun u G ⟨hle, hV⟩ => ⟨hle, hbase u G hV⟩) h
      | m + 2 =>
        simp only [hsm, vcm] at h ⊢
        rw [vc_put sy' a1] at h
        exact vc_mono (fun u G hV => hbase u G hV) h
    · simp only [hgy] at h ⊢
      exact hbase undef H h

theorem VD_cons {C : Heap → Heap → Prop} {Q : Env → Heap → Prop} (x : Oper × Stp) (l : List (Oper × Stp)) (T : Env) (H : Heap) : VD P n ops C Q (x :: l) T H =
    (dOk n x.1.dst ∧ if gd ops x.1 T then vcm P C x.2.m x.1 T H (fun v H' => VD P n ops C Q l (put T x.1.dst v) H') else VD P n ops C Q l (put T x.1.dst undef) H) := rfl
theorem vcm_mono {C : Heap → Heap → Prop} {m : Nat} {o : Oper} {T : Env} {H : Heap} {k k' : Value → Heap → Prop} (hk : ∀ v G, k v G → k' v G) (h : vcm P C m o T H k) : vcm P C m o T H k' := by
  match m, h with
  | 0, ⟨v, h1, h2⟩ => exact ⟨v, h1, hk _ _ h2⟩
  | 1, h => exact vc_mono (fun v G ⟨a, b⟩ => ⟨a, hk _ _ b⟩) h
  | _ + 2, h => exact vc_mono hk h

/-- What stands at any place may be taken first, if all ahead of it may be passed. -/
theorem VD_bubble {C : Heap → Heap → Prop} (hC0 : ∀ H, C H H) (hCt : ∀ A B D, C A B → C B D → C A D) (hsel : ∀ (j : Nat) (o : Oper) cs b, ops[j]? = some o → o.op ≠ .select cs b) {Q : Env → Heap → Prop} {y : Oper × Stp} {l2 : List (Oper × Stp)}
    (hy : ops[y.2.i]? = some y.1) : ∀ (l1 : List (Oper × Stp)) (T : Env) (H : Heap), (∀ x ∈ l1, ops[x.2.i]? = some x.1 ∧ passOk ops x y = true) →
    VD P n ops C Q (l1 ++ y :: l2) T H → VD P n ops C Q (y :: (l1 ++ l2)) T H
  | [], _, _, _, h => h
  | x :: l1, T, H, hall, h => by
    obtain ⟨h1, h3⟩ := hall x List.mem_cons_self
    refine VD_swap hC0 hCt hsel h1 hy h3 ?_
    have ih := VD_bubble (Q := Q) (l2 := l2) hC0 hCt hsel hy l1
    rw [List.cons_append, VD_cons] at h
    rw [VD_cons]
    refine ⟨h.1, ?_⟩
    have h' := h.2
    split
    · rename_i hg
      rw [if_pos hg] at h'
      exact vcm_mono (fun v G b => ih _ _ (fun z hz => hall z (List.mem_cons_of_mem _ hz)) b) h'
    · rename_i hg
      rw [if_neg hg] at h'
      exact ih _ _ (fun z hz => hall z (List.mem_cons_of_mem _ hz)) h'

theorem chkTail_spec {x : Oper × Stp} : ∀ (l : List (Oper × Stp)) (desc : List Nat), chkTail ops x desc l = true →
    ∀ y ∈ l, isPred x.1 y.2.i = false ∧ y.2.i ≠ x.2.i ∧ ((∃ j ∈ desc, isPred y.1 j = true) ∨ (∃ z ∈ l, isPred y.1 z.2.i = true) ∨ passOk ops x y = true)
  | [], _, _, y, hy => by cases hy
  | z :: l, desc, h, y, hy => by
    simp only [chkTail, Bool.and_eq_true, Bool.not_eq_true', bne_iff_ne, ne_eq] at h
    obtain ⟨⟨h1, h2⟩, h3⟩ := h
    cases hy with
    | head =>
      refine ⟨h1, h2, ?_⟩
      split at h3
      · rename_i hd
        obtain ⟨j, hj, hp⟩ := List.any_eq_true.1 hd
        exact .inl ⟨j, hj, hp⟩
      · rw [Bool.and_eq_true] at h3
        exact .inr (.inr h3.1)
    | tail _ hy =>
      split at h3
      · obtain ⟨a, b, c⟩ := chkTail_spec l _ h3 y hy
        refine ⟨a, b, ?_⟩
        rcases c with ⟨j, hj, hp⟩ | ⟨w, hw, hp⟩ | c
        · rcases List.mem_cons.1 hj with e | hj
          · subst e; exact .inr (.inl ⟨z, List.mem_cons_self, hp⟩)
          · exact .inl ⟨j, hj, hp⟩
        · exact .inr (.inl ⟨w, List.mem_cons_of_mem _ hw, hp⟩)
        · exact .inr (.inr c)
      · rw [Bool.and_eq_true] at h3
        obtain ⟨a, b, c⟩ := chkTail_spec l _ h3.2 y hy
        refine ⟨a, b, ?_⟩
        rcases c with c | ⟨w, hw, hp⟩ | c
        · exact .inl c
        · exact .inr (.inl ⟨w, List.mem_cons_of_mem _ hw, hp⟩)
        · exact .inr (.inr c)

theorem chkTail_sub {x y : Oper × Stp} {l2 : List (Oper × Stp)} : ∀ (l1 : List (Oper × Stp)) (desc : List Nat), (∀ j ∈ desc, isPred y.1 j = false) → (∀ z ∈ l1, isPred y.1 z.2.i = false) →
    chkTail ops x desc (l1 ++ y :: l2) = true → chkTail ops x desc (l1 ++ l2) = true
  | [], desc, hd, _, h => by
    simp only [List.nil_append, chkTail, Bool.and_eq_true] at h
    have h3 := h.2
    rw [if_neg] at h3
    · rw [Bool.and_eq_true] at h3; exact h3.2
    · intro ha
      obtain ⟨j, hj, hp⟩ := List.any_eq_true.1 ha
      rw [hd j hj] at hp
      cases hp
  | z :: l1, desc, hd, hl, h => by
    simp only [List.cons_append, chkTail, Bool.and_eq_true] at h ⊢
    refine ⟨h.1, ?_⟩
    have h3 := h.2
    have hl' : ∀ w ∈ l1, isPred y.1 w.2.i = false := fun w hw => hl w (List.mem_cons_of_mem _ hw)
    split
    · rename_i ha
      rw [if_pos ha] at h3
      refine chkTail_sub l1 _ (fun j hj => ?_) hl' h3
      rcases List.mem_cons.1 hj with e | hj
      · subst e; exact hl z List.mem_cons_self
      · exact hd j hj
    · rename_i ha
      rw [if_neg ha, Bool.and_eq_true] at h3
      rw [Bool.and_eq_true]
      exact ⟨h3.1, chkTail_sub l1 _ hd hl' h3.2⟩

/-- THE STATE of the walk over all orders: 'l' is what is left, in the canonical order. -/
structure Left (ops : Array Oper) (l : List (Oper × Stp)) (listed : Array Bool) : Prop where
  here : ∀ x ∈ l, ops[x.2.i]? = some x.1
  un : ∀ i, listed.getD i true = false ↔ ∃ x ∈ l, x.2.i = i
  pre : ∀ (l1 : List (Oper × Stp)) (x : Oper × Stp) (l2 : List (Oper × Stp)), l = l1 ++ x :: l2 → ∀ e ∈ x.1.after, Region.binds .any e = true → listed.getD e.on false = true ∨ ∃ z ∈ l1, z.2.i = e.on
  ok : chk ops l = true

theorem isPred_false {o : Oper} {j : Nat} {listed : Array Bool} (h : ∀ e ∈ o.after, Region.binds .any e = true → listed.getD e.on false = true) (hj : listed.getD j true = false) : isPred o j = false := by
  cases hp : isPred o j with
  | false => rfl
  | true =>
    exfalso
    unfold isPred at hp
    obtain ⟨e, he, hb⟩ := Array.any_eq_true'.1 hp
    simp only [Bool.and_eq_true, beq_iff_eq] at hb
    have h1 := h e he hb.1
    rw [hb.2] at h1
    simp only [Array.getD_eq_getD_getElem?] at h1 hj
    cases hx : listed[j]? with
    | none => rw [hx] at h1; simp at h1
    | some b => rw [hx] at h1 hj; simp at h1 hj; rw [h1] at hj; cases hj

theorem chk_tail {x : Oper × Stp} : ∀ {l1 l2 : List (Oper × Stp)}, chk ops (l1 ++ x :: l2) = true → chkTail ops x [x.2.i] l2 = true ∧ isPred x.1 x.2.i = false
  | [], _, h => by
    simp only [List.nil_append, chk, Bool.and_eq_true, Bool.not_eq_true'] at h
    exact ⟨h.1.2, h.1.1⟩
  | z :: l1, l2, h => by
    simp only [List.cons_append, chk, Bool.and_eq_true] at h
    exact chk_tail h.2

theorem chk_drop {y : Oper × Stp} {l2 : List (Oper × Stp)} : ∀ (l1 : List (Oper × Stp)), (∀ x ∈ l1, isPred y.1 x.2.i = false) → chk ops (l1 ++ y :: l2) = true → chk ops (l1 ++ l2) = true
  | [], _, h => by
    simp only [List.nil_append, chk, Bool.and_eq_true] at h
    exact h.2
  | x :: l1, hm, h => by
    simp only [List.cons_append, chk, Bool.and_eq_true] at h ⊢
    have hm' : ∀ z ∈ l1, isPred y.1 z.2.i = false := fun z hz => hm z (List.mem_cons_of_mem _ hz)
    refine ⟨⟨h.1.1, chkTail_sub l1 _ (fun j hj => ?_) hm' h.1.2⟩, chk_drop l1 hm' h.2⟩
    simp only [List.mem_singleton] at hj
    subst hj
    exact hm x List.mem_cons_self

theorem getD_true_ne {listed : Array Bool} {i : Nat} (h : listed.getD i true = false) : i < listed.size := by
  rcases Nat.lt_or_ge i listed.size with h' | h'
  · exact h'
  · simp [Array.getElem?_eq_none h'] at h

theorem Left.next {l1 l2 : List (Oper × Stp)} {y : Oper × Stp} {listed : Array Bool} (h : Left ops (l1 ++ y :: l2) listed)
    (hpre : ∀ e ∈ y.1.after, Region.binds .any e = true → listed.getD e.on false = true) : Left ops (l1 ++ l2) (listed.setIfInBounds y.2.i true) := by
  have hun : ∀ z ∈ l1 ++ y :: l2, listed.getD z.2.i true = false := fun z hz => (h.un _).2 ⟨z, hz, rfl⟩
  have hnp : ∀ z ∈ l1 ++ y :: l2, isPred y.1 z.2.i = false := fun z hz => isPred_false hpre (hun z hz)
  have hyl : y ∈ l1 ++ y :: l2 := List.mem_append_right _ List.mem_cons_self
  have ht : ∀ x ∈ l1, y.2.i ≠ x.2.i := by
    intro x hx
    obtain ⟨a, b, rfl⟩ := List.append_of_mem hx
    have hc := h.ok
    rw [List.append_assoc, List.cons_append] at hc
    obtain ⟨h1, _⟩ := chk_tail hc
    exact (chkTail_spec _ _ h1 y (List.mem_append_right _ List.mem_cons_self)).2.1
  have ht2 : ∀ z ∈ l2, z.2.i ≠ y.2.i := by
    intro z hz
    obtain ⟨h1, _⟩ := chk_tail h.ok
    exact (chkTail_spec _ _ h1 z hz).2.1
  refine ⟨fun x hx => h.here x ?_, fun i => ?_, ?_, chk_drop l1 (fun x hx => hnp x (List.mem_append_left _ hx)) h.ok⟩
  · rcases List.mem_append.1 hx with hx | hx
    · exact List.mem_append_left _ hx
    · exact List.mem_append_right _ (List.mem_cons_of_mem _ hx)
  · by_cases hi : i = y.2.i
    · subst hi
      have hlt := getD_true_ne (hun y hyl)
      constructor
      · intro hh; simp [hlt] at hh
      · rintro ⟨x, hx, hxi⟩
        exfalso
        rcases List.mem_append.1 hx with hx | hx
        · exact ht x hx hxi.symm
        · exact ht2 x hx hxi
    · rw [getD_set_ne true (fun e => hi e.symm), h.un]
      constructor
      · rintro ⟨x, hx, rfl⟩
        refine ⟨x, ?_, rfl⟩
        rcases List.mem_append.1 hx with hx | hx
        · exact List.mem_append_left _ hx
        · cases hx with
          | head => exact absurd rfl hi
          | tail _ hx => exact List.mem_append_right _ hx
      · rintro ⟨x, hx, rfl⟩
        refine ⟨x, ?_, rfl⟩
        rcases List.mem_append.1 hx with hx | hx
        · exact List.mem_append_left _ hx
        · exact List.mem_append_right _ (List.mem_cons_of_mem _ hx)
  · intro m1 x m2 heq e he hb
    have hlt := getD_true_ne (hun y hyl)
    rcases List.append_eq_append_iff.1 heq with ⟨a', h1, h2⟩ | ⟨c', h1, h2⟩
    · -- m1 = l1 ++ a', l2 = a' ++ x :: m2
      subst h1
      have := h.pre (l1 ++ y :: a') x m2 (by rw [h2]; simp) e he hb
      rcases this with hl | ⟨z, hz, hzi⟩
      · exact .inl (getD_set_true hl)
      · rcases List.mem_append.1 hz with hz | hz
        · exact .inr ⟨z, List.mem_append_left _ hz, hzi⟩
        · cases hz with
          | head =>
            left
            rw [← hzi]
            simp [hlt]
          | tail _ hz => exact .inr ⟨z, List.mem_append_right _ hz, hzi⟩
    · -- l1 = m1 ++ c', x :: m2 = c' ++ l2
      cases c' with
      | nil =>
        simp only [List.nil_append] at h2
        simp only [List.append_nil] at h1
        subst h1
        have := h.pre (l1 ++ [y]) x m2 (by rw [← h2]; simp) e he hb
        rcases this with hl | ⟨z, hz, hzi⟩
        · exact .inl (getD_set_true hl)
        · rcases List.mem_append.1 hz with hz | hz
          · exact .inr ⟨z, hz, hzi⟩
          · left
            simp only [List.mem_singleton] at hz
            subst hz
            rw [← hzi]
            simp [hlt]
      | cons c cs =>
        simp only [List.cons_append, List.cons.injEq] at h2
        obtain ⟨rfl, h2⟩ := h2
        have := h.pre m1 x (cs ++ y :: l2) (by rw [h1]; simp) e he hb
        rcases this with hl | hz
        · exact .inl (getD_set_true hl)
        · exact .inr hz

theorem VD_any {C : Heap → Heap → Prop} (hC0 : ∀ H, C H H) (hCt : ∀ A B D, C A B → C B D → C A D) (hsel : ∀ (j : Nat) (o : Oper) cs b, ops[j]? = some o → o.op ≠ .select cs b)
    {Q : Env → Heap → Prop} {Q' : Exit → Act → World → Prop} (H0 : Heap) (w0 : World)
    (hQ : ∀ a T w H, Mt n a T → Rel H0 w0 H w → Q T H → Q' .normal a w) :
    ∀ (k : Nat) (l : List (Oper × Stp)) (listed : Array Bool) (T : Env) (H : Heap) (a : Act) (w : World), l.length = k → Left ops l listed → Mt n a T → Rel H0 w0 H w → VD P n ops C Q l T H → wpAny P .any ops Q' k listed a w := by
  intro k
  induction k with
  | zero =>
    intro l listed T H a w hk hl hm hr h
    have : l = [] := List.length_eq_zero_iff.1 hk
    subst this
    refine ⟨?_, hQ a T w H hm hr h⟩
    cases hrd : Region.ready .any ops listed with
    | nil => rfl
    | cons j js =>
      exfalso
      have hj : j ∈ Region.ready .any ops listed := by rw [hrd]; exact List.mem_cons_self
      obtain ⟨hu, _⟩ := mem_ready.1 hj
      obtain ⟨x, hx, _⟩ := (hl.un j).1 hu
      cases hx
  | succ k ih =>
    intro l listed T H a w hk hl hm hr h
    refine ⟨fun hrd => ?_, fun i hi => ?_⟩
    · exfalso
      cases l with
      | nil => simp at hk
      | cons x l =>
        have : x.2.i ∈ Region.ready .any ops listed := by
          rw [mem_ready]
          refine ⟨(hl.un _).2 ⟨x, List.mem_cons_self, rfl⟩, x.1, hl.here x List.mem_cons_self, fun e he hb => ?_⟩
          rcases hl.pre [] x l rfl e he hb with h | ⟨z, hz, _⟩
          · exact h
          · cases hz
        rw [hrd] at this
        cases this
    · obtain ⟨hu, o, ho, hpre⟩ := mem_ready.1 hi
      obtain ⟨y, hy, rfl⟩ := (hl.un i).1 hu
      obtain ⟨l1, l2, rfl⟩ := List.append_of_mem hy
      have hyo := hl.here y hy
      rw [hyo] at ho
      cases ho
      have hnp : ∀ x ∈ l1 ++ y :: l2, isPred y.1 x.2.i = false := fun x hx => isPred_false hpre ((hl.un _).2 ⟨x, hx, rfl⟩)
      have hpass : ∀ x ∈ l1, passOk ops x y = true := by
        intro x hx
        obtain ⟨c, d, rfl⟩ := List.append_of_mem hx
        have hc := hl.ok
        rw [List.append_assoc, List.cons_append] at hc
        obtain ⟨_, _, h3⟩ := chkTail_spec _ _ (chk_tail hc).1 y (List.mem_append_right _ List.mem_cons_self)
        rcases h3 with ⟨j, hj, hp⟩ | ⟨z, hz, hp⟩ | h3
        · simp only [List.mem_singleton] at hj
          subst hj
          rw [hnp x (by simp)] at hp; cases hp
        · rw [hnp z (by rw [List.append_assoc, List.cons_append]; exact List.mem_append_right _ (List.mem_cons_of_mem _ hz))] at hp; cases hp
        · exact h3
      have hv := VD_bubble hC0 hCt hsel hyo l1 T H (fun x hx => ⟨hl.here x (List.mem_append_left _ hx), hpass x hx⟩) h
      rw [VD_cons] at hv
      obtain ⟨hd, hv⟩ := hv
      have hnext := hl.next hpre
      have hlen : (l1 ++ l2).length = k := by simp at hk ⊢; omega
      unfold wpOp
      simp only [hyo]
      rw [hm.wanted]
      split
      · rename_i hg
        rw [if_pos hg] at hv
        left
        match hmm : y.2.m with
        | 0 =>
          simp only [hmm, vcm] at hv
          obtain ⟨v, hq, hV⟩ := hv
          refine vc_sound hr.sat hm (hq H (hC0 H)) fun v' w' H' hrel ⟨he, hle⟩ => ?_
          subst he
          exact ih _ _ _ H _ _ hlen hnext (hm.put hd _) (hr.trans (hrel.weaken hle)) hV
        | 1 =>
          simp only [hmm, vcm] at hv
          exact vc_sound hr.sat hm hv fun v w' H' hrel ⟨_, hV⟩ => ih _ _ _ H' _ _ hlen hnext (hm.put hd _) (hr.trans hrel) hV
        | m + 2 =>
          simp only [hmm, vcm] at hv
          exact vc_sound hr.sat hm hv fun v w' H' hrel hV => ih _ _ _ H' _ _ hlen hnext (hm.put hd _) (hr.trans hrel) hV
      · rename_i hg
        rw [if_neg hg] at hv
        exact ih _ _ _ H _ _ hlen hnext (hm.put hd _) hr hv

/-- the operations that 'l' lists, each at its number -/
def hereB (ops : Array Oper) (l : List Stp) : Bool :=
  Region.noSelect ops && l.length == ops.size && (List.range ops.size).all (fun i => l.any (fun s => s.i == i))

def pick (ops : Array Oper) : List Stp → List (Oper × Stp)
  | [] => []
  | s :: l => match ops[s.i]? with
    | some o => (o, s) :: pick ops l
    | none => pick ops l

/-- each operation's predecessors stand ahead of it -/
def preB : List Nat → List (Oper × Stp) → Bool
  | _, [] => true
  | seen, x :: l => x.1.after.all (fun e => !Region.binds .any e || seen.contains e.on) && preB (x.2.i :: seen) l

def drawOk (ops : Array Oper) (l : List Stp) : Bool :=
  hereB ops l && preB [] (pick ops l) && chk ops (pick ops l) && (l.all fun s => s.i < ops.size)

theorem pick_here : ∀ (l : List Stp) (x : Oper × Stp), x ∈ pick ops l → ops[x.2.i]? = some x.1 ∧ x.2 ∈ l
  | [], x, h => by cases h
  | s :: l, x, h => by
    unfold pick at h
    split at h
    · rename_i o ho
      cases h with
      | head => exact ⟨ho, List.mem_cons_self⟩
      | tail _ h => exact ⟨(pick_here l x h).1, List.mem_cons_of_mem _ (pick_here l x h).2⟩
    · exact ⟨(pick_here l x h).1, List.mem_cons_of_mem _ (pick_here l x h).2⟩
theorem pick_mem : ∀ (l : List Stp) (s : Stp), s ∈ l → s.i < ops.size → ∃ x ∈ pick ops l, x.2 = s
  | [], s, h, _ => by cases h
  | r :: l, s, h, hs => by
    unfold pick
    cases h with
    | head =>
      rw [Array.getElem?_eq_getElem hs]
      exact ⟨_, List.mem_cons_self, rfl⟩
    | tail _ h =>
      obtain ⟨x, hx, rfl⟩ := pick_mem l s h hs
      split
      · exact ⟨x, List.mem_cons_of_mem _ hx, rfl⟩
      · exact ⟨x, hx, rfl⟩
theorem pick_length : ∀ (l : List Stp), (∀ s ∈ l, s.i < ops.size) → (pick ops l).length = l.length
  | [], _ => rfl
  | s :: l, h => by
    unfold pick
    rw [Array.getElem?_eq_getElem (h s List.mem_cons_self)]
    simp [pick_length l (fun z hz => h z (List.mem_cons_of_mem _ hz))]
theorem preB_spec : ∀ (l : List (Oper × Stp)) (seen : List Nat), preB seen l = true → ∀ (l1 : List (Oper × Stp)) (x : Oper × Stp) (l2 : List (Oper × Stp)), l = l1 ++ x :: l2 →
    ∀ e ∈ x.1.after, Region.binds .any e = true → e.on ∈ seen ∨ ∃ z ∈ l1, z.2.i = e.on
  | [], _, _, l1, x, l2, heq, _, _, _ => by cases l1 <;> cases heq
  | y :: l, seen, h, l1, x, l2, heq, e, he, hb => by
    simp only [preB, Bool.and_eq_true] at h
    cases l1 with
    | nil =>
      simp only [List.nil_append, List.cons.injEq] at heq
      obtain ⟨rfl, rfl⟩ := heq
      have := Array.all_eq_true_iff_forall_mem.1 h.1 e he
      simp only [hb, Bool.not_true, Bool.false_or, List.contains_iff_mem] at this
      exact .inl this
    | cons z l1 =>
      simp only [List.cons_append, List.cons.injEq] at heq
      obtain ⟨rfl, rfl⟩ := heq
      rcases preB_spec _ _ h.2 l1 x l2 rfl e he hb with h1 | ⟨z, hz, hzi⟩
      · rcases List.mem_cons.1 h1 with h1 | h1
        · exact .inr ⟨y, List.mem_cons_self, h1.symm⟩
        · exact .inl h1
      · exact .inr ⟨z, List.mem_cons_of_mem _ hz, hzi⟩

/-- A REGION THAT DRAWS ITS ORDER. -/
theorem W_draw {C : Heap → Heap → Prop} (hC0 : ∀ H, C H H) (hCt : ∀ A B D, C A B → C B D → C A D) {id : Nat} {Q : Exit → Env → Heap → Prop} {T : Env} {H : Heap} (hm : P.follows .mixedOrders = true)
    (st : List Stp) (hok : drawOk ops st = true) (h : VD P n ops C (Q .normal) (pick ops st) T H) : W P n (.region id ops true) Q T H := by
  refine ⟨fun a w hmt hs => ?_⟩
  simp only [drawOk, hereB, Bool.and_eq_true, beq_iff_eq, List.all_eq_true, List.mem_range, List.any_eq_true, decide_eq_true_eq] at hok
  obtain ⟨⟨⟨⟨⟨hsel, hlen⟩, hall⟩, hpre⟩, hchk⟩, hlt⟩ := hok
  refine wp_region_any hm ?_
  have hrel := rel_drew hs
  have hL : Left ops (pick ops st) (Array.replicate ops.size false) := by
    refine ⟨fun x hx => (pick_here st x hx).1, fun i => ?_, fun l1 x l2 heq e he hb => ?_, hchk⟩
    · constructor
      · intro hh
        have hi := getD_true_ne hh
        rw [Array.size_replicate] at hi
        obtain ⟨s, hs, rfl⟩ := hall i hi
        obtain ⟨x, hx, rfl⟩ := pick_mem (ops := ops) st s hs hi
        exact ⟨x, hx, rfl⟩
      · rintro ⟨x, hx, rfl⟩
        have hi : x.2.i < ops.size := hlt _ (pick_here st x hx).2
        simp [hi]
    · rcases preB_spec _ _ hpre l1 x l2 heq e he hb with h1 | h1
      · cases h1
      · exact .inr h1
  exact VD_any hC0 hCt (Region.noSelect_spec hsel) H w (fun a' T' w' H' a1 a2 a3 => ⟨T', H', a1, a2, a3⟩) ops.size (pick ops st) _ T H a _ ((pick_length st hlt).trans hlen) hL hmt hrel h

def mkStps : Nat → List Nat → Nat → List Stp
  | 0, _, _ => []
  | k + 1, ms, i => ⟨i, ms.headD 0⟩ :: mkStps k ms.tail (i + 1)

/-- One operation in its mode, where the heap only grows beside it. -/
def vcl (P : Program) (m : Nat) (o : Oper) (T : Env) (H : Heap) (k : Value → Heap → Prop) : Prop :=
  match m with
  | 0 => ∃ v, vcq P o T H v ∧ k v H
  | 1 => vc P o T H (fun v H' => Le H H' ∧ k v H')
  | _ => vc P o T H k
/-- The operations in the order of the text. -/
def VL (P : Program) (n : Nat) (ops : Array Oper) (Q : Env → Heap → Prop) : List Oper → List Nat → Env → Heap → Prop
  | [], _, T, H => Q T H
  | o :: l, ms, T, H => dOk n o.dst ∧ if gd ops o T then vcl P (ms.headD 0) o T H (fun v H' => VL P n ops Q l ms.tail (put T o.dst v) H') else VL P n ops Q l ms.tail (put T o.dst undef) H

theorem VL_VD {Q : Env → Heap → Prop} : ∀ (l : List Oper) (ms : List Nat) (i : Nat) (T : Env) (H : Heap), (∀ j, l[j]? = ops[i + j]?) → VL P n ops Q l ms T H → VD P n ops Le Q (pick ops (mkStps l.length ms i)) T H
  | [], _, _, _, _, _, h => h
  | o :: l, ms, i, T, H, hl, h => by
    have h0 : ops[i]? = some o := by simpa using (hl 0).symm
    have hl' : ∀ j, l[j]? = ops[i + 1 + j]? := fun j => by
      have := hl (j + 1)
      rw [List.getElem?_cons_succ] at this
      rw [this]; congr 1; omega
    simp only [List.length_cons, mkStps, pick, h0]
    rw [VD_cons]
    refine ⟨h.1, ?_⟩
    have h2 := h.2
    simp only []
    split
    · rename_i hg
      rw [if_pos hg] at h2
      match hm : ms.headD 0 with
      | 0 =>
        simp only [hm, vcl] at h2
        obtain ⟨v, hv, hV⟩ := h2
        exact ⟨v, fun G hG => vcq_frame hG hv, VL_VD l ms.tail (i + 1) _ _ hl' hV⟩
      | 1 =>
        simp only [hm, vcl] at h2
        exact vc_mono (fun v G ⟨a, b⟩ => ⟨a, VL_VD l ms.tail (i + 1) _ _ hl' b⟩) h2
      | m + 2 =>
        simp only [hm, vcl] at h2
        exact vc_mono (fun v G b => VL_VD l ms.tail (i + 1) _ _ hl' b) h2
    · rename_i hg
      rw [if_neg hg] at h2
      exact VL_VD l ms.tail (i + 1) _ _ hl' h2

/-- A REGION THAT DRAWS ITS ORDER, the order of the text for all of them. -/
theorem W_drawL {id : Nat} {l : List Oper} {Q : Exit → Env → Heap → Prop} {T : Env} {H : Heap} (hm : P.follows .mixedOrders = true)
    (ms : List Nat) (hok : drawOk l.toArray (mkStps l.length ms 0) = true) (h : VL P n l.toArray (Q .normal) l ms T H) : W P n (.region id l.toArray true) Q T H :=
  W_draw Le.refl (fun _ _ _ => Le.trans) hm _ hok (VL_VD l ms 0 T H (fun j => by simp) h)

end draw

end Eng
end Go.Proofs.Ygcfab
