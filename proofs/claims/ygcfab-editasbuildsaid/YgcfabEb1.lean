/-
  law.EditBites: what is hurt does not pass Check (plain).
-/
import Derived.Test.YgcfabEp13
set_option linter.unusedSimpArgs false
set_option linter.unusedVariables false
set_option maxRecDepth 100000
namespace Go.Proofs.Ygcfab
namespace Eng
section
variable {S : Ed}
def setO (S : Ed) (h : Nat) (x : Ob) : Ed := { S with O := upd S.O h x }
def setW (S : Ed) (i : Nat) (w : UInt64) : Ed := { S with A := upd S.A i w }
theorem setO_same (S : Ed) (h : Nat) (x : Ob) : (setO S h x).O h = x := upd_same _ _ _
theorem setO_ne (S : Ed) (h : Nat) (x : Ob) {k : Nat} (hk : k ≠ h) : (setO S h x).O k = S.O k := upd_ne _ _ _ _ hk
/-- it names a handle that is not there -/
theorem bite6 (g : Gd S) {h : Nat} (h1 : 1 ≤ h) (hl : Lv S h) : ¬ CheckP (setO S h { S.O h with up := Int16.ofInt (S.cnt : Int) }) := by
  intro c
  have hc := g.cnt.2
  have hu : (Int16.ofInt (S.cnt : Int)).toInt = (S.cnt : Int) := i16n (by omega)
  have hO : (setO S h { S.O h with up := Int16.ofInt (S.cnt : Int) }).O h = { S.O h with up := Int16.ofInt (S.cnt : Int) } := setO_same _ _ _
  have hn : (setO S h { S.O h with up := Int16.ofInt (S.cnt : Int) }).cnt = S.cnt := rfl
  generalize setO S h { S.O h with up := Int16.ofInt (S.cnt : Int) } = S' at *
  have hs := c.c1.shaped h h1 (by rw [hn]; exact hl.1) (by rw [hO]; exact hl.2)
  rw [hO] at hs
  have hal : aliveB S' (S.cnt : Int) = false := by
    cases e : aliveB S' (S.cnt : Int)
    · rfl
    · have := ((aliveB_iff _ _).1 e).2.1
      rw [hn] at this
      omega
  unfold shapedB at hs
  by_cases he : (S.O h).elem = true
  · rw [if_pos he] at hs
    have hs' : aliveB S' (Int16.ofInt (S.cnt : Int)).toInt = true := hs
    rw [hu, hal] at hs'
    cases hs'
  · rw [if_neg he] at hs
    simp only [Bool.and_eq_true] at hs
    have h2 := hs.1.2
    unfold upOk at h2
    have h3 : (!(decide ((Int16.ofInt (S.cnt : Int)).toInt < -1)) && (!(decide ((Int16.ofInt (S.cnt : Int)).toInt ≥ 0)) || aliveB S' (Int16.ofInt (S.cnt : Int)).toInt)) = true := h2
    rw [hu, hal, decide_eq_true (show (S.cnt : Int) ≥ 0 by omega)] at h3
    simp at h3
theorem shal_loop {h : Int} (hu : upI S h = h) (hd : stepD S h = 1) (h0 : 0 < h) : ∀ (n d : Nat), d ≤ 8 → 9 ≤ n + d → shalN S n h d = false
  | 0, d, h1, h2 => by omega
  | n + 1, d, h1, h2 => by
    rw [shalN, if_neg (by omega), hd]
    by_cases c : 8 < d + 1
    · rw [if_pos c]
    · rw [if_neg c, hu]
      exact shal_loop hu hd h0 n (d + 1) (by omega) (by omega)
/-- a cycle -/
theorem bite7 (g : Gd S) {h : Nat} (h1 : 1 ≤ h) (hl : Lv S h) : ¬ CheckP (setO S h { S.O h with up := Int16.ofInt (h : Int) }) := by
  intro c
  have hc := g.c256 hl.1
  have hu : (Int16.ofInt (h : Int)).toInt = (h : Int) := i16n (by omega)
  cases he : (S.O h).elem
  · have hT : top (setO S h { S.O h with up := Int16.ofInt (h : Int) }) h := ⟨by rw [setO_same]; exact hl.2, by rw [setO_same]; exact he⟩
    have := c.c3 h hl.1 hT
    rw [shal_loop (by rw [upI_nat, setO_same]; exact hu) (by rw [stepD_nat, setO_same]; show (if (S.O h).elem = true then 0 else 1) = 1; rw [he]; rfl) (by omega) 40 0 (by omega) (by omega)] at this
    cases this
  · obtain ⟨u, hel⟩ := g.elem h h1 hl he
    have hk := (g.er hel).1
    have hs := c.c2.element h h1 hl.1 (by rw [setO_same]; exact hl.2)
    unfold elementB at hs
    rw [setO_same] at hs
    simp only [he, if_true] at hs
    unfold isElem at hs
    simp only [hu, Int.toNat_natCast, setO_same, st_no hk, Bool.false_and, Bool.and_false] at hs
    cases hs
theorem lst_at (g : Gd S) {h : Nat} (h1 : 1 ≤ h) (hl : Lv S h) (he : (S.O h).elem = true) (x : Ob) (hx : x.elem = false ∨ x.dead = true) : ¬ CheckP (setO S h x) := by
  intro c
  obtain ⟨u, hel⟩ := g.elem h h1 hl he
  have hne : u ≠ h := by rintro rfl; rw [hel.top] at he; cases he
  have hs := c.c2.element u hel.pos hel.lt (by rw [setO_ne _ _ _ hne]; exact hel.live)
  unfold elementB at hs
  rw [setO_ne _ _ _ hne, hel.top, hel.str] at hs
  simp only [Bool.false_eq_true, if_false, if_true] at hs
  have := (listOk_iff _ _ _).1 hs
  obtain ⟨b1, b2, _⟩ := this.2.2 _ hel.via
  rw [← hel.at_, setO_same] at b1 b2
  rcases hx with hx | hx
  · rw [hx] at b2; cases b2
  · rw [hx] at b1; cases b1
theorem bite8 (g : Gd S) {h : Nat} (h1 : 1 ≤ h) (hl : Lv S h) : ¬ CheckP (setO S h { S.O h with elem := !(S.O h).elem }) := by
  cases he : (S.O h).elem
  · intro c
    have ht : Tp S h := ⟨h1, hl.1, hl.2, he⟩
    have hd : ((setO S h { S.O h with elem := !false }).O h).dead = false := by rw [setO_same]; exact hl.2
    have hs := c.c1.shaped h h1 hl.1 hd
    have hs2 := c.c2.element h h1 hl.1 hd
    unfold shapedB at hs
    unfold elementB at hs2
    rw [setO_same] at hs hs2
    simp only [Bool.not_false, if_true] at hs hs2
    have ha := (aliveB_iff _ _).1 hs
    rcases g.up h ht with e | ⟨u, hu, hlu⟩
    · rw [e, show (-1 : Int16).toInt = -1 by decide] at ha
      omega
    · have hne : u ≠ h := by rintro rfl; exact g.hs_no hu hlu.1 hlu (Ab.refl _)
      unfold isElem at hs2
      simp only [hs_up hu (g.c256 hlu.1), Int.toNat_natCast, setO_ne _ _ _ hne] at hs2
      obtain ⟨i, j1, _⟩ := g.hang h u ht hu hlu.1
      rw [sl_kind j1] at hs2
      simp at hs2
  · exact lst_at g h1 hl he _ (.inl rfl)
theorem bite9 (g : Gd S) {h : Nat} (h1 : 1 ≤ h) (hl : Lv S h) (he : (S.O h).elem = true) : ¬ CheckP (setO S h { S.O h with dead := true }) := lst_at g h1 hl he _ (.inr rfl)
theorem bite10 (g : Gd S) {h : Nat} (ht : Tp S h) (hw : (wordsL (S.O h).p).toNat ≠ 0) : ¬ CheckP (setO S h { S.O h with p := { (S.O h).p with at_ := (S.O h).p.at_ + UInt16.ofNat S.len } }) := by
  intro c
  have hs := c.c1.shaped h ht.1 ht.2.1 (by rw [setO_same]; exact ht.2.2.1)
  rw [setO_same] at hs
  have hs' := (shaped_top (x := { S.O h with p := { (S.O h).p with at_ := (S.O h).p.at_ + UInt16.ofNat S.len } }) ht.2.2.2 hs).1
  have hl := g.len.2
  have hin := g.inside h ht
  have hr := g.range ht.lv
  rw [inside_iff _ _ hl] at hin
  have hs2 : insideL S.len { (S.O h).p with at_ := (S.O h).p.at_ + UInt16.ofNat S.len } = true := hs'
  rw [inside_iff _ _ hl, words_at] at hs2
  have h2 := hs2.2
  have h1 := hin.2
  cases cs : strB (S.O h).p
  · have c' : ¬ ((S.O h).p.kind = 2 ∧ (S.O h).p.code = 7) := fun h => by rw [(strB_iff _).2 h] at cs; cases cs
    rw [if_neg c'] at h1 h2
    have e : ((S.O h).p.at_ + UInt16.ofNat S.len).toNat = (S.O h).p.at_.toNat + S.len := by
      rw [UInt16.toNat_add, tn16 (by omega)]; omega
    rw [e] at h2
    omega
  · have c' := (strB_iff _).1 cs
    rw [if_pos c'] at h1 h2
    have e : ((S.O h).p.at_ + UInt16.ofNat S.len).toNat = (S.O h).p.at_.toNat + S.len := by
      rw [UInt16.toNat_add, tn16 (by omega)]; omega
    rw [e] at h2
    omega
theorem bite11 (g : Gd S) {h : Nat} (ht : Tp S h) (hw : (wordsL (S.O h).p).toNat ≠ 0) (hst : strB (S.O h).p = false) : ¬ CheckP (setO S h { S.O h with p := { (S.O h).p with at_ := 0 } }) := by
  intro c
  have hs := c.c1.shaped h ht.1 ht.2.1 (by rw [setO_same]; exact ht.2.2.1)
  rw [setO_same] at hs
  have hs' := (shaped_top (x := { S.O h with p := { (S.O h).p with at_ := 0 } }) ht.2.2.2 hs).1
  have hl := g.len.2
  have hs2 : insideL S.len { (S.O h).p with at_ := 0 } = true := hs'
  rw [inside_iff _ _ hl, words_at] at hs2
  have h2 := hs2.2
  have c' : ¬ ((S.O h).p.kind = 2 ∧ (S.O h).p.code = 7) := fun h => by rw [(strB_iff _).2 h] at hst; cases hst
  rw [if_neg c'] at h2
  have e : ({ (S.O h).p with at_ := 0 } : Ptr).at_.toNat = 0 := rfl
  rw [e] at h2
  omega
theorem bite12 (g : Gd S) {h : Nat} (ht : Tp S h) (hk : (S.O h).p.kind = 2) (hst : strB (S.O h).p = false) (hb : bytesL (S.O h).p % 8 ≠ 0) (w : UInt64) (hw : bitU w 63 = true) : ¬ CheckP (setW S ((S.O h).p.at_.toNat + bytesL (S.O h).p / 8) w) := by
  intro c
  have hwh : wholeB (setW S ((S.O h).p.at_.toNat + bytesL (S.O h).p / 8) w) (S.O h).p = true := c.c2.whole h ht.1 ht.2.1 ht.2.2
  rw [whole_iff (by exact g.len.2) (by exact g.inside h ht)] at hwh
  have := hwh.2 hk hst hb
  have e : (setW S ((S.O h).p.at_.toNat + bytesL (S.O h).p / 8) w).A ((S.O h).p.at_.toNat + bytesL (S.O h).p / 8) = w := upd_same _ _ _
  rw [e, eq_zero_iff] at this
  have := this (63 - bytesL (S.O h).p % 8 * 8) (by omega)
  rw [bitU_shr, show bytesL (S.O h).p % 8 * 8 + (63 - bytesL (S.O h).p % 8 * 8) = 63 by omega, hw] at this
  cases this
theorem bite13 (g : Gd S) {h : Nat} (ht : Tp S h) (hst : strB (S.O h).p = true) (w : UInt64) (hw : w ≠ S.A (firstL (S.O h).p).toNat) : ¬ CheckP (setW S (firstL (S.O h).p).toNat w) := by
  intro c
  have hwh : wholeB (setW S (firstL (S.O h).p).toNat w) (S.O h).p = true := c.c2.whole h ht.1 ht.2.1 ht.2.2
  rw [whole_iff (by exact g.len.2) (by exact g.inside h ht)] at hwh
  have h1 := hwh.1 hst
  have h2 := ((whole_iff g.len.2 (g.inside h ht)).1 (g.whole h ht)).1 hst
  have e : (setW S (firstL (S.O h).p).toNat w).A (firstL (S.O h).p).toNat = w := upd_same _ _ _
  rw [e] at h1
  exact hw (h1.trans h2.symm)
def appO (S : Ed) (x : Ob) : Ed := { S with O := upd S.O S.cnt x, cnt := S.cnt + 1 }
theorem bite14 (g : Gd S) {h : Nat} (ht : Tp S h) (hw : (wordsL (S.O h).p).toNat ≠ 0) (v : UInt8) : ¬ CheckP (appO S ⟨(S.O h).p, -1, v, false, false⟩) := by
  intro c
  have hlt := ht.2.1
  have e1 : (appO S ⟨(S.O h).p, -1, v, false, false⟩).O S.cnt = ⟨(S.O h).p, -1, v, false, false⟩ := upd_same _ _ _
  have e2 : (appO S ⟨(S.O h).p, -1, v, false, false⟩).O h = S.O h := upd_ne _ _ _ _ (by omega)
  have hc1 := g.cnt.1
  have := c.c1.apart S.cnt hc1 (by show S.cnt < S.cnt + 1; omega) ⟨by rw [e1], by rw [e1]⟩ (firstL (S.O h).p).toNat (by rw [e1]; exact ⟨Nat.le_refl _, by show (firstL (S.O h).p).toNat < (firstL (S.O h).p).toNat + (wordsL (S.O h).p).toNat; omega⟩)
  refine this.2 h ht.1 ht.2.1 ⟨by rw [e2]; exact ht.2.2.1, by rw [e2]; exact ht.2.2.2⟩ ?_
  rw [e2]
  exact ⟨Nat.le_refl _, by omega⟩
theorem sl_ptrAt (g : Gd S) {h v i : Nat} (hl : Lv S h) (hs : Sl (S.O h).p v i) : ptrAt (S.O h) i := by
  have h0 := sl_kind hs
  have hc : ¬ ((S.O h).dead = true ∨ strB (S.O h).p = true) := by rw [hl.2, h0]; simp
  unfold ptrAt ptrA ptrN
  rw [if_neg hc, if_neg hc]
  have hlen := g.len.2
  rcases hs with ⟨hk, h1, h2⟩ | ⟨hk, h1, h2, h3⟩
  · have hk2 : ¬ (S.O h).p.kind = 2 := by rw [hk]; decide
    obtain ⟨q1, q2, q3, q4, q5, q6⟩ := g.st hl hk
    rw [if_neg hk2, if_neg hk2, UInt16.toNat_add, UInt8.toNat_toUInt16, UInt8.toNat_toUInt16]
    omega
  · rw [if_pos hk, if_pos hk, if_pos h1]
    omega
theorem bite15 (g : Gd S) {h v i : Nat} (hl : Lv S h) (hs : Sl (S.O h).p v i) (h0 : S.A i = 0) (w : UInt64) (hw : w ≠ 0) : ¬ CheckP (setW S i w) := by
  intro c
  have hi := (g.sl hl hs).1
  have e : (setW S i w).A i = w := upd_same _ _ _
  obtain ⟨_, h5⟩ := c.c5 i hi (by rw [e]; exact hw)
  obtain ⟨k, k1, k2, k3, k4, k5⟩ := h5 ⟨h, hl.1, sl_ptrAt g hl hs⟩
  have ht : Tp S k := ⟨k1, k2, k3⟩
  have k5' : (slotOf S k).1.toNat = i := k5
  obtain ⟨u, hu, hlu⟩ := g.up_cases ht k4
  obtain ⟨j, j1, _⟩ := g.hang k u ht hu hlu.1
  rw [g.slotOf ht hu hlu j1] at k5'
  have hj := (g.sl hlu j1).1
  have hlen := g.len.2
  have e2 : (UInt16.ofNat j).toNat = i := k5'
  rw [tn16 (by omega)] at e2
  subst e2
  exact (g.res ht hu hlu j1).2 h0
/-- what no live object owns -/
theorem bite4 (g : Gd S) (w : UInt64) (hw : w ≠ 0) (A' : Nat → UInt64) (hA : A' S.len = w) : ¬ CheckP { S with A := A', len := S.len + 1 } := by
  intro c
  obtain ⟨h1, _⟩ := c.c5 S.len (by show S.len < S.len + 1; omega) (by show A' S.len ≠ 0; rw [hA]; exact hw)
  have := g.len.1
  rcases h1 with h1 | ⟨k, k1, k2, k3, k4⟩
  · omega
  · have := (g.pos ⟨k1, k2, k3⟩ k4).2
    omega
theorem bite3 (S : Ed) (x : Ob) (hx : x.p.ptrs = 2) : ¬ CheckP (setO S 0 x) := by
  intro c
  have := c.first
  rw [setO_same] at this
  rw [this] at hx
  exact absurd hx (by decide)
theorem bite0 {S : Ed} (h : S.len = 0 ∨ 256 < S.len ∨ S.cnt = 0) : ¬ CheckP S := by
  intro c
  have := c.len
  have := c.cnt
  omega
end
end Eng
end Go.Proofs.Ygcfab
