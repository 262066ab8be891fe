/-
  Two appends beside one another.
-/
import Derived.Test.YgcfabEb4
import Derived.Test.YgcfabEb5
set_option linter.unusedSimpArgs false
set_option linter.unusedVariables false
set_option maxRecDepth 100000
namespace Go.Proofs.Ygcfab
namespace Eng
/-- an editor's two slices, whatever its own block says -/
structure EdV (Hx G : Heap) (eb : Nat) (va vo : Value) (S : Ed) : Prop where
  le0 : Le Hx G
  own : Hx eb = none
  blk : ∃ oa oo, OwnS 1 30 G va S.len (fun i => u64 (S.A i)) oa ∧ OwnS 10 62 G vo S.cnt (obF S.O) oo ∧
    (∀ c, oa = some c → Hx c = none ∧ c ≠ eb) ∧ (∀ c, oo = some c → Hx c = none ∧ c ≠ eb) ∧ (∀ c, oa = some c → oo ≠ some c)
theorem EdH.virt {Hx G : Heap} {eb : Nat} {S : Ed} (h : EdH Hx G eb S) : ∃ va vo, G eb = some (fblk 2 (lget [va, vo]) 57) ∧ EdV Hx G eb va vo S := by
  obtain ⟨va, vo, oa, oo, k1, k2, k3, k4, k5, k6⟩ := h.blk
  exact ⟨va, vo, k1, h.le0, h.own, oa, oo, k2, k3, k4, k5, k6⟩
theorem EdV.real {Hx G : Heap} {eb : Nat} {va vo : Value} {S : Ed} (h : EdV Hx G eb va vo S) (hf : G eb = some (fblk 2 (lget [va, vo]) 57)) : EdH Hx G eb S := by
  obtain ⟨oa, oo, k2, k3, k4, k5, k6⟩ := h.blk
  exact ⟨h.le0, h.own, va, vo, oa, oo, hf, k2, k3, k4, k5, k6⟩
theorem OwnS.dom {s : Nat} {e : TypeId} {G : Heap} {v : Value} {n : Nat} {f : Nat → Value} {ob : Option Nat} (h : OwnS s e G v n f ob) : ∀ c, ob = some c → G c ≠ none := by
  intro c hc
  rcases h.is with ⟨_, _, h⟩ | ⟨b', cap, g, _, _, h, hG, _⟩
  · rw [hc] at h; cases h
  · rw [hc] at h; cases h; rw [hG]; simp
theorem EdV.setE {Hx G : Heap} {eb : Nat} {va vo : Value} {S : Ed} (h : EdV Hx G eb va vo S) (y : Option Obj) : EdV Hx (upd G eb y) eb va vo S := by
  obtain ⟨oa, oo, k2, k3, k4, k5, k6⟩ := h.blk
  exact ⟨h.le0.fresh h.own _, h.own, oa, oo, k2.keep (fun c hc => upd_ne _ _ _ _ (k4 c hc).2), k3.keep (fun c hc => upd_ne _ _ _ _ (k5 c hc).2), k4, k5, k6⟩
theorem EdV.rebase {Hx G : Heap} {eb : Nat} {va vo : Value} {S : Ed} (h : EdV Hx G eb va vo S) {b : Nat} (hb : G b = none) (hbe : b ≠ eb) (y : Obj) : EdV (upd Hx b (some y)) (upd G b (some y)) eb va vo S := by
  obtain ⟨oa, oo, k2, k3, k4, k5, k6⟩ := h.blk
  have hA : ∀ c, oa = some c → c ≠ b := fun c hc => ne_fresh (k2.dom c hc) hb
  have hO : ∀ c, oo = some c → c ≠ b := fun c hc => ne_fresh (k3.dom c hc) hb
  refine ⟨?_, by rw [upd_ne _ _ _ _ (Ne.symm hbe)]; exact h.own, oa, oo, k2.keep (fun c hc => upd_ne _ _ _ _ (hA c hc)), k3.keep (fun c hc => upd_ne _ _ _ _ (hO c hc)), fun c hc => ?_, fun c hc => ?_, k6⟩
  · intro c z hz
    by_cases e : c = b
    · subst e; rw [upd_same] at hz ⊢; exact hz
    · rw [upd_ne _ _ _ _ e] at hz ⊢; exact h.le0 c z hz
  · rw [upd_ne _ _ _ _ (hA c hc)]; exact k4 c hc
  · rw [upd_ne _ _ _ _ (hO c hc)]; exact k5 c hc
theorem EdV.appA {Hx G : Heap} {eb : Nat} {va vo : Value} {S : Ed} (hC : EdV Hx G eb va vo S) (hge : G eb ≠ none) {x : Value} {m : Nat} {B : Nat → UInt64} (hx : SlU G x m B) (hn : S.len + m ≤ 1000) {ty : TypeId} {k : Value → Heap → Prop}
    (hk : ∀ v' G', G' eb = G eb → EdV Hx G' eb v' vo { S with A := fun i => if i < S.len then S.A i else B (i - S.len), len := S.len + m } → v'.oneCell' = true → k v' G') :
    runH Fabg.prog (Builtin.append_ #[26, 26] ty #[va, x]) G k := by
  obtain ⟨oa, oo, k2, k3, k4, k5, k6⟩ := hC.blk
  refine app_26 k2 (srcU hx) ?_ hn ?_
  · intro v hv
    rw [List.mem_map] at hv
    obtain ⟨i, _, rfl⟩ := hv
    exact oneCell_u64 _
  · intro v' G' ob' a1 a2 a3
    have hne : oa ≠ some eb := fun e => (k4 eb e).2 rfl
    have hGe : G' eb = G eb := a2 eb hne hge
    have hle : Le Hx G' := by
      intro c z hz
      have hG := hC.le0 c z hz
      rw [a2 c (fun e => by have := (k4 c e).1; rw [hz] at this; cases this) (by rw [hG]; simp)]
      exact hG
    have hob : ∀ c, ob' = some c → oa = some c ∨ G c = none := by
      intro c hc
      rcases a3 with a3 | ⟨d, a3, a4⟩
      · exact .inl (a3 ▸ hc)
      · rw [a3] at hc; cases hc; exact .inr a4
    refine hk v' G' hGe ⟨hle, hC.own, ob', oo, a1.congr ?_, k3.keep (fun c hc => ?_), ?_, k5, ?_⟩ a1.one
    · intro i hi
      unfold appF
      by_cases e : i < S.len
      · rw [if_pos (by omega)]; simp only [e, if_true]
      · rw [if_neg (by omega), lget_map_range _ _ _ (by have : i < (S.len + m) * 1 := hi; omega)]
        simp only [e, if_false]
        rw [show i - S.len * 1 = i - S.len by omega]
    · exact a2 c (fun e => k6 c e hc) (k3.dom c hc)
    · intro c hc
      rcases hob c hc with h | h
      · exact k4 c h
      · exact ⟨le_none hC.le0 h, fun e => by rw [e] at h; exact hge h⟩
    · intro c hc hoo
      rcases hob c hc with h | h
      · exact k6 c h hoo
      · exact k3.dom c hoo h
theorem EdV.appO {Hx G : Heap} {eb : Nat} {va vo : Value} {S : Ed} (hC : EdV Hx G eb va vo S) (hge : G eb ≠ none) (x : Ob) {bx : Nat} (hbx : G bx = some (fblk 10 (lget (ol x)) 62)) (hn : S.cnt + 1 ≤ 1000) {ty : TypeId} {k : Value → Heap → Prop}
    (hk : ∀ v' G', G' eb = G eb → EdV Hx G' eb va v' { S with O := upd S.O S.cnt x, cnt := S.cnt + 1 } → v'.oneCell' = true → k v' G') :
    runH Fabg.prog (Builtin.append_ #[55, 55] ty #[vo, sl bx 0 1 1]) G k := by
  obtain ⟨oa, oo, k2, k3, k4, k5, k6⟩ := hC.blk
  refine app_55 k3 (xs := ol x) (m := 1) ⟨rfl, .inr ⟨bx, 0, 1, rfl, ?_⟩⟩ (ol_one x) hn ?_
  · intro i hi
    rw [rd_eq, hbx, rdO_fblk, if_pos (by omega), Nat.zero_add]
  · intro v' G' ob' a1 a2 a3
    have hne : oo ≠ some eb := fun e => (k5 eb e).2 rfl
    have hGe : G' eb = G eb := a2 eb hne hge
    have hle : Le Hx G' := by
      intro c z hz
      have hG := hC.le0 c z hz
      rw [a2 c (fun e => by have := (k5 c e).1; rw [hz] at this; cases this) (by rw [hG]; simp)]
      exact hG
    have hob : ∀ c, ob' = some c → oo = some c ∨ G c = none := by
      intro c hc
      rcases a3 with a3 | ⟨d, a3, a4⟩
      · exact .inl (a3 ▸ hc)
      · rw [a3] at hc; cases hc; exact .inr a4
    refine hk v' G' hGe ⟨hle, hC.own, oa, ob', k2.keep (fun c hc => a2 c (k6 c hc) (k2.dom c hc)), a1.congr ?_, k4, ?_, ?_⟩ a1.one
    · intro i hi
      unfold appF obF
      have hi : i < (S.cnt + 1) * 10 := hi
      by_cases e : i < S.cnt * 10
      · rw [if_pos e]
        show lget (ol (S.O (i / 10))) (i % 10) = lget (ol (upd S.O S.cnt x (i / 10))) (i % 10)
        rw [upd_ne _ _ _ _ (by omega)]
      · rw [if_neg e]
        show _ = lget (ol (upd S.O S.cnt x (i / 10))) (i % 10)
        rw [show i / 10 = S.cnt by omega, upd_same, show i - S.cnt * 10 = i % 10 by omega]
    · intro c hc
      rcases hob c hc with h | h
      · exact k5 c h
      · exact ⟨le_none hC.le0 h, fun e => by rw [e] at h; exact hge h⟩
    · intro c hc hoo
      rcases hob c hoo with h | h
      · exact k6 c hc h
      · exact k2.dom c hc h
end Eng
end Go.Proofs.Ygcfab
