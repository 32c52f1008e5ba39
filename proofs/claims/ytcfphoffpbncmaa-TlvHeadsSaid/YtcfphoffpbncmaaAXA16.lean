/- The abstract executor, part 16: code and functions: what 'awp' asks for is enough. -/
import Derived.Test.YtcfphoffpbncmaaAXA15
set_option linter.unusedVariables false
set_option linter.unusedSimpArgs false
namespace Go.AX
open Go.RowKit
section
variable {P : Program} {E : Env}
theorem least {p : Nat → Prop} : (∃ n, p n) → ∃ m, p m ∧ ∀ k, p k → m ≤ k := by
  intro ⟨n, hn⟩
  induction n using Nat.strongRecOn with
  | _ n ih =>
    by_cases h : ∃ k, k < n ∧ p k
    · obtain ⟨k, hk, hp⟩ := h
      exact ih k hk hp
    · exact ⟨n, hn, fun k hk => Classical.byContradiction fun hl => h ⟨k, by omega, hk⟩⟩
/-- A loop, by a number that falls: the head's state may be told in more ways than one. -/
theorem wp_loop_ix {c : Code} {Q : Exit → Act → World → Prop} {a : Act} {w : World} (I : Nat → Act → World → Prop) (h0 : ∃ n, I n a w)
    (round : ∀ n a w, I n a w → c.wp P (Exit.then (fun a' w' => ∃ m, m < n ∧ I m a' w') Q) a w) : (Code.loop c).wp P Q a w := by
  let μ : Act → World → Nat := fun a w => Classical.epsilon fun m => I m a w ∧ ∀ k, I k a w → m ≤ k
  have hμ : ∀ a w, (∃ n, I n a w) → I (μ a w) a w ∧ ∀ k, I k a w → μ a w ≤ k := fun a w h => Classical.epsilon_spec (least h)
  refine wp_loop (fun a w => ∃ n, I n a w) μ h0 fun a w h => ?_
  refine Code.wp_mono (fun e a' w' q => ?_) (round _ a w (hμ a w h).1)
  cases e with
  | normal =>
    obtain ⟨m, hm, hi⟩ := q
    exact ⟨⟨m, hi⟩, Nat.lt_of_le_of_lt ((hμ a' w' ⟨m, hi⟩).2 m hi) hm⟩
  | _ => exact q
structure Inv (w0 : World) (out M : Nat → Prop) (J : List Nat) (vs : Nat → Value) (n : Nat) (w : World) (β : Bs) (st : St) (a : Act) : Prop where
  rep : SRep w β st a
  n : st.n = n
  out : β.out = out
  mt : ∀ b, mutb β st.hp b → w0.heap.size ≤ b ∨ M b
  below : BelowX M w0 w
  fix : ∀ j, j ∈ J → a.tmps.getD j undef = vs j
variable {w0 : World} {out M : Nat → Prop} {J : List Nat} {vs : Nat → Value} {n : Nat}
theorem Inv.evo {w : World} {β : Bs} {st : St} {a : Act} (h : Inv w0 out M J vs n w β st a) {w' : World} {β' : Bs} {st' : St} {a' : Act} {sx : Prop} (hS : SRep w' β' st' a') (hn : st'.n = st.n) (he : EvoS sx w β st.hp w' β' st'.hp) (hk : ∀ j, j ∈ J → a'.tmps.getD j undef = a.tmps.getD j undef) : Inv w0 out M J vs n w' β' st' a' where
  rep := hS
  n := hn.trans h.n
  out := he.out.trans h.out
  mt := fun b hb => (he.fresh b hb).elim (h.mt b) (fun hs => .inl (Nat.le_trans h.below.size hs))
  below := ⟨he.os.trans h.below.os, he.tape.trans h.below.tape, he.output.trans h.below.output, Nat.le_trans h.below.size he.size, fun k hk hM => (he.ext k (Nat.lt_of_lt_of_le hk h.below.size) (fun hm => by
    rcases h.mt k hm with h | h
    · omega
    · exact hM h)).trans (h.below.block k hk hM)⟩
  fix := fun j hj => (hk j hj).trans (h.fix j hj)
theorem Inv.cov {w : World} {β : Bs} {st : St} {a : Act} (h : Inv w0 out M J vs n w β st a) {l : List (Nat × TV)} (hc : covAll st [] l) : ∃ β', Inv w0 out M J vs n w β' (instAll l (emptySt n)) a := by
  obtain ⟨used', labs, f, h1, h2⟩ := covAll_spec h.rep hc
  obtain ⟨k1, k2⟩ := h1.okFor h.rep.hp
  have h3 := h2 _ k1
  rw [h.n] at h3
  have ho := h.out
  obtain ⟨m1, m2, m3⟩ := sch_state (out := out) h3 (h.rep.size.trans h.n) h.rep.defers (fun b hb => ⟨hb.1, by rw [← ho]; exact hb.2.1, hb.2.2⟩) (fun b hb => hb) k2
    (fun g hm => by
      obtain ⟨id, jj, c, _, _, q1, q2⟩ := h1.mut hm
      rw [← ho]
      exact h.rep.hp.nos id jj g c q1 q2)
    (fun b hb => h.rep.hp.old b (by rw [ho]; exact hb))
  refine ⟨_, m1, m2, rfl, fun b hb => ?_, h.below, h.fix⟩
  obtain ⟨id, jj, c, _, _, q1, q2⟩ := h1.mut (m3 b hb)
  exact h.mt b ⟨id, jj, c, q1, q2⟩
def APost (w0 : World) (out M : Nat → Prop) (J : List Nat) (vs : Nat → Value) (n : Nat) (Q : AEx → St → Prop) : Exit → Act → World → Prop
  | .normal, a, w => ∃ β st, Inv w0 out M J vs n w β st a ∧ Q .normal st
  | .exit i, a, w => ∃ β st, Inv w0 out M J vs n w β st a ∧ Q (.exit i) st
  | .ret, a, w => ∃ β st, Inv w0 out M J vs n w β st a ∧ Q .ret st
  | _, _, _ => False
theorem awp_run (hE : EnvOk P E) {C : Cfg} (hsp : SpsOk P C.sp) : ∀ (c : Code) (st : St) (a : Act) (w : World) (β : Bs) (Q : AEx → St → Prop), (∀ j, j ∈ J → j ∉ Code.dsts c) → Inv w0 out M J vs n w β st a → awp E C c st Q → c.wp P (APost w0 out M J vs n Q) a w := by
  intro c
  induction c with
  | skip =>
    intro st a w β Q hJ hi h
    exact wp_skip ⟨β, st, hi, h⟩
  | exit id =>
    intro st a w β Q hJ hi h
    exact wp_exit ⟨β, st, hi, h⟩
  | ret =>
    intro st a w β Q hJ hi h
    exact wp_ret ⟨β, st, hi, h⟩
  | region id ops draw =>
    intro st a w β Q hJ hi h
    cases draw with
    | true => exact draw_run hE hsp h.1 hi.rep h.2 fun st' a' w' β' hn hk k hS' he => ⟨β', st', hi.evo hS' hn he (fun j hj => hk j fun o ho e => hJ j hj (List.mem_filterMap.2 ⟨o, ho, e⟩)), k⟩
    | false => exact wp_region_list (aops_run hE hsp ops _ ops.toList st a w β hi.rep h fun st' a' w' β' hn hk k hS' he => ⟨β', st', hi.evo hS' hn he (fun j hj => hk j fun o ho e => hJ j hj (List.mem_filterMap.2 ⟨o, ho, e⟩)), k⟩)
  | seq x y ihx ihy =>
    intro st a w β Q hJ hi h
    have hJx : ∀ j, j ∈ J → j ∉ Code.dsts x := fun j hj hm => hJ j hj (List.mem_append_left _ hm)
    have hJy : ∀ j, j ∈ J → j ∉ Code.dsts y := fun j hj hm => hJ j hj (List.mem_append_right _ hm)
    have key : ∀ (K : St → Prop), (∀ st' a' w' β', Inv w0 out M J vs n w' β' st' a' → K st' → y.wp P (APost w0 out M J vs n Q) a' w') → awp E C x st (seqK K Q) → (Code.seq x y).wp P (APost w0 out M J vs n Q) a w := fun K hK h => by
      refine wp_seq (Code.wp_mono (fun e a' w' q => ?_) (ihx st a w β _ hJx hi h))
      cases e with
      | normal => obtain ⟨β', st', hi', hk⟩ := q; exact hK st' a' w' β' hi' hk
      | exit i => obtain ⟨β', st', hi', hk⟩ := q; exact ⟨β', st', hi', hk⟩
      | ret => obtain ⟨β', st', hi', hk⟩ := q; exact ⟨β', st', hi', hk⟩
      | _ => exact q.elim
    unfold awp at h
    split at h
    · exact key _ (fun st' a' w' β' hi' hk => ihy st' a' w' β' Q hJy hi' hk) h
    · rename_i S hS
      refine key _ (fun st' a' w' β' hi' hk => ?_) h.1
      obtain ⟨i, hp, hc⟩ := hk
      obtain ⟨β2, hi2⟩ := hi'.cov hc
      have := h.2 i hp
      rw [hi.n] at this
      exact ihy _ a' w' β2 Q hJy hi2 this
  | cond c x y ihx ihy =>
    intro st a w β Q hJ hi h
    have hJx : ∀ j, j ∈ J → j ∉ Code.dsts x := fun j hj hm => hJ j hj (List.mem_append_left _ hm)
    have hJy : ∀ j, j ∈ J → j ∉ Code.dsts y := fun j hj hm => hJ j hj (List.mem_append_right _ hm)
    unfold awp acond at h
    split at h
    · rename_i b hb
      have hv : a.eval c = .bool b := ev_v hi.rep hb
      exact wp_cond_split hv (fun ht => ihx st a w β Q hJx hi (h.1 ht)) (fun hf => ihy st a w β Q hJy hi (h.2 hf))
    · rename_i p q hb
      have hr := ev_rep hi.rep c
      rw [hb] at hr
      obtain ⟨b, hv, hp, hq⟩ := (hr : (CV.qb p q).rep w β st.hp (a.eval c))
      exact wp_cond_split hv (fun ht => ihx st a w β Q hJx hi (h.1 (hp ht))) (fun hf => ihy st a w β Q hJy hi (h.2 (hq hf)))
    · exact h.elim
  | block id c ih =>
    intro st a w β Q hJ hi h
    unfold awp at h
    refine wp_block (Code.wp_mono (fun e a' w' q => ?_) (ih st a w β _ hJ hi h))
    cases e with
    | normal => exact q
    | exit i =>
      obtain ⟨β', st', hi', hk⟩ := q
      unfold blockK at hk
      dsimp only at hk
      show if i = id then _ else _
      split at hk
      · rename_i e
        rw [if_pos e]
        exact ⟨β', st', hi', hk⟩
      · rename_i e
        rw [if_neg e]
        exact ⟨β', st', hi', hk⟩
    | ret => exact q
    | _ => exact q.elim
  | loop c ih =>
    intro st a w β Q hJ hi h
    unfold awp at h
    split at h
    · exact h.elim
    · rename_i S hS
      split at h
      case h_2 rel hrel =>
        obtain ⟨i0, ⟨hp0, hr0, hc0⟩, h⟩ := h
        obtain ⟨β0, hi0⟩ := hi.cov hc0
        refine wp_loop_ix (fun m a w => ∃ i β, S.μ i = m ∧ S.pre i ∧ rel i0 i ∧ Inv w0 out M J vs n w β (instAll (S.sl i) (emptySt n)) a) ⟨_, i0, β0, rfl, hp0, hr0, hi0⟩ ?_
        rintro m a' w' ⟨i, β', rfl, hp, hr, hi'⟩
        have h2 := h i hp hr
        rw [hi.n] at h2
        refine Code.wp_mono (fun e a2 w2 q => ?_) (ih _ a' w' β' _ hJ hi' h2)
        cases e with
        | normal =>
          obtain ⟨β2, st2, hi2, j, hpj, hrj, hlt, hc⟩ := q
          obtain ⟨β3, hi3⟩ := hi2.cov hc
          exact ⟨_, hlt, j, β3, rfl, hpj, hrj, hi3⟩
        | exit i => exact q
        | ret => exact q
        | _ => exact q.elim
      obtain ⟨⟨i0, hp0, hc0⟩, h⟩ := h
      obtain ⟨β0, hi0⟩ := hi.cov hc0
      refine wp_loop_ix (fun m a w => ∃ i β, S.μ i = m ∧ S.pre i ∧ Inv w0 out M J vs n w β (instAll (S.sl i) (emptySt n)) a) ⟨_, i0, β0, rfl, hp0, hi0⟩ ?_
      rintro m a' w' ⟨i, β', rfl, hp, hi'⟩
      have h2 := h i hp
      rw [hi.n] at h2
      refine Code.wp_mono (fun e a2 w2 q => ?_) (ih _ a' w' β' _ hJ hi' h2)
      cases e with
      | normal =>
        obtain ⟨β2, st2, hi2, j, hpj, hlt, hc⟩ := q
        obtain ⟨β3, hi3⟩ := hi2.cov hc
        exact ⟨_, hlt, j, β3, rfl, hpj, hi3⟩
      | exit i => exact q
      | ret => exact q
      | _ => exact q.elim
  | _ =>
    intro st a w β Q hJ hi h
    exact h.elim
end
end Go.AX
