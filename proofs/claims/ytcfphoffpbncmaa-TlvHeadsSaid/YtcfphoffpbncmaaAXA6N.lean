/- The abstract executor, part 6b: append to a row whose elements have rows of their own; such rows made; own cuts; rows of zeros. -/
import Derived.Test.YtcfphoffpbncmaaAXA6
import Derived.Laws.MakeOwn
set_option linter.unusedVariables false
set_option linter.unusedSimpArgs false
namespace Go.AX
section
variable {P : Program} {E : Env} {w : World} {β : Bs} {st : St} {a : Act}
theorem nsz_pos (pk : Option IntKind) : 0 < nsz pk := by cases pk <;> simp [nsz]
theorem nbo_lt (pk : Option IntKind) : nbo pk < nsz pk := by cases pk <;> simp [nbo, nsz]
/-- Every cell of such a row's elements is one cell's value, if no row is out. -/
theorem nestO.one {ok : Nat → Prop} {F : Fp} {pk : Option IntKind} {eb : TypeId} {r : Row} {xs : List (Int × List r.den)} {cells : Array Value}
    (hall : ∀ (i : Nat) (x : Int × List r.den), xs[i]? = some x → (∀ k, pk = some k → cells[i * nsz pk]? = some (.int k x.1)) ∧
      ∃ u, cells[i * nsz pk + nbo pk]? = some u ∧ (∀ q : Nat × (Value → Prop), none = some q → q.1 = i → q.2 u) ∧ ((∀ q : Nat × (Value → Prop), none = some q → q.1 ≠ i) → u = ownVal (F (i + 1)) x.2.length ∧ rowObj w ok (F (i + 1)) eb r x.2)) :
    ∀ u ∈ cells.toList.take (xs.length * nsz pk), u.oneCell' = true := by
  intro u hu
  obtain ⟨q, hq⟩ := List.mem_iff_getElem?.1 hu
  have hql : q < xs.length * nsz pk := by
    rcases Nat.lt_or_ge q (xs.length * nsz pk) with h | h
    · exact h
    · rw [List.getElem?_eq_none (by simp; omega)] at hq; cases hq
  rw [List.getElem?_take_of_lt hql] at hq
  have hq : cells[q]? = some u := by simpa using hq
  have hp := nsz_pos pk
  have hi : q / nsz pk < xs.length := Nat.div_lt_of_lt_mul (by rwa [Nat.mul_comm])
  obtain ⟨a1, v, a2, a3, a4⟩ := hall _ _ (List.getElem?_eq_getElem hi)
  obtain ⟨b1, _⟩ := a4 (fun q hq => by cases hq)
  have hdm := Nat.div_add_mod q (nsz pk)
  rw [Nat.mul_comm] at hdm
  have hm := Nat.mod_lt q hp
  cases pk with
  | none =>
    have hm : q % 1 < 1 := hm
    have e1 : q / nsz none * nsz none + nbo none = q := by
      simp only [nsz, nbo] at hdm ⊢
      omega
    rw [e1, hq] at a2
    injection a2 with a2
    subst a2
    rw [b1]
    exact ownVal_one _ _
  | some k =>
    have hm : q % 2 < 2 := hm
    have hdm : q / 2 * 2 + q % 2 = q := hdm
    by_cases h0 : q % 2 = 0
    · have e1 : q / nsz (some k) * nsz (some k) = q := by
        show q / 2 * 2 = q
        omega
      have := a1 k rfl
      rw [e1, hq] at this
      injection this with this
      subst this
      rfl
    · have e1 : q / nsz (some k) * nsz (some k) + nbo (some k) = q := by
        show q / 2 * 2 + 1 = q
        omega
      rw [e1, hq] at a2
      injection a2 with a2
      subst a2
      rw [b1]
      exact ownVal_one _ _
theorem anappend_run (hE : EnvOk P E) (hH : HRep w β st.hp) {t ty : TypeId} {x y : CV} {vx vy : Value} (hx : x.rep w β st.hp vx) (hy : y.rep w β st.hp vy) {K : AV → List Obj → Prop} (h : anappend E t st.hp x y K) :
    ∃ v av w' β' hp', K av hp' ∧ HRep w' β' hp' ∧ Evo w β st.hp w' β' hp' ∧ av.rep w' β' hp' v ∧ (Builtin.append_ #[t, t] ty #[vx, vy]).run P w = .ok v w' := by
  unfold anappend at h
  split at h
  · rename_i i j
    obtain ⟨β1, hp, h, hH1, hE1⟩ := absorb_run hH h
    have hx := hE1.cv hx
    have hy := hE1.cv hy
    split at h
    · rename_i e pk eb r xs e' pk' eb' r' ys hgi hgj
      split at h
      · rename_i e0 r0 bytes ht
        obtain ⟨hu, inf, z, hinf, hsz, hby, hz, hzs, hb0⟩ := hE.slice t e0 r0 bytes ht
        split at h
        · rename_i hc
          obtain ⟨rfl, rfl, rfl, rfl, hrs⟩ := hc
          obtain ⟨⟨hij, hyl, hbytes⟩, h⟩ := h
          split at h
          · rename_i zs hcr
            obtain ⟨rfl, _⟩ := castRow_spec hcr
            obtain ⟨hemp, hK⟩ := h
            have hid : i < hp.length := hx.1
            have hjd : j < hp.length := hy.1
            have hx2 := hx.2
            rw [hgi] at hx2
            have hx2 : vx = ownVal (β1.f i 0) xs.length := hx2
            have hy2 := hy.2
            rw [hgj] at hy2
            have hy2 : vy = ownVal (β1.f j 0) ys.length := hy2
            have hOi := hH1.obj i hid
            unfold ObjRep at hOi
            rw [hgi] at hOi
            obtain ⟨g, cap, cells, c0, c1, c2, c3, c4, _, hall⟩ := hOi
            have hOj := hH1.obj j hjd
            unfold ObjRep at hOj
            rw [hgj] at hOj
            obtain ⟨g2, cap2, cells2, d0, d1, d2, d3, d4, _, hall2⟩ := hOj
            have hall' : ∀ (i_1 : Nat) (x : Int × List r'.den), xs[i_1]? = some x → (∀ k, pk' = some k → cells[i_1 * nsz pk']? = some (.int k x.1)) ∧ ∃ u, cells[i_1 * nsz pk' + nbo pk']? = some u ∧ u = ownVal (β1.f i (i_1 + 1)) x.2.length ∧ rowObj w (imm w β1 hp) (β1.f i (i_1 + 1)) eb' r' x.2 := fun q x hq => by
              obtain ⟨a1, u, a2, a3, a4⟩ := hall q x hq
              exact ⟨a1, u, a2, a4 (fun q hq => by cases hq)⟩
            have hall2' : ∀ (i_1 : Nat) (x : Int × List r'.den), ys[i_1]? = some x → (∀ k, pk' = some k → cells2[i_1 * nsz pk']? = some (.int k x.1)) ∧ ∃ u, cells2[i_1 * nsz pk' + nbo pk']? = some u ∧ u = ownVal (β1.f j (i_1 + 1)) x.2.length ∧ rowObj w (imm w β1 hp) (β1.f j (i_1 + 1)) eb' r' x.2 := fun q x hq => by
              obtain ⟨a1, u, a2, a3, a4⟩ := hall2 q x hq
              exact ⟨a1, u, a2, a4 (fun q hq => by cases hq)⟩
            have hisz : inf.size = nsz pk' := hsz.trans hrs
            have hsp := nsz_pos pk'
            have hcl : xs.length * nsz pk' ≤ cells.size := by rw [c2]; exact Nat.mul_le_mul_right _ c3
            have hcl2 : ys.length * nsz pk' ≤ cells2.size := by rw [d2]; exact Nat.mul_le_mul_right _ d3
            obtain ⟨o', w', hrun, a1, a2, a3, a4, a5, a6, a7⟩ := run_append (P := P) (ty := ty) hu hinf hz (by rw [hzs, hsz]) (by rw [hisz]; exact hsp) (by rw [hby]; exact hb0) (some (g, cap)) xs.length (cells.toList.take (xs.length * nsz pk')) (.inr ⟨g, cap, cells, rfl, c1, by rw [hisz]; exact c2, c3, c4, by rw [hisz]⟩)
              (some ⟨g2, 0, none⟩) ys.length cap2 (cells2.toList.take (ys.length * nsz pk')) (.inr ⟨_, rfl, fun q u hq => by
                rw [Addr.add_lit]
                simp only [World.cell?, d1]
                rw [List.getElem?_take] at hq
                split at hq
                · simpa using hq
                · cases hq⟩) (by rw [hisz]; simp; omega) (nestO.one hall2) (by rw [hby]; exact hbytes)
            rcases a7 with ⟨_, b2⟩ | ⟨g3, cap3, cells3, rfl, b2, b3, b4, b5, C, b6⟩
            · omega
            let F : Fp := fun k => match k with
              | 0 => some (g3, cap3)
              | k + 1 => if k < xs.length then β1.f i (k + 1) else β1.f j (k - xs.length + 1)
            have hF0 : F 0 = some (g3, cap3) := rfl
            have hFl : ∀ k, k < xs.length → F (k + 1) = β1.f i (k + 1) := fun k hk => if_pos hk
            have hFr : ∀ k, ¬ k < xs.length → F (k + 1) = β1.f j (k - xs.length + 1) := fun k hk => if_neg hk
            have hfi : ∀ k, k ≤ xs.length → fp hp i k := fun k hk => by
              unfold fp fpO
              rw [hgi]
              exact ⟨hk, fun p hp => by cases hp⟩
            have hfj : ∀ k, k ≤ ys.length → fp hp j k := fun k hk => by
              unfold fp fpO
              rw [hgj]
              exact ⟨hk, fun p hp => by cases hp⟩
            let o : Obj := .nest e' pk' eb' r' (xs ++ ys.map fun y => (y.1, [])) none
            have holen : (xs ++ ys.map fun y => ((y.1, []) : Int × List r'.den)).length = xs.length + ys.length := by simp
            have hlen : (hset (hset hp i .gone) j .gone ++ [o]).length = hp.length + 1 := by simp [hset_len]
            have hnew : hget (hset (hset hp i .gone) j .gone ++ [o]) hp.length = o := by
              have := hget_append_new (hset (hset hp i .gone) j .gone) o
              rwa [hset_len, hset_len] at this
            have hget1 : ∀ k, k < hp.length → hget (hset (hset hp i .gone) j .gone ++ [o]) k = if k = j then .gone else if k = i then .gone else hget hp k := fun k hk => by
              rw [hget_append_lt _ _ _ (by rw [hset_len, hset_len]; exact hk)]
              by_cases e1 : k = j
              · subst e1
                rw [hget_hset_self _ _ _ (by rw [hset_len]; exact hk), if_pos rfl]
              · rw [hget_hset_ne _ _ _ _ e1, if_neg e1]
                by_cases e2 : k = i
                · subst e2
                  rw [hget_hset_self _ _ _ hk, if_pos rfl]
                · rw [hget_hset_ne _ _ _ _ e2, if_neg e2]
            have hdead : ∀ k, k = i ∨ k = j → ¬ live (hset (hset hp i .gone) j .gone ++ [o]) k := fun k hk hl => by
              unfold live at hl
              rw [hget1 k (by rcases hk with rfl | rfl <;> assumption)] at hl
              rcases hk with rfl | rfl
              · rw [if_neg hij, if_pos rfl] at hl
                exact hl
              · rw [if_pos rfl] at hl
                exact hl
            have hlv : ∀ k, k ≠ hp.length → live (hset (hset hp i .gone) j .gone ++ [o]) k → k < hp.length ∧ k ≠ i ∧ k ≠ j ∧ hget (hset (hset hp i .gone) j .gone ++ [o]) k = hget hp k := fun k hne hl => by
              have h0 := live_lt hl
              rw [hlen] at h0
              have h1 : k < hp.length := by omega
              have e1 : k ≠ i := fun e => hdead k (.inl e) hl
              have e2 : k ≠ j := fun e => hdead k (.inr e) hl
              exact ⟨h1, e1, e2, by rw [hget1 k h1, if_neg e2, if_neg e1]⟩
            have hgold : ∀ b, b < w.heap.size → b ≠ g → w'.heap[b]? = w.heap[b]? := fun b hb hne => a5 b hb fun c e => by
              injection e with e
              injection e with e
              exact hne e.symm
            have hg3 : w.heap.size ≤ g3 ∨ g3 = g := (a6 g3 cap3 rfl).imp (fun h => h) fun ⟨c0, e⟩ => by
              injection e with e
              injection e with e
              exact e.symm
            -- where a part of the new row's blocks was
            have hsrc : ∀ k g' c, k ≤ xs.length + ys.length → F k = some (g', c) → (k = 0 ∧ g' = g3) ∨ ∃ id0 k0, (id0 = i ∧ k0 = k ∧ k0 ≤ xs.length ∨ id0 = j ∧ k0 = k - xs.length ∧ k0 ≤ ys.length) ∧ 0 < k0 ∧ fp hp id0 k0 ∧ β1.f id0 k0 = some (g', c) := by
              intro k g' c hk hb
              cases k with
              | zero =>
                rw [hF0] at hb
                injection hb with hb
                injection hb with hb
                exact .inl ⟨rfl, hb.symm⟩
              | succ k =>
                by_cases h1 : k < xs.length
                · rw [hFl k h1] at hb
                  exact .inr ⟨i, k + 1, .inl ⟨rfl, rfl, by omega⟩, by omega, hfi _ (by omega), hb⟩
                · rw [hFr k h1] at hb
                  exact .inr ⟨j, k - xs.length + 1, .inr ⟨rfl, by omega, by omega⟩, by omega, hfj _ (by omega), hb⟩
            obtain ⟨e1, e2⟩ := hH1.step (w' := w') (β' := bnewF β1 hp.length F) (hp' := hset (hset hp i .gone) j .gone ++ [o]) (fun k => k = hp.length) a1 a2 a3 a4 (by rw [hlen]; omega) rfl
              (fun b hbs hm => hgold b hbs fun e => hm ⟨i, 0, cap, hfi 0 (by omega), e ▸ c0⟩)
              (fun k hn hl => by
                obtain ⟨m1, m2, m3, m4⟩ := hlv k hn hl
                exact ⟨m4, bnewF_ne _ _ hn, fun kk g' c hf hb => hgold g' (hH1.ltj hf hb) fun e => by
                  subst e
                  exact m2 (hH1.diss k i kk 0 g' c cap hf (hfi 0 (by omega)) hb c0).1⟩)
              (fun k kk g' c hn hf hb => by
                subst hn
                rw [bnewF_at] at hb
                unfold fp at hf
                rw [hnew] at hf
                have hf := hf.1
                rw [holen] at hf
                rcases hsrc kk g' c hf hb with ⟨rfl, rfl⟩ | ⟨id0, k0, q1, _, q2, q3⟩
                · rcases hg3 with h | h
                  · exact .inl h
                  · exact .inr ⟨i, 0, cap, hfi 0 (by omega), by rw [h]; exact c0, fun _ => hdead i (.inl rfl)⟩
                · exact .inr ⟨id0, k0, c, q2, q3, fun _ => hdead id0 (q1.imp (fun h => h.1) (fun h => h.1))⟩)
              (fun k k' kk kk' g' c c' hn hn' hf hf' hb hb' => by
                subst hn hn'
                rw [bnewF_at] at hb hb'
                unfold fp at hf hf'
                rw [hnew] at hf hf'
                have hf := hf.1
                have hf' := hf'.1
                rw [holen] at hf hf'
                have nz : ∀ id0 k0, 0 < k0 → fp hp id0 k0 → ∀ c, β1.f id0 k0 = some (g3, c) → (id0 = i ∨ id0 = j) → False := fun id0 k0 h0 hff c hbb hor => by
                  rcases hg3 with h | h
                  · have := hH1.ltj hff hbb
                    omega
                  · rw [h] at hbb
                    have := (hH1.diss id0 i k0 0 g c cap hff (hfi 0 (by omega)) hbb c0).2
                    omega
                refine ⟨rfl, ?_⟩
                rcases hsrc kk g' c hf hb with ⟨rfl, rfl⟩ | ⟨id0, k0, q1, q0, q2, q3⟩
                · rcases hsrc kk' g' c' hf' hb' with ⟨rfl, _⟩ | ⟨id0, k0, q1, q0, q2, q3⟩
                  · rfl
                  · exact (nz id0 k0 q0 q2 c' q3 (q1.imp (fun h => h.1) (fun h => h.1))).elim
                · rcases hsrc kk' g' c' hf' hb' with ⟨rfl, rfl⟩ | ⟨id1, k1, p1, p0, p2, p3⟩
                  · exact (nz id0 k0 q0 q2 c q3 (q1.imp (fun h => h.1) (fun h => h.1))).elim
                  · obtain ⟨u1, u2⟩ := hH1.diss id0 id1 k0 k1 g' c c' q2 p2 q3 p3
                    omega)
              (fun k hk => by
                by_cases q1 : k = i
                · subst q1
                  refine .inr fun _ => ?_
                  rw [hget1 k hk, if_neg hij, if_pos rfl]
                  rw [hgi]
                  exact trivial
                · by_cases q2 : k = j
                  · subst q2
                    refine .inr fun _ => ?_
                    rw [hget1 k hk, if_pos rfl]
                    rw [hgj]
                    exact trivial
                  · exact .inl ⟨by rw [hget1 k hk, if_neg q2, if_neg q1], bnewF_ne _ _ (by omega)⟩)
            refine ⟨_, _, w', _, _, hK, e2 ?_, hE1.trans e1, ⟨by rw [hlen]; omega, ?_⟩, by rw [hx2, hy2, c0, d0]; exact hrun⟩
            · intro k hk _
              subst hk
              unfold ObjRep
              rw [hnew, bnewF_at]
              have hol : (cells.toList.take (xs.length * nsz pk')).length = xs.length * nsz pk' := by simp; omega
              have hnl : (cells2.toList.take (ys.length * nsz pk')).length = ys.length * nsz pk' := by simp; omega
              have hc3 : ∀ q, cells3[q]? = cells3.toList[q]? := fun q => by rw [Array.getElem?_toList]
              have hmo : ∀ id0 k0, 0 < k0 → fp hp id0 k0 → ∀ g' c, β1.f id0 k0 = some (g', c) → w'.heap[g']? = w.heap[g']? := fun id0 k0 h0 hff g' c hbb => hgold g' (hH1.ltj hff hbb) fun e => by
                rw [e] at hbb
                have := (hH1.diss id0 i k0 0 g c cap hff (hfi 0 (by omega)) hbb c0).2
                omega
              refine ⟨g3, cap3, cells3, hF0, b2, by rw [← hisz]; exact b3, by rw [holen]; exact b4, b5, (fun q hq => nomatch hq), fun q x hq => ?_⟩
              have hql := (List.getElem?_eq_some_iff.1 hq).1
              rw [holen] at hql
              by_cases h1 : q < xs.length
              · rw [List.getElem?_append_left h1] at hq
                obtain ⟨m1, u, m2, m3, m4⟩ := hall' q x hq
                have hle : (q + 1) * nsz pk' ≤ xs.length * nsz pk' := Nat.mul_le_mul_right _ h1
                rw [Nat.add_mul] at hle
                have hlt := nbo_lt pk'
                have hcc : ∀ s, s < nsz pk' → cells3[q * nsz pk' + s]? = cells[q * nsz pk' + s]? := fun s hs => by
                  rw [hc3, b6, List.append_assoc, List.getElem?_append_left (by rw [hol]; omega), List.getElem?_take_of_lt (by omega)]
                  simp
                refine ⟨fun k hk => ?_, u, by rw [hcc _ hlt]; exact m2, (fun q hq => nomatch hq), fun _ => ?_⟩
                · have := hcc 0 hsp
                  rw [Nat.add_zero] at this
                  rw [this]
                  exact m1 k hk
                · rw [hFl q h1]
                  exact ⟨m3, m4.mono e1.stays (hmo i (q + 1) (by omega) (hfi _ (by omega)))⟩
              · rw [List.getElem?_append_right (by omega), List.getElem?_map] at hq
                cases hyq : ys[q - xs.length]? with
                | none => rw [hyq] at hq; cases hq
                | some y =>
                  rw [hyq] at hq
                  injection hq with hq
                  subst hq
                  have hye : y.2 = [] := by
                    have := List.all_eq_true.1 hemp y (List.mem_of_getElem? hyq)
                    simpa using this
                  obtain ⟨m1, u, m2, m3, m4⟩ := hall2' _ y hyq
                  have hlt := nbo_lt pk'
                  have hle : (q - xs.length + 1) * nsz pk' ≤ ys.length * nsz pk' := Nat.mul_le_mul_right _ (by omega)
                  rw [Nat.add_mul] at hle
                  have hqe : q * nsz pk' = xs.length * nsz pk' + (q - xs.length) * nsz pk' := by
                    rw [← Nat.add_mul]
                    congr 1
                    omega
                  have hcc : ∀ s, s < nsz pk' → cells3[q * nsz pk' + s]? = cells2[(q - xs.length) * nsz pk' + s]? := fun s hs => by
                    rw [hc3, b6, List.append_assoc, List.getElem?_append_right (by rw [hol]; omega), List.getElem?_append_left (by rw [hol, hnl]; omega), List.getElem?_take_of_lt (by rw [hol]; omega), hol]
                    have : q * nsz pk' + s - xs.length * nsz pk' = (q - xs.length) * nsz pk' + s := by omega
                    rw [this]
                    simp
                  refine ⟨fun k hk => ?_, u, by rw [hcc _ hlt]; exact m2, (fun q hq => nomatch hq), fun _ => ?_⟩
                  · have := hcc 0 hsp
                    rw [Nat.add_zero, Nat.add_zero] at this
                    rw [this]
                    exact m1 k hk
                  · rw [hFr q h1]
                    rw [hye] at m3 m4
                    exact ⟨m3, m4.mono e1.stays (hmo j (q - xs.length + 1) (by omega) (hfj _ (by omega)))⟩
            · rw [hnew]
              show ownVal _ _ = ownVal ((bnewF β1 hp.length F).f hp.length 0) _
              rw [bnewF_at, hF0, holen]
          · exact h.elim
        · exact h.elim
      · exact h.elim
    · exact h.elim
  · exact h.elim
end
end Go.AX
