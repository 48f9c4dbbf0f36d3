import Derived.Test.YtinhlmelicmheaaGreatEv19
namespace Go.Ev
open Go

section
variable {P : Program} {N : Nat} {ops : Array Oper} {ds : List DOp} {nt : Nat} {tm0 : Tr AV} {ρ0 : Ren} {σ0 : Heap} {w0 : World} {a0 : Act}
  {D : Nat} {R : Tr AV} {done : List DOp} {ρ : Ren} {σ : Heap} {w : World} {L : Array Bool} {a : Act} {nm : Nat → Option Nat} {F : CallF} {Q : Exit → Act → World → Prop}

theorem Rep.lateGhost [Sy] (h : Rep P N ρ σ w) {n : Nat} (hn : ρ n = none) (hlt : n < σ.next) (hg : σ.get n = none) {M : Loc} (h1 : N ≤ M.blk) (h2 : M.blk < w.heap.size) : Rep P N (upd ρ n M) σ w where
  blk b B L' hb hL' := by
    have e : b ≠ n := fun e => by subst e; rw [hg] at hb; cases hb
    rw [upd_ne _ _ e] at hL'
    obtain ⟨o, ho, hr⟩ := h.blk b B L' hb hL'
    exact ⟨o, ho, hr.mono (le_upd _ hn)⟩
  inj b b' B B' L1 L2 g1 g2 g3 g4 g5 := by
    have e1 : b ≠ n := fun e => by subst e; rw [hg] at g1; cases g1
    have e2 : b' ≠ n := fun e => by subst e; rw [hg] at g2; cases g2
    rw [upd_ne _ _ e1] at g3
    rw [upd_ne _ _ e2] at g4
    exact h.inj b b' B B' L1 L2 g1 g2 g3 g4 g5
  low b L' hL' := by
    by_cases e : b = n
    · subst e; rw [upd_same] at hL'; cases hL'; exact ⟨h1, h2⟩
    · rw [upd_ne _ _ e] at hL'; exact h.low b L' hL'
  fresh b hb := by rw [upd_ne _ _ (by omega)]; exact h.fresh b hb
  freshσ := h.freshσ
  room := h.room

/-- One more has run in the world: of what the evaluator has run ahead. -/
theorem Side.take [Sy] (ht : Tab ops ds nt) (h : Side P N ops ds nt tm0 ρ0 σ0 w0 a0 D R done ρ σ w L a nm) {d : DOp} (hds : d ∈ ds) (hD : inD D d.idx = true) (hnot : ¬ lst L d.idx)
    (hready : ∀ e ∈ d.o.after.toList, Region.binds .any e = true → lst L e.on) {v : AV} {u : Value} (hv : R.at0 d.idx = some v)
    {ρ' : Ren} {w' : World} (hle : Le ρ ρ') (hc : con ρ' v = some u) (hrep : Rep P N ρ' σ w') (hb : RowKit.Below N w w')
    (hag : ∀ b, b < σ0.next → ρ' b = ρ b) (hpn : ∀ d' ∈ ds, d'.idx ≠ d.idx → inD D d'.idx = true → ¬ lst L d'.idx → ∀ n, nm d'.idx = some n → ρ' n = none) :
    Side P N ops ds nt tm0 ρ0 σ0 w0 a0 D R done ρ' σ w' (L.setIfInBounds d.idx true) (a.put d.o.dst u) nm := by
  have hlt : d.idx < L.size := by rw [h.lsize]; exact ht.lt hds
  have hL : ∀ i, lst (L.setIfInBounds d.idx true) i ↔ (i = d.idx ∨ lst L i) := fun i => lst_set hlt
  obtain ⟨s0, s1⟩ := h.slots ht.back ht.slots hds (ht.good hds) hnot (R' := R) (fun _ _ => rfl) hle hv hc hL
  constructor
  · exact h.defd
  · exact h.undefd
  · exact h.downD
  · exact h.dones
  · exact h.doneds
  · exact hrep
  · simpa using h.lsize
  · intro j o ho hj e he hbd
    rcases (hL j).1 hj with r | r
    · subst r
      have := (ht.good hds).op
      rw [this] at ho; cases ho
      exact (hL _).2 (.inr (hready e he hbd))
    · exact (hL _).2 (.inr (h.downL j o ho r e he hbd))
  · intro i hi
    rcases (hL i).1 hi with r | r
    · subst r; exact hD
    · exact h.sub i r
  · intro d' hd' hE hD'; exact (hL _).2 (.inr (h.eff d' hd' hE hD'))
  · cases hdd : d.o.dst with
    | none => exact h.tsize
    | some t => simp [Act.put, h.tsize]
  · exact s0
  · exact s1
  · intro i hi
    rcases (hL i).1 hi with r | r
    · subst r; exact ⟨v, u, hv, hc⟩
    · obtain ⟨v', u', q1, q2⟩ := h.vals i r
      exact ⟨v', u', q1, con_mono hle _ _ q2⟩
  · intro d' hd' hD' hL'
    have hne : d'.idx ≠ d.idx := fun e => hL' ((hL _).2 (.inl e))
    have hnL : ¬ lst L d'.idx := fun hl => hL' ((hL _).2 (.inr hl))
    have hp := h.pend d' hd' hD' hnL
    cases hn : nm d'.idx with
    | none => rw [hn] at hp; exact hp
    | some n =>
      rw [hn] at hp
      obtain ⟨q1, E, B, mk, q2, q3, q4, q5, q6, q7⟩ := hp
      exact ⟨q1, E, B, mk, q2, q3, q4, q5, hpn d' hd' hne hD' hnL n hn, q7⟩
  · intro d1 hd1 d2 hd2 hD1 hL1 hD2 hL2 n hn1 hn2
    exact h.names d1 hd1 d2 hd2 hD1 (fun hl => hL1 ((hL _).2 (.inr hl))) hD2 (fun hl => hL2 ((hL _).2 (.inr hl))) n hn1 hn2
  · exact put_defers.trans h.defers
  · intro b hb'; rw [hag b hb']; exact h.agree b hb'
  · exact h.next
  · exact h.pend0
  · exact h.below.trans hb
  · intro d' hd' hD' hL' n hn; exact h.nm0 d' hd' hD' (fun hl => hL' ((hL _).2 (.inr hl))) n hn

theorem wpOp_of [Sy] (ht : Tab ops ds nt) {d : DOp} (hds : d ∈ ds) {K : Act → World → Prop} {b : Bool} (hw : Region.wanted d.o (yielded ops a.tmps) = b)
    (h1 : b = true → d.o.wp P a w K Q) (h0 : b = false → K (a.put d.o.dst undef) w) : wpOp P ops Q d.idx K a w := by
  have hop : ops[d.idx]? = some d.o := by have := (ht.good hds).op; simpa using this
  unfold wpOp
  simp only [hop]
  cases b with
  | true => rw [if_pos hw]; exact .inl (h1 rfl)
  | false => rw [if_neg (by rw [hw]; simp)]; exact h0 rfl

theorem Side.realPend [Sy] (ht : Tab ops ds nt) (h : Side P N ops ds nt tm0 ρ0 σ0 w0 a0 D R done ρ σ w L a nm) {d : DOp} (hds : d ∈ ds) (hD : inD D d.idx = true) (hnot : ¬ lst L d.idx)
    (hready : ∀ e ∈ d.o.after.toList, Region.binds .any e = true → lst L e.on) {K : Act → World → Prop}
    (hK : ∀ ρ' w' a', Side P N ops ds nt tm0 ρ0 σ0 w0 a0 D R done ρ' σ w' (L.setIfInBounds d.idx true) a' nm → K a' w') : wpOp P ops Q d.idx K a w := by
  have hd := ht.good hds
  have hgood := h.good hd hnot hready
  have hp := h.pend d hds hD hnot
  cases hn : nm d.idx with
  | none =>
    rw [hn] at hp
    rcases hp with ⟨hw, hv⟩ | ⟨hw, E, v, hE, hav, hv⟩
    · refine wpOp_of ht hds (h.wanted hd hnot hready hw) (fun hb => by cases hb) (fun _ => ?_)
      exact hK ρ w _ (h.take ht hds hD hnot hready hv (Le.refl ρ) con_unit h.rep (RowKit.Below.refl _ _) (fun _ _ => rfl) (fun d' hd' _ hD' hL' n hn' => by
        have := h.pend d' hd' hD' hL'; rw [hn'] at this; obtain ⟨_, _, _, _, _, _, _, _, q, _⟩ := this; exact q))
    · refine wpOp_of ht hds (h.wanted hd hnot hready hw) (fun _ => ?_) (fun hb => by cases hb)
      obtain ⟨u, w', hc, hrun, hrep, hb⟩ := aV_sound (w := w) h.rep (fun x hx av ha => hgood x hx av (hE x hx av ha)) hav
      simp only [Oper.wp, hrun, Oper.upon]
      exact hK ρ w' _ (h.take ht hds hD hnot hready hv (Le.refl ρ) hc hrep hb (fun _ _ => rfl) (fun d' hd' _ hD' hL' n hn' => by
        have := h.pend d' hd' hD' hL'; rw [hn'] at this; obtain ⟨_, _, _, _, _, _, _, _, q, _⟩ := this; exact q))
  | some n =>
    rw [hn] at hp
    obtain ⟨hw, E, B, mk, hE, hav, hv, hlt, hρ, hσ⟩ := hp
    have hother : ∀ d' ∈ ds, d'.idx ≠ d.idx → inD D d'.idx = true → ¬ lst L d'.idx → ∀ n', nm d'.idx = some n' → n' ≠ n ∧ ρ n' = none := fun d' hd' hne hD' hL' n' hn' => by
      refine ⟨fun e => hne (h.names d' hd' d hds hD' hL' hD hnot n (e ▸ hn') hn), ?_⟩
      have := h.pend d' hd' hD' hL'; rw [hn'] at this; obtain ⟨_, _, _, _, _, _, _, _, q, _⟩ := this; exact q
    have h0 := h.nm0 d hds hD hnot n hn
    refine wpOp_of ht hds (h.wanted hd hnot hready hw) (fun _ => ?_) (fun hb => by cases hb)
    have hN := aN_sound (w := w) (ev := a.eval) h.rep (fun x hx av ha => hgood x hx av (hE x hx av ha)) hav
    cases B with
    | some B =>
      obtain ⟨u, obj, spare, w1, hrun, hrp, hb, hsz, hall⟩ := hN
      simp only [Oper.wp, hrun, Oper.upon]
      have hr1 := hrp σ h.rep
      obtain ⟨hc, hblk⟩ := hall (upd ρ n ⟨w.heap.size, 0, spare⟩) n (le_upd _ hρ) (upd_same _ _ _)
      have hrep := hr1.late hρ hlt obj 0 spare (fun B' hB' => by rw [hσ] at hB'; cases hB'; rw [hsz]; exact hblk)
      rw [hsz] at hrep
      refine hK _ _ _ (h.take ht hds hD hnot hready hv (le_upd _ hρ) hc hrep (hb.alloc hr1.room _) (fun b hb' => upd_ne _ _ (by omega)) (fun d' hd' hne hD' hL' n' hn' => ?_))
      obtain ⟨q1, q2⟩ := hother d' hd' hne hD' hL' n' hn'
      rw [upd_ne _ _ q1]; exact q2
    | none =>
      obtain ⟨u, M, hrun, m1, m2, hall⟩ := hN
      simp only [Oper.wp, hrun, Oper.upon]
      have hrep := h.rep.lateGhost hρ hlt hσ m1 m2
      refine hK _ _ _ (h.take ht hds hD hnot hready hv (le_upd _ hρ) (hall _ _ (le_upd _ hρ) (upd_same _ _ _)) hrep (RowKit.Below.refl _ _) (fun b hb' => upd_ne _ _ (by omega)) (fun d' hd' hne hD' hL' n' hn' => ?_))
      obtain ⟨q1, q2⟩ := hother d' hd' hne hD' hL' n' hn'
      rw [upd_ne _ _ q1]; exact q2

theorem again1_mem {be : Nat} : ∀ {l : List DOp} {d : DOp}, d ∈ l → isLoad P d.o = true → inD be d.idx = false → d ∈ again1 P be l
  | [], d, h, _, _ => by simp at h
  | x :: l, d, h, h1, h2 => by
    simp only [again1]
    rcases List.mem_cons.1 h with rfl | h
    · simp only [h1, h2]; simp
    · have ih := again1_mem h h1 h2
      split
      · split
        · exact ih
        · exact List.mem_cons_of_mem _ ih
      · exact ih

theorem againA_spec [Sy] {tm0 R : Tr AV} {σ : Heap} : ∀ {l : List DOp}, againA P tm0 R σ l = true → ∀ d ∈ l, wantedD R d.o = some false ∨ (wantedD R d.o = some true ∧ ∃ v, aV P (evD tm0 R d.srcs) σ d.o = some v ∧ R.at0 d.idx = some v)
  | [], _, d, hd => by simp at hd
  | x :: l, h, d, hd => by
    simp only [againA] at h
    split at h
    · rename_i hw
      rcases List.mem_cons.1 hd with rfl | hd
      · exact .inl hw
      · exact againA_spec h d hd
    · rename_i hw
      split at h
      · rename_i v hv
        split at h
        · rename_i v' hv'
          split at h
          · rename_i hb
            rcases List.mem_cons.1 hd with rfl | hd
            · have := beqS_eq _ _ hb; subst this
              exact .inr ⟨hw, v, hv, hv'⟩
            · exact againA_spec h d hd
          · simp at h
        · simp at h
      · simp at h
    · simp at h

/-- The one operation that may turn what is there runs on both sides. -/
theorem Side.realAct [Sy] (hF : FOk P N F) (ht : Tab ops ds nt) (h : Side P N ops ds nt tm0 ρ0 σ0 w0 a0 D R done ρ σ w L a nm) {d : DOp} (hds : d ∈ ds) (hnew : inD D d.idx = false) (hE : isE d.o = true)
    (hready : ∀ e ∈ d.o.after.toList, Region.binds .any e = true → lst L e.on) {R' : Tr AV} {σ' : Heap} (hex : execD P F tm0 R σ d = some (R', σ')) (hag : againA P tm0 R' σ' (again1 P d.bef done) = true) {K : Act → World → Prop}
    (hK : ∀ ρ' w' a', Side P N ops ds nt tm0 ρ0 σ0 w0 a0 (addD D d.idx) R' done ρ' σ' w' (L.setIfInBounds d.idx true) a' nm → K a' w') : wpOp P ops Q d.idx K a w := by
  have hd := ht.good hds
  have hnot : ¬ lst L d.idx := fun hl => by rw [h.sub _ hl] at hnew; cases hnew
  have hgood := h.good hd hnot hready
  have hRn : R.at0 d.idx = none := h.undefd _ hnew
  have hlt : d.idx < L.size := by rw [h.lsize]; exact ht.lt hds
  have hL : ∀ i, lst (L.setIfInBounds d.idx true) i ↔ (i = d.idx ∨ lst L i) := fun i => lst_set hlt
  -- the step, whatever it was
  have key : ∀ (v : AV) (u : Value) (ρ' : Ren) (w' : World), R' = R.put0 d.idx (some v) → Ext P N ρ σ w ρ' σ' w' → con ρ' v = some u →
      Side P N ops ds nt tm0 ρ0 σ0 w0 a0 (addD D d.idx) R' done ρ' σ' w' (L.setIfInBounds d.idx true) (a.put d.o.dst u) nm := by
    intro v u ρ' w' hR' hext hc
    have hT : TLe R R' := fun i v' hv => by
      rw [hR', Tr.at0_put0_ne]; exact hv
      intro e; subst e; rw [hRn] at hv; cases hv
    have hv : R'.at0 d.idx = some v := by rw [hR']; exact Tr.at0_put0_same _ _ _
    have hle := hext.le h.rep
    have hsame : ∀ i, lst L i → R'.at0 i = R.at0 i := fun i hi => by
      rw [hR', Tr.at0_put0_ne]; intro e; subst e; exact hnot hi
    obtain ⟨s0, s1⟩ := h.slots ht.back ht.slots hds hd hnot (R' := R') hsame hle hv hc hL
    have hidx : ∀ d' ∈ ds, ¬ lst (L.setIfInBounds d.idx true) d'.idx → inD (addD D d.idx) d'.idx = true → d'.idx ≠ d.idx ∧ inD D d'.idx = true ∧ ¬ lst L d'.idx := fun d' _ hL' hD' => by
      have hne : d'.idx ≠ d.idx := fun e => hL' ((hL _).2 (.inl e))
      rw [inD_add] at hD'
      exact ⟨hne, by simpa [hne] using hD', fun hl => hL' ((hL _).2 (.inr hl))⟩
    constructor
    · intro i hi
      rw [inD_add] at hi
      by_cases e : i = d.idx
      · subst e; exact ⟨v, hv⟩
      · obtain ⟨x, hx⟩ := h.defd i (by simpa [e] using hi)
        exact ⟨x, hT _ _ hx⟩
    · intro i hi
      rw [inD_add] at hi
      simp only [Bool.or_eq_false_iff, decide_eq_false_iff_not] at hi
      rw [hR', Tr.at0_put0_ne _ _ (Ne.symm hi.2)]
      exact h.undefd i hi.1
    · intro j o ho hj e he hb
      rw [inD_add] at hj
      by_cases ej : j = d.idx
      · subst ej
        rw [hd.op] at ho; cases ho
        exact inD_add_old (h.sub _ (hready e he hb))
      · exact inD_add_old (h.downD j o ho (by simpa [ej] using hj) e he hb)
    · intro d' hd' hD' hq
      have hne : d'.idx ≠ d.idx := fun e => by have := ht.inj hd' hds e; subst this; rw [hE] at hq; cases hq
      rw [inD_add] at hD'
      exact h.dones d' hd' (by simpa [hne] using hD') hq
    · exact h.doneds
    · exact hext.rep
    · simpa using h.lsize
    · intro j o ho hj e he hbd
      rcases (hL j).1 hj with r | r
      · subst r
        rw [hd.op] at ho; cases ho
        exact (hL _).2 (.inr (hready e he hbd))
      · exact (hL _).2 (.inr (h.downL j o ho r e he hbd))
    · intro i hi
      rcases (hL i).1 hi with r | r
      · subst r; exact inD_add_same _ _
      · exact inD_add_old (h.sub i r)
    · intro d' hd' hE' hD'
      by_cases e : d'.idx = d.idx
      · exact (hL _).2 (.inl e)
      · rw [inD_add] at hD'
        exact (hL _).2 (.inr (h.eff d' hd' hE' (by simpa [e] using hD')))
    · cases hdd : d.o.dst with
      | none => exact h.tsize
      | some t => simp [Act.put, h.tsize]
    · exact s0
    · exact s1
    · intro i hi
      rcases (hL i).1 hi with r | r
      · subst r; exact ⟨v, u, hv, hc⟩
      · obtain ⟨v', u', q1, q2⟩ := h.vals i r
        exact ⟨v', u', hT _ _ q1, con_mono hle _ _ q2⟩
    · intro d' hd' hD' hL'
      obtain ⟨hne, hD2, hL2⟩ := hidx d' hd' hL' hD'
      have hp := h.pend d' hd' hD2 hL2
      cases hn : nm d'.idx with
      | none =>
        rw [hn] at hp
        rcases hp with ⟨hw, hv'⟩ | ⟨hw, E, v', hEl, hav, hv'⟩
        · exact .inl ⟨wantedD_le hT hw, hT _ _ hv'⟩
        · right
          refine ⟨wantedD_le hT hw, ?_⟩
          cases hld : isLoad P d'.o with
          | false => exact ⟨E, v', hEl.trans hT, aV_nonload hld hav σ', hT _ _ hv'⟩
          | true =>
            have hq : isE d'.o = false := by
              cases hq : isE d'.o with
              | false => rfl
              | true => exact absurd (h.eff d' hd' hq hD2) hL2
            have hnb : inD d.bef d'.idx = false := by
              cases hb : inD d.bef d'.idx with
              | false => rfl
              | true =>
                exfalso
                exact hL2 (bef_in h.downL d.idx d.bef d'.idx hd.bef hb (fun o ho e he hbd => by rw [hd.op] at ho; cases ho; exact hready e he hbd))
            have hmem := again1_mem (P := P) (h.dones d' hd' hD2 hq) hld hnb
            rcases againA_spec hag d' hmem with r | ⟨_, v2, r1, r2⟩
            · rw [wantedD_le hT hw] at r; cases r
            · exact ⟨_, v2, fun _ _ _ hx => hx, r1, r2⟩
      | some n =>
        rw [hn] at hp
        obtain ⟨q1, E, B, mk, q2, q3, q4, q5, q6, q7⟩ := hp
        refine ⟨wantedD_le hT q1, E, B, mk, q2.trans hT, q3, hT _ _ q4, Nat.lt_of_lt_of_le q5 hext.next, by rw [hext.agree n q5]; exact q6, by rw [hext.pend n q5 q6]; exact q7⟩
    · intro d1 hd1 d2 hd2 hD1 hL1 hD2 hL2 n hn1 hn2
      obtain ⟨_, p1, p2⟩ := hidx d1 hd1 hL1 hD1
      obtain ⟨_, r1, r2⟩ := hidx d2 hd2 hL2 hD2
      exact h.names d1 hd1 d2 hd2 p1 p2 r1 r2 n hn1 hn2
    · exact put_defers.trans h.defers
    · intro b hb; rw [hext.agree b (Nat.lt_of_lt_of_le hb h.next)]; exact h.agree b hb
    · exact Nat.le_trans h.next hext.next
    · intro b hb hn
      rw [hext.pend b (Nat.lt_of_lt_of_le hb h.next) (by rw [h.agree b hb]; exact hn)]
      exact h.pend0 b hb hn
    · exact h.below.trans hext.below
    · intro d' hd' hD' hL' n hn
      obtain ⟨_, p1, p2⟩ := hidx d' hd' hL' hD'
      exact h.nm0 d' hd' p1 p2 n hn
  unfold execD at hex
  split at hex
  · simp at hex
  · rename_i hw
    simp only [Option.some.injEq, Prod.mk.injEq] at hex
    obtain ⟨rfl, rfl⟩ := hex
    refine wpOp_of ht hds (h.wanted hd hnot hready hw) (fun hb => by cases hb) (fun _ => ?_)
    exact hK ρ w _ (key _ undef ρ w rfl (Ext.refl h.rep) con_unit)
  · rename_i hw
    split at hex
    · rename_i v σ1 hany
      simp only [Option.some.injEq, Prod.mk.injEq] at hex
      obtain ⟨rfl, rfl⟩ := hex
      refine wpOp_of ht hds (h.wanted hd hnot hready hw) (fun _ => ?_) (fun hb => by cases hb)
      exact anyA_sound hF h.rep hgood hany _ _ fun ρ' u w' hext hc => hK ρ' w' _ (key v u ρ' w' rfl hext hc)
    · simp at hex

end
end Go.Ev
