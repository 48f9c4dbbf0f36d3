import Derived.Test.YtinhlmelicmheaaGreatEv15
namespace Go.Ev
open Go

section
variable {P : Program} {N : Nat} {ρ : Ren} {σ : Heap} {w : World} {E : Operand → Option AV} {o : Oper}

theorem liftV_some {x : Option AV} {v : AV} {σ' : Heap} (h : liftV σ x = some (v, σ')) : x = some v ∧ σ' = σ := by
  unfold liftV at h; split at h
  · simp only [Option.some.injEq, Prod.mk.injEq] at h; obtain ⟨rfl, rfl⟩ := h; exact ⟨rfl, rfl⟩
  · simp at h

theorem liftN_some {x : Option (Option ABlk × (Nat → AV))} {v : AV} {σ' : Heap} (h : liftN σ x = some (v, σ')) : ∃ B mk, x = some (B, mk) ∧ v = mk σ.next ∧ σ' = σ.push B := by
  unfold liftN at h; split at h
  · rename_i B mk; simp only [Option.some.injEq, Prod.mk.injEq] at h; obtain ⟨rfl, rfl⟩ := h; exact ⟨B, mk, rfl, rfl, rfl⟩
  · simp at h

/-- The three makes of operations. -/
def AnyCase (P : Program) (F : CallF) (E : Operand → Option AV) (σ : Heap) (o : Oper) (v : AV) (σ' : Heap) : Prop :=
  (isE o = false ∧ aV P E σ o = some v ∧ σ' = σ) ∨ (isE o = false ∧ ∃ B mk, aN P E o = some (B, mk) ∧ v = mk σ.next ∧ σ' = σ.push B) ∨ (isE o = true ∧ aE P F E σ o = some (v, σ'))

theorem anyA_cases [Sy] {F : CallF} {v : AV} {σ' : Heap} (h : anyA P F E σ o = some (v, σ')) : AnyCase P F E σ o v σ' := by
  unfold anyA at h
  split at h
  case h_24 c ho =>
    unfold callOp at h
    split at h
    · rename_i he
      exact .inr (.inr ⟨he, by simp only [aE, ho]; exact h⟩)
    · rename_i he
      obtain ⟨h1, h2⟩ := liftV_some h
      exact .inl ⟨he, by simp only [aV, ho]; exact h1, h2⟩
  case h_23 t x y ho => exact .inr (.inr ⟨by simp only [isE, ho], by simp only [aE, ho]; exact h⟩)
  case h_25 t m k x ho => exact .inr (.inr ⟨by simp only [isE, ho], by simp only [aE, ho]; exact h⟩)
  case h_27 => simp at h
  case h_8 a b c ho =>
    unfold liftVN at h
    split at h
    · rename_i u hu
      simp only [Option.some.injEq, Prod.mk.injEq] at h
      obtain ⟨rfl, rfl⟩ := h
      exact .inl ⟨by simp only [isE, ho], by simp only [aV, ho]; exact hu, rfl⟩
    · obtain ⟨B, mk, h1, h2, h3⟩ := liftN_some h
      exact .inr (.inl ⟨by simp only [isE, ho], B, mk, by simp only [aN, ho]; exact h1, h2, h3⟩)
  case h_15 a b c d e ho =>
    unfold liftVN at h
    split at h
    · rename_i u hu
      simp only [Option.some.injEq, Prod.mk.injEq] at h
      obtain ⟨rfl, rfl⟩ := h
      exact .inl ⟨by simp only [isE, ho], by simp only [aV, ho]; exact hu, rfl⟩
    · obtain ⟨B, mk, h1, h2, h3⟩ := liftN_some h
      exact .inr (.inl ⟨by simp only [isE, ho], B, mk, by simp only [aN, ho]; exact h1, h2, h3⟩)
  case h_18 a ho =>
      obtain ⟨B, mk, h1, h2, h3⟩ := liftN_some h
      exact .inr (.inl ⟨by simp only [isE, ho], B, mk, by simp only [aN, ho]; exact h1, h2, h3⟩)
  case h_19 a b ho =>
      obtain ⟨B, mk, h1, h2, h3⟩ := liftN_some h
      exact .inr (.inl ⟨by simp only [isE, ho], B, mk, by simp only [aN, ho]; exact h1, h2, h3⟩)
  case h_20 a b c ho =>
      obtain ⟨B, mk, h1, h2, h3⟩ := liftN_some h
      exact .inr (.inl ⟨by simp only [isE, ho], B, mk, by simp only [aN, ho]; exact h1, h2, h3⟩)
  case h_21 a b ho =>
      obtain ⟨B, mk, h1, h2, h3⟩ := liftN_some h
      exact .inr (.inl ⟨by simp only [isE, ho], B, mk, by simp only [aN, ho]; exact h1, h2, h3⟩)
  case h_22 a b c ho =>
      obtain ⟨B, mk, h1, h2, h3⟩ := liftN_some h
      exact .inr (.inl ⟨by simp only [isE, ho], B, mk, by simp only [aN, ho]; exact h1, h2, h3⟩)
  all_goals
    obtain ⟨h1, h2⟩ := liftV_some h
    exact .inl ⟨by simp only [isE, *], by simp only [aV, *], h2⟩

theorem aE_sound [Sy] {F : CallF} {a : Act} (hF : FOk P N F) (hr : Rep P N ρ σ w) (hg : Good ρ E a.eval o.op.operands.toList) {r : AV} {σ' : Heap} (h : aE P F E σ o = some (r, σ')) : EOk P N ρ σ w o a r σ' := by
  unfold aE at h
  split at h
  · exact e_store_sound hr hg ‹_› h
  · exact e_call_sound hF hr hg ‹_› h
  · exact e_mapUpdate_sound hr hg ‹_› h
  · simp at h

theorem Ext.same [Sy] {w' : World} (hb : RowKit.Below N w w') (hr : Rep P N ρ σ w') : Ext P N ρ σ w ρ σ w' := ⟨fun _ _ => rfl, Nat.le_refl _, fun _ _ _ => rfl, hr, hb⟩

theorem VOk.wp [Sy] {a : Act} {r : AV} (h : VOk P N ρ σ w (execOp a.eval o) r) : EOk P N ρ σ w o a r σ := by
  obtain ⟨v, w', hc, hrun, hrep, hb⟩ := h
  intro K Q hK
  simp only [Oper.wp, hrun, Oper.upon]
  exact hK ρ v w' (Ext.same hb hrep) hc

theorem NOk.wp [Sy] {a : Act} (hr : Rep P N ρ σ w) {B : Option ABlk} {mk : Nat → AV} (h : NOk P N ρ w (execOp a.eval o) mk B) : EOk P N ρ σ w o a (mk σ.next) (σ.push B) := by
  have hn := hr.fresh _ (Nat.le_refl σ.next)
  cases B with
  | some B =>
    obtain ⟨v, obj, spare, w1, hrun, hrep, hb, hsz, hall⟩ := h
    intro K Q hK
    simp only [Oper.wp, hrun, Oper.upon]
    have hr1 := hrep σ hr
    obtain ⟨hcon, hblk⟩ := hall (upd ρ σ.next ⟨w.heap.size, 0, spare⟩) σ.next (le_upd _ hn) (upd_same _ _ _)
    have hext := Rep.newBlock (P := P) (N := N) (ρ := ρ) (σ := σ) (w := w1) (B := B) (ob := obj) (spare := spare) hr1 (by rw [hsz]; exact hblk)
    rw [hsz] at hext
    exact hK _ v _ ((Ext.same hb hr1).trans hext) hcon
  | none =>
    obtain ⟨v, L, hrun, h1, h2, hall⟩ := h
    intro K Q hK
    simp only [Oper.wp, hrun, Oper.upon]
    exact hK _ v _ (hr.ghost h1 h2) (hall _ _ (le_upd _ hn) (upd_same _ _ _))

theorem anyA_sound [Sy] {F : CallF} {a : Act} (hF : FOk P N F) (hr : Rep P N ρ σ w) (hg : Good ρ E a.eval o.op.operands.toList) {r : AV} {σ' : Heap} (h : anyA P F E σ o = some (r, σ')) : EOk P N ρ σ w o a r σ' := by
  rcases anyA_cases h with ⟨_, h1, rfl⟩ | ⟨_, B, mk, h1, rfl, rfl⟩ | ⟨_, h1⟩
  · exact (aV_sound hr hg h1).wp
  · exact (aN_sound hr hg h1).wp hr
  · exact aE_sound hF hr hg h1

/-! The slots. -/

structure TmRel [Sy] (ρ : Ren) (nt : Nat) (tm : Tr AV) (a : Act) : Prop where
  size : a.tmps.size = nt
  val : ∀ t x, evo tm (.tmp t) = some x → con ρ x = some (a.tmps.getD t undef)

theorem TmRel.mono [Sy] {ρ ρ' : Ren} {nt : Nat} {tm : Tr AV} {a : Act} (h : TmRel ρ nt tm a) (hle : Le ρ ρ') : TmRel ρ' nt tm a :=
  ⟨h.size, fun t x hx => con_mono hle _ _ (h.val t x hx)⟩

theorem TmRel.eval [Sy] {nt : Nat} {tm : Tr AV} {a : Act} (h : TmRel ρ nt tm a) (x : Operand) (v : AV) (hv : evo tm x = some v) : con ρ v = some (a.eval x) := by
  cases x with
  | tmp t => exact h.val t v hv
  | const u => exact con_ofValue (v := u) (by simpa [evo] using hv)
  | global g => simp [evo] at hv
  | func f =>
    simp only [evo, Option.some.injEq] at hv; subst hv
    simp only [con, conL, Option.bind_some, Option.map_some]; rfl

theorem evo_put {tm : Tr AV} {d t : Tmp} {v : AV} : evo (tm.put0 d (some v)) (.tmp t) = if d = t then some v else evo tm (.tmp t) := by
  simp only [evo, Tr.at0_put0]
  by_cases h : d = t
  · subst h; simp only [if_true]
  · simp only [if_neg h]

theorem putA_rel [Sy] {nt : Nat} {tm tm' : Tr AV} {a : Act} {dst : Option Tmp} {v : AV} {u : Value} (h : putA nt tm dst v = some tm') (hr : TmRel ρ nt tm a) (hc : con ρ v = some u) : TmRel ρ nt tm' (a.put dst u) := by
  unfold putA at h
  split at h
  · simp only [Option.some.injEq] at h; subst h; exact hr
  · rename_i d
    split at h
    · rename_i hd
      have hd' : d < nt := ble_t hd
      simp only [Option.some.injEq] at h; subst h
      refine ⟨by simp [Act.put, hr.size], fun t x hx => ?_⟩
      rw [evo_put] at hx
      by_cases e : d = t
      · subst e
        rw [if_pos rfl] at hx
        have hvx : v = x := by simpa using hx
        subst hvx
        rw [hc]
        simp [Act.put, hr.size, hd']
      · rw [if_neg e] at hx
        rw [hr.val t x hx]
        simp [Act.put, Array.getElem?_setIfInBounds_ne e]
    · simp at h

theorem yielded_eq {ops : Array Oper} {tmps : Array Value} {j : Nat} {oj : Oper} {d : Tmp} (hj : ops[j]? = some oj) (hd : oj.dst = some d) :
    yielded ops tmps j = match tmps.getD d undef with | .bool b => some b | _ => none := by
  unfold yielded
  simp only [hj, Option.bind_some, hd]
  cases h : tmps[d]? with
  | none => simp [h, undef]
  | some v =>
    simp only [Array.getD_eq_getD_getElem?, h, Option.getD_some]
    cases v <;> rfl

theorem isTrueB_eq (a b : Bool) : isTrueB a b = (a == b) := by cases a <;> cases b <;> rfl

theorem wanted_bool {o : Oper} {g : Nat} {want : Bool} {y : Nat → Option Bool} (hg : o.guard = some (g, want)) : Region.wanted o y = (y g == some want) := by simp [Region.wanted, hg]

theorem wantedA_spec [Sy] {ops : Array Oper} {nt : Nat} {tm : Tr AV} {a : Act} {b : Bool} (h : wantedA ops.toList tm o = some b) (hr : TmRel ρ nt tm a) : Region.wanted o (yielded ops a.tmps) = b := by
  unfold wantedA at h
  split at h
  · rename_i hg
    simp only [Option.some.injEq] at h; subst h
    simp [Region.wanted, hg]
  · rename_i j want hg
    rw [wanted_bool hg]
    split at h
    · rename_i oj hoj
      rw [nth_eq] at hoj
      have hoj' : ops[j]? = some oj := by simpa using hoj
      split at h
      · rename_i d hd
        rw [yielded_eq hoj' hd]
        split at h
        · rename_i bb hbb
          simp only [Option.some.injEq] at h; subst h
          have := con_bool (hr.val d (.bool bb) (by simp only [evo, hbb]))
          rw [this, isTrueB_eq]
          cases bb <;> cases want <;> rfl
        · rename_i hbb
          simp only [Option.some.injEq] at h; subst h
          have := hr.val d (.tup []) (by simp only [evo, hbb])
          rw [con_unit] at this
          rw [← Option.some.inj this]; rfl
        · rename_i hbb
          simp only [Option.some.injEq] at h; subst h
          have := hr.val d (.tup []) (by simp only [evo, hbb])
          rw [con_unit] at this
          rw [← Option.some.inj this]; rfl
        · simp at h
      · simp at h
    · simp at h

theorem put_defers {a : Act} {d : Option Tmp} {v : Value} : (a.put d v).defers = a.defers := by cases d <;> rfl

theorem seqA_wp [Sy] {F : CallF} (hF : FOk P N F) {ops : Array Oper} {nt : Nat} {Q : Exit → Act → World → Prop} : ∀ (rest : List Oper) (tm : Tr AV) (σ : Heap) (ρ : Ren) (a : Act) (w : World) (tm' : Tr AV) (σ' : Heap),
    seqA P F nt ops.toList rest tm σ = some (tm', σ') → Rep P N ρ σ w → TmRel ρ nt tm a →
    (∀ ρ' a' w', Ext P N ρ σ w ρ' σ' w' → TmRel ρ' nt tm' a' → a'.defers = a.defers → Q .normal a' w') → wpList P ops Q rest a w
  | [], tm, σ, ρ, a, w, tm', σ', h, hr, ht, hQ => by
    simp only [seqA, Option.some.injEq, Prod.mk.injEq] at h
    obtain ⟨rfl, rfl⟩ := h
    exact hQ ρ a w (Ext.refl hr) ht rfl
  | o :: rest, tm, σ, ρ, a, w, tm', σ', h, hr, ht, hQ => by
    simp only [seqA] at h
    split at h
    · rename_i tm1 σ1 hex
      unfold execA at hex
      unfold wpList
      split at hex
      · simp at hex
      · rename_i hw
        rw [if_neg (by rw [wantedA_spec hw ht]; simp)]
        split at hex
        · rename_i tm2 hput
          simp only [Option.some.injEq, Prod.mk.injEq] at hex
          obtain ⟨rfl, rfl⟩ := hex
          exact seqA_wp hF rest _ _ ρ (a.put o.dst undef) w tm' σ' h hr (putA_rel hput ht con_unit) (fun ρ' a' w' he ht' hd => hQ ρ' a' w' he ht' (hd.trans put_defers))
        · simp at hex
      · rename_i hw
        rw [if_pos (wantedA_spec hw ht)]
        split at hex
        · rename_i v σ2 hany
          split at hex
          · rename_i tm2 hput
            simp only [Option.some.injEq, Prod.mk.injEq] at hex
            obtain ⟨rfl, rfl⟩ := hex
            refine .inl (anyA_sound hF hr (fun x _ av hav => ht.eval x av hav) hany _ _ fun ρ' u w' he hc => ?_)
            exact seqA_wp hF rest _ _ ρ' (a.put o.dst u) w' tm' σ' h he.rep (putA_rel hput (ht.mono (he.le hr)) hc) (fun ρ'' a' w'' he' ht' hd => hQ ρ'' a' w'' (he.trans he') ht' (hd.trans put_defers))
          · simp at hex
        · simp at hex
    · simp at h

end
end Go.Ev
