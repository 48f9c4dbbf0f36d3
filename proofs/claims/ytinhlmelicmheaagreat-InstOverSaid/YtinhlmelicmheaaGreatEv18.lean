import Derived.Test.YtinhlmelicmheaaGreatEv17
namespace Go.Ev
open Go

section
variable {P : Program} {N : Nat} {ρ : Ren} {σ σ' : Heap} {w : World} {E : Operand → Option AV} {o : Oper}

def HeapLe (σ σ' : Heap) : Prop := ∀ b B, σ.get b = some B → σ'.get b = some B

theorem HeapLe.push [Sy] (h : ∀ b, σ.next ≤ b → σ.get b = none) (B : Option ABlk) : HeapLe σ (σ.push B) := fun b C hb => by
  rw [Heap.get_push, if_neg]; exact hb
  intro e; rw [h b (by omega)] at hb; cases hb

theorem loadA_le (hle : HeapLe σ σ') {t : TypeId} {b off : Nat} {r : AV} (h : loadA P σ t b off = some r) : loadA P σ' t b off = some r := by
  unfold loadA at h ⊢
  split at h
  · rename_i n tr dz e sp hb
    rw [hle _ _ hb]; exact h
  · simp at h

theorem loadS_le (hle : HeapLe σ σ') {t : TypeId} {b off s : Nat} {e : SE} {r : AV} (h : loadS P σ t b off s e = some r) : loadS P σ' t b off s e = some r := by
  unfold loadS at h ⊢
  split at h
  · split at h
    · rename_i n tr dz e sp hb
      rw [hle _ _ hb]; exact h
    · rename_i n tr dz e sp ws hb
      rw [hle _ _ hb]; exact h
    · simp at h
  · simp at h

theorem v_lookup_le (hle : HeapLe σ σ') {t : TypeId} {x k : Operand} {ok : Bool} {r : AV} (h : v_lookup P E σ t x k ok = some r) : v_lookup P E σ' t x k ok = some r := by
  unfold v_lookup at h ⊢
  split at h
  · rename_i m hm
    split at h
    · rename_i es hes
      have : mapEs σ' m = some es := by
        unfold mapEs at hes ⊢
        split at hes
        · exact hes
        · split at hes
          · rename_i es0 c hb
            rw [hle _ _ hb]; exact hes
          · cases hes
        · cases hes
      simp only [this]
      exact h
    · simp at h
  · simp at h

theorem rangeA_le (hle : HeapLe σ σ') {b off n : Nat} {r : List AV} (h : rangeA σ b off n = some r) : rangeA σ' b off n = some r := by
  unfold rangeA at h ⊢
  split at h
  · rename_i m tr dz e sp hb
    rw [hle _ _ hb]; exact h
  · simp at h

theorem v_convert_le [Sy] (hle : HeapLe σ σ') {a b : TypeId} {x : Operand} {r : AV} (h : v_convert P E σ o a b x = some r) : v_convert P E σ' o a b x = some r := by
  unfold v_convert at h ⊢
  split at h
  · exact h
  · exact h
  · exact h
  · rename_i bb off len cap sp ha
    split at h
    · rename_i e hs
      split at h
      · rename_i e' hd
        split at h
        · rename_i hsd
          split at h
          · rename_i hu
            split at h
            · rename_i n t dz e2 sp2 hb
              simp only [hs, hd, hsd, hu, hle _ _ hb]; exact h
            · simp at h
          · simp at h
        · simp at h
      · rename_i hd
        split at h
        · rename_i hu
          split at h
          · rename_i cs hcs
            simp only [hs, hu, rangeA_le hle hcs]; exact h
          · simp at h
        · simp at h
      · simp at h
    · simp at h
  · exact h
  · simp at h

theorem aV_le [Sy] (hle : HeapLe σ σ') {r : AV} (h : aV P E σ o = some r) : aV P E σ' o = some r := by
  unfold aV at h ⊢
  split at h
  case h_4 a b ho =>
    unfold v_load at h ⊢
    split at h
    · exact loadA_le hle h
    · exact loadS_le hle h
    · simp at h
  case h_8 => exact v_convert_le hle h
  case h_19 => exact v_lookup_le hle h
  all_goals exact h

theorem aV_nonload (hl : isLoad P o = false) {r : AV} (h : aV P E σ o = some r) (σ' : Heap) : aV P E σ' o = some r := by
  unfold aV at h ⊢
  unfold isLoad at hl
  split at h
  case h_4 a b ho => rw [ho] at hl; simp at hl
  case h_19 a b c d ho => rw [ho] at hl; simp at hl
  case h_8 a b c ho =>
    rw [ho] at hl
    simp only at hl
    unfold v_convert at h ⊢
    split at h
    · exact h
    · exact h
    · exact h
    · split at h
      · rename_i e hs
        unfold isSliceT at hl
        rw [hs] at hl; simp at hl
      · simp at h
    · exact h
    · simp at h
  all_goals exact h

theorem aN_nonload {B : Option ABlk} {mk : Nat → AV} (h : aN P E o = some (B, mk)) : isLoad P o = false := by
  unfold aN at h
  split at h
  case h_7 a b c ho =>
    unfold isLoad
    rw [ho]
    unfold n_convert at h
    split at h
    · split at h
      · rename_i hs
        simp only
        unfold isSliceT
        rw [hs]
      · simp at h
    · simp at h
  case h_8 => simp at h
  all_goals (unfold isLoad; simp only [*])

theorem aN_notE {B : Option ABlk} {mk : Nat → AV} (h : aN P E o = some (B, mk)) : isE o = false := by
  unfold aN at h
  split at h
  case h_8 => simp at h
  all_goals (unfold isE; simp only [*])

/-! An operation that has run for the evaluator and waits in the world. -/

def TLe (R R' : Tr AV) : Prop := ∀ i v, R.at0 i = some v → R'.at0 i = some v

def ELe (E E' : Operand → Option AV) (l : List Operand) : Prop := ∀ x ∈ l, ∀ av, E x = some av → E' x = some av

theorem evD_le {tm0 R R' : Tr AV} (h : TLe R R') (srcs : List (Tmp × Nat)) (x : Operand) (av : AV) (hx : evD tm0 R srcs x = some av) : evD tm0 R' srcs x = some av := by
  unfold evD at hx ⊢
  split at hx
  · rename_i t
    split at hx
    · exact h _ _ hx
    · exact hx
  · rename_i hx'
    cases x with
    | tmp t => exact absurd rfl (hx' t)
    | const v => exact hx
    | global g => exact hx
    | func f => exact hx

theorem wantedD_le {R R' : Tr AV} (h : TLe R R') {b : Bool} (hw : wantedD R o = some b) : wantedD R' o = some b := by
  unfold wantedD at hw ⊢
  split at hw
  · exact hw
  · rename_i j want hg
    split at hw
    · rename_i bb hbb; rw [h _ _ hbb]; exact hw
    · rename_i hbb; rw [h _ _ hbb]; exact hw
    · simp at hw

def PendW (P : Program) (ρ : Ren) (σ : Heap) (tm0 R : Tr AV) (d : DOp) : Option Nat → Prop
  | none => (wantedD R d.o = some false ∧ R.at0 d.idx = some (.tup [])) ∨
      (wantedD R d.o = some true ∧ ∃ E v, ELe E (evD tm0 R d.srcs) d.o.op.operands.toList ∧ aV P E σ d.o = some v ∧ R.at0 d.idx = some v)
  | some n => wantedD R d.o = some true ∧ ∃ E B mk, ELe E (evD tm0 R d.srcs) d.o.op.operands.toList ∧ aN P E d.o = some (B, mk) ∧ R.at0 d.idx = some (mk n) ∧ n < σ.next ∧ ρ n = none ∧ σ.get n = B

theorem ELe.trans [Sy] {tm0 R R' : Tr AV} {srcs : List (Tmp × Nat)} {l : List Operand} (h : ELe E (evD tm0 R srcs) l) (hR : TLe R R') : ELe E (evD tm0 R' srcs) l :=
  fun x hx av ha => evD_le hR srcs x av (h x hx av ha)

/-- More has run for the evaluator: what waits waits still. -/
theorem PendW.grow [Sy] {tm0 R R' : Tr AV} {d : DOp} {n : Option Nat} (h : PendW P ρ σ tm0 R d n) (hR : TLe R R') (hle : HeapLe σ σ') (hn : σ.next ≤ σ'.next) (hk : ∀ b, b < σ.next → σ'.get b = σ.get b) :
    PendW P ρ σ' tm0 R' d n := by
  cases n with
  | none =>
    rcases h with ⟨h1, h2⟩ | ⟨h1, E, v, h2, h3, h4⟩
    · exact .inl ⟨wantedD_le hR h1, hR _ _ h2⟩
    · exact .inr ⟨wantedD_le hR h1, E, v, h2.trans hR, aV_le hle h3, hR _ _ h4⟩
  | some n =>
    obtain ⟨h1, E, B, mk, h2, h3, h4, h5, h6, h7⟩ := h
    exact ⟨wantedD_le hR h1, E, B, mk, h2.trans hR, h3, hR _ _ h4, by omega, h6, by rw [hk n h5]; exact h7⟩

end

/-! The two machines side by side. -/

def lst (L : Array Bool) (i : Nat) : Prop := L.getD i false = true

structure Side [Sy] (P : Program) (N : Nat) (ops : Array Oper) (ds : List DOp) (nt : Nat) (tm0 : Tr AV) (ρ0 : Ren) (σ0 : Heap) (w0 : World) (a0 : Act)
    (D : Nat) (R : Tr AV) (done : List DOp) (ρ : Ren) (σ : Heap) (w : World) (L : Array Bool) (a : Act) (nm : Nat → Option Nat) : Prop where
  -- the evaluator's side
  defd : ∀ i, inD D i = true → ∃ v, R.at0 i = some v
  undefd : ∀ i, inD D i = false → R.at0 i = none
  downD : Down ops.toList (fun i => inD D i = true)
  dones : ∀ d ∈ ds, inD D d.idx = true → isE d.o = false → d ∈ done
  doneds : ∀ d ∈ done, d ∈ ds
  -- the world's side
  rep : Rep P N ρ σ w
  lsize : L.size = ops.size
  downL : Down ops.toList (lst L)
  sub : ∀ i, lst L i → inD D i = true
  eff : ∀ d ∈ ds, isE d.o = true → inD D d.idx = true → lst L d.idx
  tsize : a.tmps.size = nt
  slot0 : ∀ t, (∀ i, lst L i → ¬ Writes ops.toList i t) → ∀ x, evo tm0 (.tmp t) = some x → con ρ x = some (a.tmps.getD t undef)
  slot1 : ∀ t i, lst L i → Writes ops.toList i t → (∀ k, lst L k → Writes ops.toList k t → k ≤ i) → ∃ v, R.at0 i = some v ∧ con ρ v = some (a.tmps.getD t undef)
  vals : ∀ i, lst L i → ∃ v u, R.at0 i = some v ∧ con ρ v = some u
  pend : ∀ d ∈ ds, inD D d.idx = true → ¬ lst L d.idx → PendW P ρ σ tm0 R d (nm d.idx)
  names : ∀ d ∈ ds, ∀ d' ∈ ds, inD D d.idx = true → ¬ lst L d.idx → inD D d'.idx = true → ¬ lst L d'.idx → ∀ n, nm d.idx = some n → nm d'.idx = some n → d.idx = d'.idx
  defers : a.defers = a0.defers
  -- against the start
  agree : ∀ b, b < σ0.next → ρ b = ρ0 b
  next : σ0.next ≤ σ.next
  pend0 : ∀ b, b < σ0.next → ρ0 b = none → σ.get b = σ0.get b
  below : RowKit.Below N w0 w
  nm0 : ∀ d ∈ ds, inD D d.idx = true → ¬ lst L d.idx → ∀ n, nm d.idx = some n → σ0.next ≤ n

section
variable {P : Program} {N : Nat} {ops : Array Oper} {ds : List DOp} {nt : Nat} {tm0 : Tr AV} {ρ0 : Ren} {σ0 : Heap} {w0 : World} {a0 : Act}
  {D : Nat} {R : Tr AV} {done : List DOp} {ρ : Ren} {σ : Heap} {w : World} {L : Array Bool} {a : Act} {nm : Nat → Option Nat}

theorem lst_set {L : Array Bool} {j i : Nat} (hj : j < L.size) : lst (L.setIfInBounds j true) i ↔ (i = j ∨ lst L i) := by
  unfold lst
  by_cases h : i = j
  · subst h; simp [hj]
  · rw [getD_set_ne false (Ne.symm h)]; simp [h]

/-- What an operand reads at an operation that may run. -/
theorem Side.reads [Sy] (h : Side P N ops ds nt tm0 ρ0 σ0 w0 a0 D R done ρ σ w L a nm) {d : DOp} (hd : DGood ops.toList d)
    (hnot : ¬ lst L d.idx) (hready : ∀ e ∈ d.o.after.toList, Region.binds .any e = true → lst L e.on) {t : Tmp} {res : Option Nat}
    (hsrc : srcOf (befores ops.toList []) d.idx d.bef t ops.toList 0 none = some res) :
    (res = none → ∀ x, evo tm0 (.tmp t) = some x → con ρ x = some (a.tmps.getD t undef)) ∧
    (∀ i, res = some i → lst L i ∧ ∃ v, R.at0 i = some v ∧ con ρ v = some (a.tmps.getD t undef)) := by
  obtain ⟨p, q⟩ := srcOf_spec (ops := ops.toList) ops.toList 0 none res (fun k => by simp) hsrc
  have hbef : ∀ i, inD d.bef i = true → lst L i := fun i hi =>
    bef_in h.downL d.idx d.bef i hd.bef hi (fun o ho e he hb => by rw [hd.op] at ho; cases ho; exact hready e he hb)
  -- the writers that have run are those that surely ran ahead
  have hw : ∀ k, lst L k → Writes ops.toList k t → k ≠ d.idx ∧ inD d.bef k = true := fun k hk hwk => by
    have hne : k ≠ d.idx := fun e => hnot (e ▸ hk)
    refine ⟨hne, ?_⟩
    rcases p k (Nat.zero_le _) hwk hne with r | ⟨bk, hbk, r⟩
    · exact r
    · exact absurd (bef_in_of h.downL hbk r hk) hnot
  constructor
  · intro hres x hx
    refine h.slot0 t (fun i hi hwi => ?_) x hx
    obtain ⟨h1, h2⟩ := hw i hi hwi
    rcases q with ⟨_, q⟩ | ⟨k, _, q, _⟩
    · exact q i (Nat.zero_le _) hwi h1 h2
    · rw [hres] at q; cases q
  · intro i hres
    rcases q with ⟨q, _⟩ | ⟨k, _, q1, q2, q3, q4, q5⟩
    · rw [hres] at q; cases q
    · rw [hres] at q1; cases q1
      refine ⟨hbef i q4, h.slot1 t i (hbef i q4) q2 (fun k hk hwk => ?_)⟩
      obtain ⟨h1, h2⟩ := hw k hk hwk
      rcases Nat.lt_or_ge i k with hlt | hge
      · exact absurd h2 (q5 k hlt hwk h1)
      · exact hge

theorem mem_tmpsOf {l : List Operand} {t : Tmp} (h : Operand.tmp t ∈ l) : t ∈ tmpsOf l := by
  induction l with
  | nil => simp at h
  | cons x l ih =>
    rcases List.mem_cons.1 h with rfl | h'
    · simp [tmpsOf]
    · have := ih h'
      cases x <;> simp [tmpsOf, this]

theorem Side.good [Sy] (h : Side P N ops ds nt tm0 ρ0 σ0 w0 a0 D R done ρ σ w L a nm) {d : DOp} (hd : DGood ops.toList d)
    (hnot : ¬ lst L d.idx) (hready : ∀ e ∈ d.o.after.toList, Region.binds .any e = true → lst L e.on) : Good ρ (evD tm0 R d.srcs) a.eval d.o.op.operands.toList := by
  intro x hx av hav
  cases x with
  | tmp t =>
    have hs := srcsOf_spec _ _ hd.srcs t (mem_tmpsOf hx)
    obtain ⟨r1, r2⟩ := h.reads hd hnot hready hs
    simp only [evD] at hav
    split at hav
    · rename_i i hi
      obtain ⟨_, v, hv, hc⟩ := r2 i hi
      rw [hv] at hav; cases hav
      exact hc
    · rename_i hi
      exact r1 hi av hav
  | const u => exact con_ofValue (v := u) (by simpa [evD, evo] using hav)
  | global g => simp [evD, evo] at hav
  | func f =>
    simp only [evD, evo, Option.some.injEq] at hav; subst hav
    simp only [con, conL, Option.bind_some, Option.map_some]; rfl

theorem Side.wanted [Sy] (h : Side P N ops ds nt tm0 ρ0 σ0 w0 a0 D R done ρ σ w L a nm) {d : DOp} (hd : DGood ops.toList d)
    (hnot : ¬ lst L d.idx) (hready : ∀ e ∈ d.o.after.toList, Region.binds .any e = true → lst L e.on) {b : Bool} (hw : wantedD R d.o = some b) : Region.wanted d.o (yielded ops a.tmps) = b := by
  unfold wantedD at hw
  split at hw
  · rename_i hg
    simp only [Option.some.injEq] at hw; subst hw
    simp [Region.wanted, hg]
  · rename_i g want hg
    rw [wanted_bool hg]
    have hgo := hd.guard
    unfold guardOk at hgo
    rw [hg] at hgo
    simp only at hgo
    split at hgo
    · rename_i og hog
      rw [nth_eq] at hog
      have hog' : ops[g]? = some og := by simpa using hog
      split at hgo
      · rename_i t ht
        split at hgo
        · rename_i i hsrc
          have hi : i = g := Nat.eq_of_beq_eq_true hgo
          subst hi
          obtain ⟨_, v, hv, hc⟩ := (h.reads hd hnot hready hsrc).2 i rfl
          rw [yielded_eq hog' ht]
          split at hw
          · rename_i bb hbb
            simp only [Option.some.injEq] at hw; subst hw
            rw [hv] at hbb; cases hbb
            rw [con_bool hc, isTrueB_eq]
            cases bb <;> cases want <;> rfl
          · rename_i hbb
            simp only [Option.some.injEq] at hw; subst hw
            rw [hv] at hbb; cases hbb
            rw [con_unit] at hc
            rw [← Option.some.inj hc]; rfl
          · simp at hw
        · simp at hgo
      · simp at hgo
    · simp at hgo

/-- The slots behind one operation more. -/
theorem Side.slots [Sy] (h : Side P N ops ds nt tm0 ρ0 σ0 w0 a0 D R done ρ σ w L a nm) (hback : ∀ j o, ops.toList[j]? = some o → edgesBack j o = true) (hnt : ∀ d ∈ ds, ∀ t, d.o.dst = some t → t < nt)
    {d : DOp} (hds : d ∈ ds) (hd : DGood ops.toList d) (hnot : ¬ lst L d.idx) {R' : Tr AV} (hR : ∀ i, lst L i → R'.at0 i = R.at0 i) {ρ' : Ren} (hle : Le ρ ρ') {v : AV} {u : Value} (hv : R'.at0 d.idx = some v) (hc : con ρ' v = some u)
    {L' : Array Bool} (hL : ∀ i, lst L' i ↔ (i = d.idx ∨ lst L i)) :
    (∀ t, (∀ i, lst L' i → ¬ Writes ops.toList i t) → ∀ x, evo tm0 (.tmp t) = some x → con ρ' x = some ((a.put d.o.dst u).tmps.getD t undef)) ∧
    (∀ t i, lst L' i → Writes ops.toList i t → (∀ k, lst L' k → Writes ops.toList k t → k ≤ i) → ∃ v, R'.at0 i = some v ∧ con ρ' v = some ((a.put d.o.dst u).tmps.getD t undef)) := by
  have hself : ∀ t, Writes ops.toList d.idx t ↔ d.o.dst = some t := fun t => ⟨fun ⟨o, ho, hw⟩ => by rw [hd.op] at ho; cases ho; exact hw, fun hw => ⟨d.o, hd.op, hw⟩⟩
  have hother : ∀ t, d.o.dst ≠ some t → (a.put d.o.dst u).tmps.getD t undef = a.tmps.getD t undef := fun t ht => by
    cases hdd : d.o.dst with
    | none => rfl
    | some s =>
      have : s ≠ t := fun e => ht (by rw [hdd, e])
      simp [Act.put, Array.getElem?_setIfInBounds_ne this]
  have hown : ∀ t, d.o.dst = some t → (a.put d.o.dst u).tmps.getD t undef = u := fun t ht => by
    have := hnt d hds t ht
    rw [ht]
    simp [Act.put, h.tsize, this]
  constructor
  · intro t hno x hx
    have h1 : d.o.dst ≠ some t := fun e => hno d.idx ((hL _).2 (.inl rfl)) ((hself t).2 e)
    rw [hother t h1]
    exact con_mono hle _ _ (h.slot0 t (fun i hi => hno i ((hL i).2 (.inr hi))) x hx)
  · intro t i hi hw hmax
    by_cases e : d.o.dst = some t
    · -- it is the last of the slot's writers
      have hiw : i = d.idx := by
        rcases (hL i).1 hi with r | r
        · exact r
        · exfalso
          have hge := hmax d.idx ((hL _).2 (.inl rfl)) ((hself t).2 e)
          have hne : i ≠ d.idx := fun e2 => hnot (e2 ▸ r)
          have hdst := hd.dst
          unfold dstOk at hdst
          rw [e] at hdst
          simp only at hdst
          split at hdst
          · rename_i res hsrc
            obtain ⟨p, _⟩ := srcOf_spec (ops := ops.toList) ops.toList 0 none res (fun k => by simp) hsrc
            rcases p i (Nat.zero_le _) hw hne with r2 | ⟨bk, hbk, r2⟩
            · have := bef_lt hback d.idx d.bef i hd.bef r2; omega
            · exact hnot (bef_in_of h.downL hbk r2 r)
          · simp at hdst
      subst hiw
      exact ⟨v, hv, by rw [hown t e]; exact hc⟩
    · have hi' : lst L i := by
        rcases (hL i).1 hi with r | r
        · subst r; exact absurd ((hself t).1 hw) e
        · exact r
      obtain ⟨v', h1, h2⟩ := h.slot1 t i hi' hw (fun k hk hwk => hmax k ((hL k).2 (.inr hk)) hwk)
      exact ⟨v', by rw [hR i hi']; exact h1, by rw [hother t e]; exact con_mono hle _ _ h2⟩

end
end Go.Ev
