import Derived.Test.YtinhlmelicmheaaGreatEv16
namespace Go.Ev
open Go

/-! ## A region that draws its order -/

theorem inD_eq (D j : Nat) : inD D j = D.testBit j := by
  unfold inD Nat.testBit
  rw [beq_dec]
  have e : 1 &&& (D >>> j) = (D >>> j) % 2 := by rw [Nat.and_comm, Nat.and_one_is_mod]
  have e' : (D >>> j) &&& 1 = (D >>> j) % 2 := Nat.and_one_is_mod _
  show decide ((D >>> j) &&& 1 = 1) = (1 &&& (D >>> j) != 0)
  rw [e, e']
  rcases Nat.mod_two_eq_zero_or_one (D >>> j) with h | h
  · rw [h]; rfl
  · rw [h]; rfl

theorem inD_or [Sy] (A B i : Nat) : inD (Nat.lor A B) i = (inD A i || inD B i) := by
  rw [inD_eq, inD_eq, inD_eq]; exact Nat.testBit_or A B i

theorem inD_add [Sy] (D j i : Nat) : inD (addD D j) i = (inD D i || decide (i = j)) := by
  unfold addD
  rw [inD_or]
  congr 1
  rw [inD_eq]
  show (1 <<< j).testBit i = _
  rw [Nat.testBit_shiftLeft]
  by_cases h : i = j
  · subst h; simp
  · by_cases h2 : j ≤ i
    · have : Nat.testBit 1 (i - j) = false := Nat.testBit_lt_two_pow (Nat.one_lt_two_pow (by omega))
      simp [h, h2, this]
    · simp [h, h2]

theorem inD_zero [Sy] (i : Nat) : inD 0 i = false := by rw [inD_eq]; simp

theorem inD_add_same [Sy] (D j : Nat) : inD (addD D j) j = true := by rw [inD_add]; simp
theorem inD_add_old [Sy] {D j i : Nat} (h : inD D i = true) : inD (addD D j) i = true := by rw [inD_add, h]; rfl

/-- Closed under what must run ahead. -/
def Down (ops : List Oper) (S : Nat → Prop) : Prop := ∀ (j : Nat) (o : Oper), ops[j]? = some o → S j → ∀ e ∈ o.after.toList, Region.binds .any e = true → S e.on

theorem go_spec [Sy] {acc : List Nat} : ∀ (es : List Edge) (i : Nat), inD (befores.go acc es) i = true → ∃ e ∈ es, Region.binds .any e = true ∧ (i = e.on ∨ ∃ m, acc[e.on]? = some m ∧ inD m i = true)
  | [], i, h => by simp [befores.go, inD_zero] at h
  | e :: es, i, h => by
    simp only [befores.go] at h
    split at h
    · rename_i hb
      rw [inD_or, inD_add] at h
      simp only [Bool.or_eq_true, decide_eq_true_eq] at h
      rcases h with (h | h) | h
      · obtain ⟨e', he', r⟩ := go_spec es i h
        exact ⟨e', by simp [he'], r⟩
      · exact ⟨e, by simp, hb, .inl h⟩
      · refine ⟨e, by simp, hb, .inr ?_⟩
        rw [nth_eq] at h
        split at h
        · rename_i m hm; exact ⟨m, hm, h⟩
        · rw [inD_zero] at h; cases h
    · obtain ⟨e', he', r⟩ := go_spec es i h
      exact ⟨e', by simp [he'], r⟩

theorem befores_get : ∀ (ops : List Oper) (acc : List Nat) (j : Nat), (befores ops acc)[j]? = if j < acc.length then acc[j]? else
    match ops[j - acc.length]? with
    | some o => some (befores.go ((befores ops acc).take j) o.after.toList)
    | none => none
  | [], acc, j => by
    simp only [befores, List.getElem?_nil]
    split
    · rfl
    · rw [List.getElem?_eq_none (by omega)]
  | o :: ops, acc, j => by
    have ih := befores_get ops (acc ++ [befores.go acc o.after.toList]) j
    have hpre : ∀ (ops : List Oper) (acc : List Nat), (befores ops acc).take acc.length = acc := by
      intro ops
      induction ops with
      | nil => intro acc; simp [befores]
      | cons o ops ih =>
        intro acc
        simp only [befores]
        have := ih (acc ++ [befores.go acc o.after.toList])
        have h2 := congrArg (List.take acc.length) this
        rw [List.take_take] at h2
        simpa using h2
    simp only [befores]
    rw [ih]
    by_cases h1 : j < acc.length
    · rw [if_pos (by simp; omega), if_pos h1, List.getElem?_append_left h1]
    · rw [if_neg h1]
      by_cases h2 : j = acc.length
      · subst h2
        rw [if_pos (by simp)]
        simp only [Nat.sub_self, List.getElem?_cons_zero, List.getElem?_concat_length]
        have := hpre (o :: ops) acc
        simp only [befores] at this
        rw [this]
      · rw [if_neg (by simp; omega)]
        have : j - acc.length = (j - (acc ++ [befores.go acc o.after.toList]).length) + 1 := by simp; omega
        rw [this, List.getElem?_cons_succ]

section
variable {ops : List Oper}

theorem bef_spec [Sy] {j m i : Nat} (h : (befores ops [])[j]? = some m) (hi : inD m i = true) :
    ∃ o, ops[j]? = some o ∧ ∃ e ∈ o.after.toList, Region.binds .any e = true ∧ (i = e.on ∨ ∃ m', e.on < j ∧ (befores ops [])[e.on]? = some m' ∧ inD m' i = true) := by
  rw [befores_get] at h
  simp only [List.length_nil, Nat.not_lt_zero, if_false, Nat.sub_zero] at h
  split at h
  · rename_i o ho
    simp only [Option.some.injEq] at h
    subst h
    obtain ⟨e, he, hb, r⟩ := go_spec _ _ hi
    refine ⟨o, ho, e, he, hb, ?_⟩
    rcases r with r | ⟨m, hm, r⟩
    · exact .inl r
    · right
      rw [List.getElem?_take] at hm
      split at hm
      · rename_i hlt; exact ⟨m, hlt, hm, r⟩
      · simp at hm
  · simp at h

theorem bef_in [Sy] {S : Nat → Prop} (hd : Down ops S) : ∀ (j m i : Nat), (befores ops [])[j]? = some m → inD m i = true → (∀ o, ops[j]? = some o → ∀ e ∈ o.after.toList, Region.binds .any e = true → S e.on) → S i := by
  intro j
  induction j using Nat.strongRecOn with
  | _ j ih =>
    intro m i h hi hall
    obtain ⟨o, ho, e, he, hb, r⟩ := bef_spec h hi
    have hS := hall o ho e he hb
    rcases r with r | ⟨m', hlt, hm', r⟩
    · rw [r]; exact hS
    · exact ih e.on hlt m' i hm' r (fun o' ho' e' he' hb' => hd e.on o' ho' hS e' he' hb')

theorem bef_in_of [Sy] {S : Nat → Prop} (hd : Down ops S) {j m i : Nat} (h : (befores ops [])[j]? = some m) (hi : inD m i = true) (hj : S j) : S i :=
  bef_in hd j m i h hi (fun o ho e he hb => hd j o ho hj e he hb)

theorem bef_lt [Sy] (hback : ∀ j o, ops[j]? = some o → edgesBack j o = true) : ∀ (j m i : Nat), (befores ops [])[j]? = some m → inD m i = true → i < j := by
  intro j
  induction j using Nat.strongRecOn with
  | _ j ih =>
    intro m i h hi
    obtain ⟨o, ho, e, he, hb, r⟩ := bef_spec h hi
    have := hback j o ho
    unfold edgesBack at this
    rw [List.all_eq_true] at this
    have h2 := this e he
    simp only [hb] at h2
    have h3 : e.on < j := ble_t h2
    rcases r with r | ⟨m', hlt, hm', r⟩
    · omega
    · have := ih e.on hlt m' i hm' r; omega

/-! What an operand reads. -/

def Writes (ops : List Oper) (k : Nat) (t : Tmp) : Prop := ∃ o, ops[k]? = some o ∧ o.dst = some t

theorem dstIs_iff {o : Oper} {t : Tmp} : dstIs o t = true ↔ o.dst = some t := by
  unfold dstIs
  split
  · rename_i d hd
    rw [beq_dec]; simp [hd]
  · rename_i hd; simp [hd]

def SrcRes (ops : List Oper) (bs : List Nat) (j bj : Nat) (t : Tmp) (i : Nat) (last res : Option Nat) : Prop :=
    (∀ k, i ≤ k → Writes ops k t → k ≠ j → inD bj k = true ∨ ∃ bk, bs[k]? = some bk ∧ inD bk j = true) ∧
    ((res = last ∧ ∀ k, i ≤ k → Writes ops k t → k ≠ j → ¬ inD bj k = true) ∨
     (∃ k, i ≤ k ∧ res = some k ∧ Writes ops k t ∧ k ≠ j ∧ inD bj k = true ∧ ∀ k', k < k' → Writes ops k' t → k' ≠ j → ¬ inD bj k' = true))

theorem srcOf_spec [Sy] {bs : List Nat} {j bj : Nat} {t : Tmp} : ∀ (rest : List Oper) (i : Nat) (last res : Option Nat), (∀ k, rest[k]? = ops[i + k]?) → srcOf bs j bj t rest i last = some res → SrcRes ops bs j bj t i last res
  | [], i, last, res, hrest, h => by
    simp only [srcOf, Option.some.injEq] at h
    have hnone : ∀ k, i ≤ k → ¬ Writes ops k t := fun k hk ⟨o, ho, _⟩ => by
      have := hrest (k - i)
      rw [show i + (k - i) = k from by omega, ho] at this
      simp at this
    exact ⟨fun k hk hw => absurd hw (hnone k hk), .inl ⟨h.symm, fun k hk hw => absurd hw (hnone k hk)⟩⟩
  | o :: rest, i, last, res, hrest, h => by
    have hi : ops[i]? = some o := by have := hrest 0; simpa using this.symm
    have hrest' : ∀ k, rest[k]? = ops[Nat.succ i + k]? := fun k => by
      have := hrest (k + 1)
      rw [List.getElem?_cons_succ] at this
      rw [this]; congr 1; omega
    have skip : (∀ (hw : Writes ops i t) (hne : i ≠ j), (inD bj i = true ∨ ∃ bk, bs[i]? = some bk ∧ inD bk j = true) ∧ ¬ inD bj i = true) → srcOf bs j bj t rest (Nat.succ i) last = some res → SrcRes ops bs j bj t i last res := fun hsk hr => by
      obtain ⟨p, q⟩ := srcOf_spec rest (Nat.succ i) last res hrest' hr
      refine ⟨fun k hk hw hne => ?_, ?_⟩
      · by_cases e : k = i
        · subst e; exact (hsk hw hne).1
        · exact p k (by omega) hw hne
      · rcases q with ⟨q1, q2⟩ | ⟨k, q1, q2⟩
        · refine .inl ⟨q1, fun k hk hw hne => ?_⟩
          by_cases e : k = i
          · subst e; exact (hsk hw hne).2
          · exact q2 k (by omega) hw hne
        · exact .inr ⟨k, by omega, q2⟩
    simp only [srcOf] at h
    split at h
    · rename_i he
      have he' : i = j := Nat.eq_of_beq_eq_true he
      exact skip (fun _ hne => absurd he' hne) h
    · rename_i he
      have he' : i ≠ j := Nat.ne_of_beq_eq_false he
      split at h
      · rename_i hd
        exact skip (fun ⟨o', ho', hw⟩ _ => by rw [hi] at ho'; cases ho'; rw [dstIs_iff.2 hw] at hd; cases hd) h
      · rename_i hd
        have hw : Writes ops i t := ⟨o, hi, dstIs_iff.1 hd⟩
        split at h
        · rename_i hb
          obtain ⟨p, q⟩ := srcOf_spec rest (Nat.succ i) (some i) res hrest' h
          refine ⟨fun k hk hw' hne => ?_, ?_⟩
          · by_cases e : k = i
            · subst e; exact .inl hb
            · exact p k (by omega) hw' hne
          · right
            rcases q with ⟨q1, q2⟩ | ⟨k, q1, q2⟩
            · exact ⟨i, Nat.le_refl _, q1, hw, he', hb, fun k' hk' hw' hne => q2 k' hk' hw' hne⟩
            · exact ⟨k, by omega, q2⟩
        · rename_i hb
          split at h
          · rename_i bi hbi
            rw [nth_eq] at hbi
            split at h
            · rename_i hbij
              exact skip (fun _ _ => ⟨.inr ⟨bi, hbi, hbij⟩, by rw [hb]; simp⟩) h
            · simp at h
          · simp at h

theorem srcsOf_spec {bs : List Nat} {j bj : Nat} : ∀ (ts : List Tmp) (l : List (Tmp × Nat)), srcsOf ops bs j bj ts = some l → ∀ t ∈ ts, srcOf bs j bj t ops 0 none = some (assoc l t)
  | [], l, h, t, ht => by simp at ht
  | u :: ts, l, h, t, ht => by
    simp only [srcsOf] at h
    have sub : ∀ (ts : List Tmp) (l : List (Tmp × Nat)), srcsOf ops bs j bj ts = some l → ∀ t i, assoc l t = some i → srcOf bs j bj t ops 0 none = some (some i) := by
      intro ts
      induction ts with
      | nil => intro l h t i hi; simp only [srcsOf, Option.some.injEq] at h; subst h; simp [assoc] at hi
      | cons u ts ih =>
        intro l h t i hi
        simp only [srcsOf] at h
        split at h
        · simp at h
        · exact ih l h t i hi
        · rename_i i' hs
          split at h
          · rename_i l' hl'
            simp only [Option.some.injEq] at h; subst h
            simp only [assoc] at hi
            split at hi
            · rename_i hu
              have hu' : u = t := Nat.eq_of_beq_eq_true hu
              subst hu'
              rw [← hi]; exact hs
            · exact ih l' hl' t i hi
          · simp at h
    split at h
    · simp at h
    · rename_i hs
      by_cases e : t ∈ ts
      · exact srcsOf_spec ts l h t e
      · have e2 : t = u := by rcases List.mem_cons.1 ht with r | r; exact r; exact absurd r e
        subst e2
        cases ha : assoc l t with
        | none => exact hs
        | some i => rw [sub ts l h t i ha] at hs; simp at hs
    · rename_i i hs
      split at h
      · rename_i l' hl'
        simp only [Option.some.injEq] at h; subst h
        simp only [assoc]
        split
        · rename_i hu
          have hu' : u = t := Nat.eq_of_beq_eq_true hu
          subst hu'; exact hs
        · rename_i hu
          have hu' : u ≠ t := Nat.ne_of_beq_eq_false hu
          rcases List.mem_cons.1 ht with r | r
          · exact absurd r.symm hu'
          · exact srcsOf_spec ts l' hl' t r
      · simp at h

/-- What the plan's table says of each operation. -/
structure DGood (ops : List Oper) (d : DOp) : Prop where
  op : ops[d.idx]? = some d.o
  bef : (befores ops [])[d.idx]? = some d.bef
  back : edgesBack d.idx d.o = true
  dst : dstOk (befores ops []) d.idx d.bef d.o ops = true
  guard : guardOk ops (befores ops []) d.idx d.bef d.o = true
  srcs : srcsOf ops (befores ops []) d.idx d.bef (tmpsOf d.o.op.operands.toList) = some d.srcs

theorem dopsOf_spec [Sy] : ∀ (rest : List Oper) (j : Nat) (ds : List DOp), (∀ k, rest[k]? = ops[j + k]?) → dopsOf ops (befores ops []) rest j = some ds →
    ds.length = rest.length ∧ ∀ (k : Nat) (d : DOp), ds[k]? = some d → d.idx = j + k ∧ DGood ops d
  | [], j, ds, _, h => by simp only [dopsOf, Option.some.injEq] at h; subst h; exact ⟨rfl, fun k d hk => by simp at hk⟩
  | o :: rest, j, ds, hrest, h => by
    have hj : ops[j]? = some o := by have := hrest 0; simpa using this.symm
    have hrest' : ∀ k, rest[k]? = ops[Nat.succ j + k]? := fun k => by
      have := hrest (k + 1)
      rw [List.getElem?_cons_succ] at this
      rw [this]; congr 1; omega
    simp only [dopsOf] at h
    split at h
    · simp at h
    · rename_i bj hbj
      rw [nth_eq] at hbj
      split at h
      · simp at h
      · rename_i h1
        split at h
        · simp at h
        · rename_i h2
          split at h
          · simp at h
          · rename_i h3
            split at h
            · simp at h
            · rename_i srcs h4
              split at h
              · rename_i l hl
                simp only [Option.some.injEq] at h; subst h
                obtain ⟨p, q⟩ := dopsOf_spec rest (Nat.succ j) l hrest' hl
                refine ⟨by simp [p], fun k d hk => ?_⟩
                cases k with
                | zero =>
                  simp only [List.getElem?_cons_zero, Option.some.injEq] at hk; subst hk
                  exact ⟨rfl, hj, hbj, h1, h2, h3, h4⟩
                | succ k =>
                  simp only [List.getElem?_cons_succ] at hk
                  obtain ⟨q1, q2⟩ := q k d hk
                  exact ⟨by rw [q1]; omega, q2⟩
              · simp at h

end
end Go.Ev
