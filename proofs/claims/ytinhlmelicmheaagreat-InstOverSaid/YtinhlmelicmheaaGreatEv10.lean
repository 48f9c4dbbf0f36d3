import Derived.Test.YtinhlmelicmheaaGreatEv9
import Derived.MapKept
namespace Go.Ev
open Go

section
variable {P : Program} {N : Nat} {ρ : Ren} {σ : Heap} {w : World} {E : Operand → Option AV} {ev : Operand → Value} {o : Oper} {r : AV}

theorem zip_fst_snd {α β γ : Type} (l : List (α × β)) (f : β → γ) : (l.map (·.1)).zip (l.map fun p => f p.2) = l.map fun p => (p.1, f p.2) := by
  induction l with
  | nil => rfl
  | cons x l ih => simp [ih]

theorem buildA_run [Sy] {t : TypeId} {ps : List (Nat × AV)} {us : List Value} (hu : conL ρ (ps.map (·.2)) = some us) (h : buildA P t ps = some r) :
    ∃ v, con ρ r = some v ∧ (Instr.build t ((ps.map (·.1)).zip us).toArray).run P w = .ok v w := by
  unfold buildA at h
  split at h
  · simp at h
  · rename_i z hz
    obtain ⟨i, v, hi, hv, hsc, hcon⟩ := zeroL_cells hz
    split at h
    · rename_i fields hd
      split at h
      · rename_i pl hpl
        split at h
        · rename_i cs hcs
          simp only [Option.some.injEq] at h; subst h
          obtain ⟨rs, h1, h2, h3⟩ := fillA_con hcs (hcon ρ) hu
          refine ⟨.agg rs.toArray, by simp only [con, h1, Option.map_some], ?_⟩
          have hp : (fields.mapM fun f => (do pure (f.offset, ← sizeOf f.type) : Sem (Nat × Nat))).run P w = .ok pl.toArray w := by
            rw [← Array.toArray_toList (xs := fields), List.mapM_toArray]
            rw [Sem.run_map, placesA_run (w := w) hpl]; rfl
          have hfill : Instr.fill (fun i => pl.toArray[i]?) v.cells ((ps.map (·.1)).zip us) = some rs.toArray := by
            have e1 : (fun i => pl.toArray[i]?) = nth pl := by funext i; rw [nth_eq]; simp
            rw [e1]
            have e2 : v.cells.toList.toArray = v.cells := by simp
            rw [← e2]; exact h3
          simp only [Instr.build, Sem.run_bind, zeroValue_run hi hv, Result.andThen_ok, run_underlying hd, hp]
          rw [hfill]
          simp
        · simp at h
      · simp at h
    · rename_i n elem hd
      split at h
      · rename_i s hs
        split at h
        · rename_i cs hcs
          simp only [Option.some.injEq] at h; subst h
          obtain ⟨rs, h1, h2, h3⟩ := fillA_con hcs (hcon ρ) hu
          refine ⟨.agg rs.toArray, by simp only [con, h1, Option.map_some], ?_⟩
          have e2 : v.cells.toList.toArray = v.cells := by simp
          rw [e2] at h3
          have h3' : Instr.fill (fun i => some (i * s, s)) v.cells ((ps.map (·.1)).zip us) = some rs.toArray := h3
          simp only [Instr.build, Sem.run_bind, zeroValue_run hi hv, Result.andThen_ok, run_underlying hd, szOf_run hs]
          rw [h3']
          simp
        · simp at h
      · simp at h
    · simp at h

theorem v_build_sound [Sy] (hr : Rep P N ρ σ w) (hg : Good ρ E ev o.op.operands.toList) {t : TypeId} {parts : Array (Nat × Operand)} (ho : o.op = .build t parts) (h : v_build P E σ o t parts = some r) :
    VOk P N ρ σ w (execOp ev o) r := by
  unfold v_build at h
  split at h
  · rename_i ps hps
    obtain ⟨h1, h2⟩ := partsA_con (ρ := ρ) (ev := ev) hps (fun p hp a ha => hg p.2 (by rw [ho]; simp only [Op.operands, List.toList_toArray]; exact List.mem_map.2 ⟨p, hp, rfl⟩) a ha)
    obtain ⟨v, hv, hrun⟩ := buildA_run (w := w) h2 h
    refine VOk.same hr hv ?_
    rw [h1, zip_fst_snd] at hrun
    have e : (parts.toList.map fun p => (p.1, ev p.2)).toArray = parts.map fun (i, x) => (i, ev x) := by apply Array.ext'; simp
    rw [e] at hrun
    simp only [execOp, ho, Sem.run_bind, hrun, Result.andThen_ok, Sem.run_pure]
  · simp at h

theorem natOf_spec {a : AV} {n : Nat} (h : natOf a = some n) : ∃ k, a = .int k (.ofNat n) := by
  unfold natOf at h
  split at h
  · rename_i k m
    simp only [Option.some.injEq] at h; subst h; exact ⟨k, rfl⟩
  · simp at h

/-- A slice expression's bounds, as the model reckons them. -/
theorem bounds_run [Sy] {lo hi : Option Operand} {len cap l h : Nat} (hlo : ∀ x ∈ lo.toList, ∀ a, E x = some a → con ρ a = some (ev x)) (hhi : ∀ x ∈ hi.toList, ∀ a, E x = some a → con ρ a = some (ev x))
    (h1 : optNat E 0 lo = some l) (h2 : optNat E len hi = some h) (hlh : l ≤ h) (hcap : h ≤ cap) (b : Bool) :
    (Instr.sliceBounds b len cap (lo.map ev) (hi.map ev) none).run P w = .ok (l, h, cap) w := by
  cases hi with
  | none =>
    simp only [optNat, Option.some.injEq] at h2; subst h2
    cases lo with
    | none =>
      simp only [optNat, Option.some.injEq] at h1; subst h1
      simp [Instr.sliceBounds]
    | some x =>
      simp only [optNat] at h1
      split at h1
      · rename_i a ha
        obtain ⟨k, rfl⟩ := natOf_spec h1
        have e := con_int (hlo x (by simp) _ ha)
        simp only [Instr.sliceBounds, Option.map_some, Option.map_none, Sem.run_bind, Sem.run_pure, Result.andThen_ok, e, Option.isSome_none]
        rw [run_sliceBound w k _ _ _ (by simp) (by simp; omega)]
        simp
      · simp at h1
  | some y =>
    simp only [optNat] at h2
    split at h2
    · rename_i a ha
      obtain ⟨k, rfl⟩ := natOf_spec h2
      have e := con_int (hhi y (by simp) _ ha)
      cases lo with
      | none =>
        simp only [optNat, Option.some.injEq] at h1; subst h1
        simp only [Instr.sliceBounds, Option.map_some, Option.map_none, Sem.run_bind, Sem.run_pure, Result.andThen_ok, e]
        rw [run_sliceBound w k _ _ _ (by simp) (by simp; omega)]
        simp
      | some x =>
        simp only [optNat] at h1
        split at h1
        · rename_i a' ha'
          obtain ⟨k', rfl⟩ := natOf_spec h1
          have e' := con_int (hlo x (by simp) _ ha')
          simp only [Instr.sliceBounds, Option.map_some, Option.map_none, Sem.run_bind, Sem.run_pure, Result.andThen_ok, e, e', Option.isSome_none]
          rw [run_sliceBound w k _ _ _ (by simp) (by simp; omega)]
          simp only [Result.andThen_ok, Int.ofNat_eq_natCast, Int.toNat_natCast]
          rw [run_sliceBound w k' _ _ _ (by simp) (by simp; omega)]
          simp
        · simp at h1
    · simp at h2

theorem bounds_run3 [Sy] {lo : Option Operand} {y z : Operand} {len cap l h m : Nat} (hlo : ∀ x ∈ lo.toList, ∀ a, E x = some a → con ρ a = some (ev x)) (hhi : ∀ a, E y = some a → con ρ a = some (ev y))
    (hmx : ∀ a, E z = some a → con ρ a = some (ev z))
    (h1 : optNat E 0 lo = some l) (h2 : optNat E len (some y) = some h) (h3 : optNat E 0 (some z) = some m) (hlh : l ≤ h) (hhm : h ≤ m) (hcap : m ≤ cap) :
    (Instr.sliceBounds true len cap (lo.map ev) (some (ev y)) (some (ev z))).run P w = .ok (l, h, m) w := by
  simp only [optNat] at h2 h3
  split at h2
  · rename_i a ha
    obtain ⟨k, rfl⟩ := natOf_spec h2
    have e := con_int (hhi _ ha)
    split at h3
    · rename_i a2 ha2
      obtain ⟨k2, rfl⟩ := natOf_spec h3
      have e2 := con_int (hmx _ ha2)
      cases lo with
      | none =>
        simp only [optNat, Option.some.injEq] at h1; subst h1
        simp only [Instr.sliceBounds, Option.map_none, Sem.run_bind, Sem.run_pure, Result.andThen_ok, e, e2]
        rw [run_sliceBound w k2 _ _ _ (by simp) (by simp; omega)]
        simp only [Result.andThen_ok, Int.ofNat_eq_natCast, Int.toNat_natCast]
        rw [run_sliceBound w k _ _ _ (by simp) (by simp; omega)]
        simp
      | some x =>
        simp only [optNat] at h1
        split at h1
        · rename_i a' ha'
          obtain ⟨k', rfl⟩ := natOf_spec h1
          have e' := con_int (hlo x (by simp) _ ha')
          simp only [Instr.sliceBounds, Option.map_some, Sem.run_bind, Sem.run_pure, Result.andThen_ok, e, e2, e']
          rw [run_sliceBound w k2 _ _ _ (by simp) (by simp; omega)]
          simp only [Result.andThen_ok, Int.ofNat_eq_natCast, Int.toNat_natCast]
          rw [run_sliceBound w k _ _ _ (by simp) (by simp; omega)]
          simp only [Result.andThen_ok, Int.toNat_natCast]
          rw [run_sliceBound w k' _ _ _ (by simp) (by simp; omega)]
          simp
        · simp at h1
    · simp at h3
  · simp at h2

theorem capOf_ge (L : Loc) (cap : Nat) (sp : Bool) : cap ≤ capOf L cap sp := by cases sp <;> simp [capOf]

theorem capOf_sub (L : Loc) {cap l : Nat} (h : l ≤ cap) (sp : Bool) : capOf L (Nat.sub cap l) sp = capOf L cap sp - l := by
  cases sp
  · rfl
  · show cap - l + L.spare = cap + L.spare - l; omega

theorem sliceAt_run [Sy] {t elem : TypeId} (hd : P.underlying t = some (.slice elem)) {s : Nat} (hs : szOf P elem = some s) {a : Option Addr} {len cap l h m : Nat} {lo hi mx : Option Value}
    (hb : (Instr.sliceBounds true len cap lo hi mx).run P w = .ok (l, h, m) w) :
    (Instr.sliceAt t (.slice a len cap) lo hi mx).run P w = .ok (.slice (if m = l then a else a.map (·.add (l * s))) (h - l) (m - l)) w := by
  simp only [Instr.sliceAt, Instr.slice, Sem.run_bind, run_underlying hd, Result.andThen_ok, hb, szOf_run hs, Sem.run_pure]

theorem bytesV_drop : ∀ {vs : List Value} {bs : List Nat} (_ : bytesV vs = some bs) (n : Nat), bytesV (vs.drop n) = some (bs.drop n)
  | vs, bs, h, 0 => by simpa using h
  | [], bs, h, n + 1 => by simp only [bytesV, Option.some.injEq] at h; subst h; rfl
  | v :: l, bs, h, n + 1 => by
    obtain ⟨m, r, rfl, h1, rfl⟩ := bytesV_cons h
    simpa using bytesV_drop h1 n

theorem bytesV_take : ∀ {vs : List Value} {bs : List Nat} (_ : bytesV vs = some bs) (n : Nat), bytesV (vs.take n) = some (bs.take n)
  | vs, bs, h, 0 => by simp [bytesV]
  | [], bs, h, n + 1 => by simp only [bytesV, Option.some.injEq] at h; subst h; rfl
  | v :: l, bs, h, n + 1 => by
    obtain ⟨m, r, rfl, h1, rfl⟩ := bytesV_cons h
    simp only [List.take_succ_cons, bytesV, bytesV_take h1 n, Option.map_some]

theorem bytesA_V [Sy] : ∀ {l : List AV} {ns : List Nat} {vs : List Value} {bs : List Nat}, bytesA l = some ns → conL ρ l = some vs → bytesV vs = some bs → ns = bs
  | [], ns, vs, bs, h, h1, h2 => by
    simp only [bytesA, Option.some.injEq] at h; subst h
    simp only [conL, Option.some.injEq] at h1; subst h1
    simpa [bytesV] using h2
  | x :: l, ns, vs, bs, h, h1, h2 => by
    obtain ⟨v, us, hv, hus, rfl⟩ := conL_cons.1 h1
    obtain ⟨m, r, rfl, h3, rfl⟩ := bytesV_cons h2
    unfold bytesA at h
    split at h
    · rename_i h0; cases h0
    · rename_i n l' h0
      cases h0
      split at h
      · rename_i rest hrest
        simp only [Option.some.injEq] at h; subst h
        have e := con_int hv
        simp only [Value.int.injEq, Int.ofNat.injEq] at e
        rw [← e.2, bytesA_V hrest hus h3]
      · cases h
    · cases h

theorem strOf_con [Sy] {l : List AV} {vs : List Value} {bs : List Nat} (h1 : conL ρ l = some vs) (h2 : bytesV vs = some bs) : con ρ (strOf l) = some (.string (bytesOf bs)) := by
  unfold strOf
  split
  · rename_i ns hns
    rw [bytesA_V hns h1 h2]; exact con_str' _ _
  · simp only [con, h1, Option.bind_some, h2, Option.map_some]

theorem v_slice_sound [Sy] (hr : Rep P N ρ σ w) (hg : Good ρ E ev o.op.operands.toList) {t : TypeId} {x : Operand} {lo hi mx : Option Operand} (ho : o.op = .slice t x lo hi mx) (h : v_slice P E σ o t x lo hi mx = some r) :
    VOk P N ρ σ w (execOp ev o) r := by
  have hexec : execOp ev o = (do pure (.value (← Instr.sliceAt t (ev x) (lo.map ev) (hi.map ev) (mx.map ev)))) := by simp only [execOp, ho]
  have hx : ∀ a, E x = some a → con ρ a = some (ev x) := fun a ha => hg x (by rw [ho]; simp [Op.operands]) a ha
  have hlo : ∀ y ∈ lo.toList, ∀ a, E y = some a → con ρ a = some (ev y) := fun y hy a ha => hg y (by rw [ho]; simp [Op.operands]; right; left; simpa using hy) a ha
  have hhi : ∀ y ∈ hi.toList, ∀ a, E y = some a → con ρ a = some (ev y) := fun y hy a ha => hg y (by rw [ho]; simp [Op.operands]; right; right; left; simpa using hy) a ha
  have hmx : ∀ y ∈ mx.toList, ∀ a, E y = some a → con ρ a = some (ev y) := fun y hy a ha => hg y (by rw [ho]; simp [Op.operands]; right; right; right; simpa using hy) a ha
  unfold v_slice at h
  split at h
  · rename_i b off len cap sp ha
    obtain ⟨L, hL, e⟩ := con_sl (hx _ ha)
    split at h
    · rename_i elem hd
      split at h
      · rename_i s hs
        split at h
        · rename_i l hl
          split at h
          · rename_i hh hhh
            split at h
            · -- no max
              split at h
              · rename_i q hq
                subst h
                unfold sliceA at hq
                split at hq
                · rename_i m hm; cases hm
                · split at hq
                  · rename_i hc1
                    split at hq
                    · rename_i hc2
                      have c1 := ble_t hc1; have c2 := ble_t hc2
                      have hcap := capOf_ge L cap sp
                      have hb := bounds_run (P := P) (w := w) hlo hhi hl hhh c2 (Nat.le_trans c1 hcap) true
                      have hrun := sliceAt_run hd hs (a := some ⟨L.blk, L.base + off, none⟩) hb
                      rw [hexec, e]
                      split at hq
                      · rename_i hz
                        have hz' : l = 0 := Nat.eq_of_beq_eq_true hz
                        subst hz'
                        simp only [Option.some.injEq] at hq; subst hq
                        refine VOk.same hr (v := .slice (some ⟨L.blk, L.base + off, none⟩) hh (capOf L cap sp)) (by simp only [con, hL, Option.map_some]) ?_
                        simp only [Option.map_none, Sem.run_bind, hrun, Result.andThen_ok, Sem.run_pure]
                        simp [Addr.add]
                      · rename_i hz
                        split at hq
                        · rename_i hcl
                          have hcl' : cap ≠ l := Nat.ne_of_beq_eq_false hcl
                          simp only [Option.some.injEq] at hq; subst hq
                          have e3 : capOf L (Nat.sub cap l) sp = capOf L cap sp - l := capOf_sub L (Nat.le_trans c2 c1) sp
                          refine VOk.same hr (v := .slice (some ⟨L.blk, L.base + off + l * s, none⟩) (hh - l) (capOf L cap sp - l)) (by simp only [con, hL, Option.map_some, e3]; simp [Nat.add_assoc]) ?_
                          simp only [Option.map_none, Sem.run_bind, hrun, Result.andThen_ok, Sem.run_pure]
                          rw [if_neg (by omega)]
                          simp [Addr.add_lit]
                        · rename_i hcl
                          have hcl' : cap = l := Nat.eq_of_beq_eq_true hcl
                          split at hq
                          · simp only [Option.some.injEq] at hq; subst hq
                            refine VOk.same hr (v := .slice (some ⟨L.blk, L.base + off, none⟩) (hh - l) 0) (by simp only [con, hL, Option.map_some, capOf]; simp) ?_
                            have hrun' := hrun
                            simp only [capOf] at hrun'
                            simp only [Option.map_none, Sem.run_bind, capOf, hrun', Result.andThen_ok, Sem.run_pure]
                            subst hcl'
                            simp
                          · simp at hq
                    · simp at hq
                  · simp at hq
              · simp at h
            · rename_i y
              split at h
              · rename_i m hm
                split at h
                · rename_i z
                  split at h
                  · rename_i q hq
                    subst h
                    unfold sliceA at hq
                    split at hq
                    · rename_i m' hm'
                      cases hm'
                      split at hq
                      · rename_i hc1
                        split at hq
                        · rename_i hc2
                          split at hq
                          · rename_i hc3
                            have c1 := ble_t hc1; have c2 := ble_t hc2; have c3 := ble_t hc3
                            have hcap := capOf_ge L cap sp
                            have hb := bounds_run3 (P := P) (w := w) (y := z) (z := y) hlo (hhi z (by simp)) (hmx y (by simp)) hl hhh hm c3 c2 (Nat.le_trans c1 hcap)
                            have hrun := sliceAt_run hd hs (a := some ⟨L.blk, L.base + off, none⟩) hb
                            rw [hexec, e]
                            split at hq
                            · rename_i hz
                              have hz' : m = l := Nat.eq_of_beq_eq_true hz
                              simp only [Option.some.injEq] at hq; subst hq
                              refine VOk.same hr (v := .slice (some ⟨L.blk, L.base + off, none⟩) (hh - l) (m - l)) (by simp only [con, hL, Option.map_some, capOf]; rfl) ?_
                              simp only [Option.map_some, Sem.run_bind, hrun, Result.andThen_ok, Sem.run_pure]
                              rw [if_pos hz']
                            · rename_i hz
                              have hz' : m ≠ l := Nat.ne_of_beq_eq_false hz
                              simp only [Option.some.injEq] at hq; subst hq
                              refine VOk.same hr (v := .slice (some ⟨L.blk, L.base + off + l * s, none⟩) (hh - l) (m - l)) (by simp only [con, hL, Option.map_some, capOf]; simp [Nat.add_assoc]) ?_
                              simp only [Option.map_some, Sem.run_bind, hrun, Result.andThen_ok, Sem.run_pure]
                              rw [if_neg hz']
                              simp [Addr.add_lit]
                          · simp at hq
                        · simp at hq
                      · simp at hq
                    · rename_i hm'; cases hm'
                  · simp at h
                · simp at h
              · simp at h
          · simp at h
        · simp at h
      · simp at h
    · simp at h
  · rename_i s ha
    have e := con_str (hx _ ha)
    split at h
    · rename_i hd
      split at h
      · split at h
        · rename_i l hl
          split at h
          · rename_i hh hhh
            split at h
            · rename_i hc1
              split at h
              · rename_i hc2
                simp only [Option.some.injEq] at h; subst h
                have c1 := ble_t hc1; have c2 := ble_t hc2
                refine VOk.same hr (con_str' _ _) ?_
                rw [hexec, e]
                have hb := bounds_run (P := P) (w := w) hlo hhi hl hhh c2 c1 false
                rw [← size_bytesOf s] at hb
                have hex : (bytesOf s).extract l hh = bytesOf ((s.drop l).take (Nat.sub hh l)) := by
                  unfold bytesOf
                  rw [ByteArray.extract_mk]
                  simp [List.map_take, List.map_drop]
                have hrun : (Instr.sliceAt t (.string (bytesOf s)) (lo.map ev) (hi.map ev) none).run P w = .ok (.string ((bytesOf s).extract l hh)) w := by
                  simp only [Instr.sliceAt, Instr.slice, Sem.run_bind, run_underlying hd, Result.andThen_ok, Option.isSome_none, Bool.false_eq_true, if_false, Sem.run_pure, hb]
                simp only [Option.map_none, Sem.run_bind, hrun, Result.andThen_ok, Sem.run_pure, hex]
              · simp at h
            · simp at h
          · simp at h
        · simp at h
      · simp at h
    · simp at h
  · rename_i s ha
    obtain ⟨vs, bs, q1, q2, e⟩ := con_sstr (hx _ ha)
    have hlen : s.length = bs.length := by rw [bytesV_length q2, conL_length q1]
    split at h
    · rename_i hd
      split at h
      · split at h
        · rename_i l hl
          split at h
          · rename_i hh hhh
            split at h
            · rename_i hc1
              split at h
              · rename_i hc2
                simp only [Option.some.injEq] at h; subst h
                have c1 := ble_t hc1; have c2 := ble_t hc2
                rw [hlen] at c1 hhh
                have q3 : conL ρ ((s.drop l).take (Nat.sub hh l)) = some ((vs.drop l).take (Nat.sub hh l)) := conL_take (conL_drop q1 l) _
                have q4 : bytesV ((vs.drop l).take (Nat.sub hh l)) = some ((bs.drop l).take (Nat.sub hh l)) := bytesV_take (bytesV_drop q2 l) _
                refine VOk.same hr (strOf_con q3 q4) ?_
                rw [hexec, e]
                have hb := bounds_run (P := P) (w := w) hlo hhi hl hhh c2 c1 false
                rw [← size_bytesOf bs] at hb
                have hex : (bytesOf bs).extract l hh = bytesOf ((bs.drop l).take (Nat.sub hh l)) := by
                  unfold bytesOf
                  rw [ByteArray.extract_mk]
                  simp [List.map_take, List.map_drop]
                have hrun : (Instr.sliceAt t (.string (bytesOf bs)) (lo.map ev) (hi.map ev) none).run P w = .ok (.string ((bytesOf bs).extract l hh)) w := by
                  simp only [Instr.sliceAt, Instr.slice, Sem.run_bind, run_underlying hd, Result.andThen_ok, Option.isSome_none, Bool.false_eq_true, if_false, Sem.run_pure, hb]
                simp only [Option.map_none, Sem.run_bind, hrun, Result.andThen_ok, Sem.run_pure, hex]
              · simp at h
            · simp at h
          · simp at h
        · simp at h
      · simp at h
    · simp at h
  · rename_i b off ha
    obtain ⟨L, hL, e⟩ := con_ptr (hx _ ha)
    split at h
    · rename_i n elem hd
      split at h
      · rename_i s hs
        split at h
        · split at h
          · rename_i l hl
            split at h
            · rename_i hh hhh
              split at h
              · rename_i q hq
                subst h
                unfold sliceA at hq
                split at hq
                · rename_i m hm; cases hm
                · split at hq
                  · rename_i hc1
                    split at hq
                    · rename_i hc2
                      have c1 := ble_t hc1; have c2 := ble_t hc2
                      have hb := bounds_run (P := P) (w := w) hlo hhi hl hhh c2 c1 false
                      have hrun : (Instr.sliceAt t (.pointer (some ⟨L.blk, L.base + off, none⟩)) (lo.map ev) (hi.map ev) none).run P w = .ok (.slice (some (if n = l then ⟨L.blk, L.base + off, none⟩ else Addr.add ⟨L.blk, L.base + off, none⟩ (l * s))) (hh - l) (n - l)) w := by
                        simp only [Instr.sliceAt, Sem.run_bind, run_underlying hd, Result.andThen_ok, Instr.sureAddr, Sem.run_pure, hb, szOf_run hs]
                      rw [hexec, e]
                      simp only [Addr.add_lit] at hrun
                      split at hq
                      · rename_i hz
                        have hz' : l = 0 := Nat.eq_of_beq_eq_true hz
                        subst hz'
                        simp only [Option.some.injEq] at hq; subst hq
                        refine VOk.same hr (v := .slice (some ⟨L.blk, L.base + off, none⟩) hh n) (by simp only [con, hL, Option.map_some, capOf]) ?_
                        simp only [Option.map_none, Sem.run_bind, hrun, Result.andThen_ok, Sem.run_pure]
                        simp
                      · rename_i hz
                        split at hq
                        · rename_i hcl
                          have hcl' : n ≠ l := Nat.ne_of_beq_eq_false hcl
                          simp only [Option.some.injEq] at hq; subst hq
                          refine VOk.same hr (v := .slice (some ⟨L.blk, L.base + off + l * s, none⟩) (hh - l) (n - l)) (by simp only [con, hL, Option.map_some, capOf]; simp [Nat.add_assoc]) ?_
                          simp only [Option.map_none, Sem.run_bind, hrun, Result.andThen_ok, Sem.run_pure]
                          rw [if_neg hcl']
                        · rename_i hcl
                          have hcl' : n = l := Nat.eq_of_beq_eq_true hcl
                          simp only [Option.some.injEq] at hq; subst hq
                          refine VOk.same hr (v := .slice (some ⟨L.blk, L.base + off, none⟩) (hh - l) 0) (by simp only [con, hL, Option.map_some, capOf]; simp) ?_
                          simp only [Option.map_none, Sem.run_bind, hrun, Result.andThen_ok, Sem.run_pure]
                          rw [if_pos hcl']
                          subst hcl'
                          simp
                    · simp at hq
                  · simp at hq
              · simp at h
            · simp at h
          · simp at h
        · simp at h
      · simp at h
    · simp at h
  · exact pureA_sound hr hg (by rw [ho]; simp) h
  · simp at h

/-! Maps. -/

theorem Rep.mapBlk [Sy] (h : Rep P N ρ σ w) {b : Nat} {es : List (AV × AV × Nat)} {clock : Nat} {L : Loc} (hb : σ.get b = some (.map es clock)) (hL : ρ b = some L) :
    ∃ es', w.heap[L.blk]? = some (.map es' clock) ∧ EsRel ρ es es'.toList := by
  obtain ⟨o, ho, es', e1, h1⟩ := h.blk _ _ _ hb hL
  subst e1
  exact ⟨es', ho, h1⟩

theorem con_map [Sy] {b : Nat} {v : Value} (h : con ρ (.map b) = some v) : ∃ L, ρ b = some L ∧ v = .map (some L.blk) := by
  simp only [con, Option.map_eq_some_iff] at h
  obtain ⟨L, hL, e⟩ := h
  exact ⟨L, hL, e.symm⟩

theorem keyFits_spec [Sy] {t : TypeId} {k : AV} (h : keyFits P t k = true) {v : Value} (hv : con ρ k = some v) : ∃ kt et d, P.underlying t = some (.map kt et) ∧ P.underlying kt = some d ∧ MapKept.IsKey d v ∧
    ((∃ kk n, (∃ k0, d = .int k0) ∧ k = .int kk n) ∨ (∃ l, d = .string ∧ k = .str l)) := by
  unfold keyFits at h
  split at h
  · rename_i kt et ht
    split at h
    · rename_i k0 hk
      split at h
      · rename_i kk n
        obtain rfl := con_int hv
        exact ⟨kt, et, _, ht, hk, by simp only [MapKept.IsKey]; exact sameK_eq h, .inl ⟨kk, n, ⟨k0, rfl⟩, rfl⟩⟩
      · cases h
    · rename_i hk
      split at h
      · rename_i l
        obtain rfl := con_str hv
        exact ⟨kt, et, _, ht, hk, by simp [MapKept.IsKey], .inr ⟨l, rfl, rfl⟩⟩
      · cases h
    · cases h
  · cases h

theorem findA_spec [Sy] {d : TypeDesc} {k : AV} {kv : Value} (hk : con ρ k = some kv) (hd : (∃ kk n, (∃ k0, d = .int k0) ∧ k = .int kk n) ∨ (∃ l, d = .string ∧ k = .str l)) :
    ∀ {es : List (AV × AV × Nat)} {es' : List MapEntry} {i : Nat} {a : Option (Nat × AV)}, EsRel ρ es es' → findA k i es = some a →
      (a = none → Instr.findNow d kv es' i = some none) ∧
      (∀ j v, a = some (j, v) → ∃ u e, Instr.findNow d kv es' i = some (some (j, u)) ∧ con ρ v = some u ∧ i ≤ j ∧ es'[j - i]? = some e ∧ e.key = kv)
  | [], [], i, a, _, h => by
    simp only [findA, Option.some.injEq] at h; subst h
    exact ⟨fun _ => by simp [Instr.findNow], fun j v hh => by cases hh⟩
  | [], _ :: _, _, _, hr, _ => hr.elim
  | _ :: _, [], _, _, hr, _ => hr.elim
  | (k', v', b') :: l, e :: l', i, a, ⟨h1, h2, h3, h4⟩, h => by
    have hs : ∀ t, keyEq k' k = some t → Instr.sameNow d kv e.key = some t ∧ (t = true → e.key = kv) := by
      intro t ht
      rcases hd with ⟨kk, n, ⟨k0, rfl⟩, rfl⟩ | ⟨s, rfl, rfl⟩
      · obtain rfl := con_int hk
        unfold keyEq at ht
        split at ht
        · rename_i k1 a1 k2 b2 hc
          cases hc
          have e1 := con_int h1
          split at ht
          · rename_i hkk
            have hkk := sameK_eq hkk
            subst hkk
            simp only [Option.some.injEq] at ht; subst ht
            rw [e1]
            simp only [Instr.sameNow, if_true, eqI_eq]
            refine ⟨?_, ?_⟩
            · congr 1; rw [Bool.eq_iff_iff]; simp only [beq_iff_eq]; exact eq_comm
            · intro hh; simp only [beq_iff_eq] at hh; rw [hh]
          · cases ht
        · rename_i hc; cases hc
        · cases ht
      · obtain rfl := con_str hk
        unfold keyEq at ht
        split at ht
        · rename_i hc; cases hc
        · rename_i m1 m2 hc
          cases hc
          have e1 := con_str h1
          simp only [Option.some.injEq] at ht; subst ht
          rw [e1]
          simp only [Instr.sameNow]
          have hb : strEq m1 s = true ↔ bytesOf m1 = bytesOf s := by
            rw [strEq_eq, beq_iff_eq, toList_bytesOf, toList_bytesOf]
            constructor
            · intro hh; unfold bytesOf; rw [hh]
            · intro hh
              have := congrArg ByteArray.toList hh
              rwa [toList_bytesOf, toList_bytesOf] at this
          refine ⟨?_, ?_⟩
          · congr 1; rw [Bool.eq_iff_iff, MapKept.bytes_beq, hb]; exact eq_comm
          · intro hh; rw [hb] at hh; rw [hh]
        · cases ht
    simp only [findA] at h
    split at h
    · rename_i hke
      obtain ⟨q1, q2⟩ := hs true hke
      simp only [Option.some.injEq] at h; subst h
      refine ⟨fun hh => (by cases hh), fun j v hh => ?_⟩
      simp only [Option.some.injEq, Prod.mk.injEq] at hh
      obtain ⟨rfl, rfl⟩ := hh
      exact ⟨e.val, e, (by simp only [Instr.findNow, q1]), h2, Nat.le_refl _, (by simp), q2 rfl⟩
    · rename_i hke
      obtain ⟨q1, _⟩ := hs false hke
      obtain ⟨r1, r2⟩ := findA_spec hk hd h4 h
      refine ⟨fun hh => (by simp only [Instr.findNow, q1]; exact r1 hh), fun j v hh => ?_⟩
      obtain ⟨u, e', g1, g2, g3, g4, g5⟩ := r2 j v hh
      refine ⟨u, e', (by simp only [Instr.findNow, q1]; exact g1), g2, (by omega), ?_, g5⟩
      rw [show j - i = (j - Nat.succ i) + 1 from by omega]; simpa using g4
    · cases h

theorem run_zeroA [Sy] {t : TypeId} {z : AV} (h : zeroA P t = some z) : ∃ v, (zeroValue t).run P w = .ok v w ∧ con ρ z = some v := by
  unfold zeroA at h
  split at h
  · rename_i i hi
    split at h
    · rename_i v hv
      exact ⟨v, zeroValue_run hi hv, con_ofValue h⟩
    · cases h
  · cases h

theorem pairV_con [Sy] {b c : Bool} {v : AV} {u : Value} (h : con ρ v = some u) : con ρ (pairV b v c) = some (if c then .tuple #[u, .bool b] else u) := by
  cases c with
  | true => simp only [pairV, con, conL, h, Option.bind_some, Option.map_some, if_true]
  | false => simpa [pairV] using h

theorem v_lookup_sound [Sy] (hr : Rep P N ρ σ w) (hg : Good ρ E ev o.op.operands.toList) {t : TypeId} {x k : Operand} {ok : Bool} (ho : o.op = .lookup t x k ok) (h : v_lookup P E σ t x k ok = some r) :
    VOk P N ρ σ w (execOp ev o) r := by
  have hexec : execOp ev o = (do pure (.value (← Instr.lookup t (ev x) (ev k) ok))) := by simp only [execOp, ho]
  unfold v_lookup at h
  split at h
  · rename_i m hm
    have em := hg.at (x := x) (by rw [ho]; simp [Op.operands]) hm
    split at h
    · rename_i es hes
      split at h
      · rename_i kv hk
        have ek := hg.at (x := k) (by rw [ho]; simp [Op.operands]) hk
        split at h
        · rename_i hf
          obtain ⟨kt, et, d, ht, hd, hkey, hcase⟩ := keyFits_spec hf ek
          have hmap : ∃ es' : Array MapEntry, EsRel ρ es es'.toList ∧ ((ev x = .map none ∧ es' = #[]) ∨ ∃ r c, ev x = .map (some r) ∧ w.heap[r]? = some (.map es' c)) := by
            unfold mapEs at hes
            split at hes
            · simp only [Option.some.injEq] at hes; subst hes
              exact ⟨#[], trivial, .inl ⟨con_lit em, rfl⟩⟩
            · rename_i b
              obtain ⟨L, hL, e⟩ := con_map em
              split at hes
              · rename_i es0 clock hb
                simp only [Option.some.injEq] at hes; subst hes
                obtain ⟨es', q1, q2⟩ := hr.mapBlk hb hL
                exact ⟨es', q2, .inr ⟨L.blk, clock, e, q1⟩⟩
              · cases hes
            · cases hes
          obtain ⟨es', hrel, hF⟩ := hmap
          have hck := MapKept.run_checkKey (P := P) (w := w) hd hkey es'.isEmpty 9999
          split at h
          · rename_i j v hfind
            simp only [Option.some.injEq] at h; subst h
            obtain ⟨_, h2⟩ := findA_spec ek hcase hrel hfind
            obtain ⟨u, e, g1, g2, _, _, _⟩ := h2 j v rfl
            refine VOk.same hr (pairV_con (b := true) (c := ok) g2) ?_
            have hlk : (Instr.lookup t (ev x) (ev k) ok).run P w = .ok (if ok then .tuple #[u, .bool true] else u) w := by
              rcases hF with ⟨e1, rfl⟩ | ⟨rr, c, e1, hb⟩
              · simp [e1, Instr.lookup, run_underlying ht, MapKept.run_checkKey (P := P) (w := w) hd hkey true 9999, MapKept.run_findKey (l := []) hd (by simpa using g1), Result.andThen]
              · simp [e1, Instr.lookup, run_underlying ht, MapKept.run_getObj_map hb, hck, MapKept.run_findKey hd g1, Result.andThen]
            simp only [hexec, Sem.run_bind, hlk, Result.andThen_ok, Sem.run_pure]
          · rename_i hfind
            split at h
            · rename_i kt' et' ht'
              rw [ht] at ht'; cases ht'
              split at h
              · rename_i z hz
                simp only [Option.some.injEq] at h; subst h
                obtain ⟨u, hzr, hzc⟩ := run_zeroA (ρ := ρ) (w := w) hz
                obtain ⟨h1, _⟩ := findA_spec ek hcase hrel hfind
                refine VOk.same hr (pairV_con (b := false) (c := ok) hzc) ?_
                have hlk : (Instr.lookup t (ev x) (ev k) ok).run P w = .ok (if ok then .tuple #[u, .bool false] else u) w := by
                  rcases hF with ⟨e1, rfl⟩ | ⟨rr, c, e1, hb⟩
                  · simp [e1, Instr.lookup, run_underlying ht, MapKept.run_checkKey (P := P) (w := w) hd hkey true 9999, MapKept.run_findKey (l := []) hd (by simpa using h1 rfl), hzr, Result.andThen]
                  · simp [e1, Instr.lookup, run_underlying ht, MapKept.run_getObj_map hb, hck, MapKept.run_findKey hd (h1 rfl), hzr, Result.andThen]
                simp only [hexec, Sem.run_bind, hlk, Result.andThen_ok, Sem.run_pure]
              · simp at h
            · simp at h
          · simp at h
        · simp at h
      · simp at h
    · simp at h
  · simp at h

theorem v_call_sound [Sy] (hr : Rep P N ρ σ w) (hg : Good ρ E ev o.op.operands.toList) {c : Call} (ho : o.op = .call c) (h : v_call P E σ o c = some r) :
    VOk P N ρ σ w (execOp ev o) r := by
  have hpure : pureA P E o = some r → VOk P N ρ σ w (execOp ev o) r := pureA_sound hr hg (by rw [ho]; simp)
  have hexec : execOp ev o = (do let d ← resolve ev c o.type; invoke d.target d.args) := by simp only [execOp, ho]
  unfold v_call at h
  split at h
  · rename_i hcal
    have hops : ∀ y ∈ c.args.toList, y ∈ o.op.operands.toList := fun y hy => by rw [ho]; simp [Op.operands, Call.operands]; right; simpa using hy
    split at h
    · rename_i x hargs
      have hx : ∀ a, E x = some a → con ρ a = some (ev x) := fun a ha => hg x (hops x (by rw [hargs]; simp)) a ha
      have hargs' : c.args = #[x] := by apply Array.ext'; simp [hargs]
      split at h
      · rename_i b off len cap sp ha
        obtain ⟨L, hL, e⟩ := con_sl (hx _ ha)
        split at h
        · rename_i t hat
          have hat' : c.argTypes = #[t] := by apply Array.ext'; simp [hat]
          split at h
          · rename_i hst
            obtain ⟨el, hel⟩ := isSliceT_spec hst
            simp only [Option.some.injEq] at h; subst h
            refine VOk.same hr (con_int' _ _ _) ?_
            rw [hexec]
            simp [resolve, hcal, hargs', hat', invoke, builtin, Builtin.len_, run_underlying hel, e, goInt]
          · simp at h
        · simp at h
      · rename_i l ha
        have e := con_str (hx _ ha)
        split at h
        · rename_i t hat
          have hat' : c.argTypes = #[t] := by apply Array.ext'; simp [hat]
          split at h
          · rename_i hst
            simp only [Option.some.injEq] at h; subst h
            refine VOk.same hr (con_int' _ _ _) ?_
            rw [hexec]
            simp [resolve, hcal, hargs', hat', invoke, builtin, Builtin.len_, run_underlying hst, e, goInt, size_bytesOf]
          · simp at h
        · simp at h
      · rename_i l ha
        obtain ⟨vs, bs, h1, h2, e⟩ := con_sstr (hx _ ha)
        have hlen : bs.length = l.length := by rw [bytesV_length h2, conL_length h1]
        split at h
        · rename_i t hat
          have hat' : c.argTypes = #[t] := by apply Array.ext'; simp [hat]
          split at h
          · rename_i hst
            simp only [Option.some.injEq] at h; subst h
            refine VOk.same hr (con_int' _ _ _) ?_
            rw [hexec]
            simp [resolve, hcal, hargs', hat', invoke, builtin, Builtin.len_, run_underlying hst, e, goInt, size_bytesOf, hlen]
          · simp at h
        · simp at h
      · exact hpure h
      · simp at h
    · simp at h
  · rename_i hcal
    have hops : ∀ y ∈ c.args.toList, y ∈ o.op.operands.toList := fun y hy => by rw [ho]; simp [Op.operands, Call.operands]; right; simpa using hy
    split at h
    · rename_i x hargs
      have hx : ∀ a, E x = some a → con ρ a = some (ev x) := fun a ha => hg x (hops x (by rw [hargs]; simp)) a ha
      have hargs' : c.args = #[x] := by apply Array.ext'; simp [hargs]
      split at h
      · rename_i b off len cap ha
        obtain ⟨L, hL, e⟩ := con_sl (hx _ ha)
        split at h
        · rename_i t hat
          have hat' : c.argTypes = #[t] := by apply Array.ext'; simp [hat]
          split at h
          · rename_i hst
            obtain ⟨el, hel⟩ := isSliceT_spec hst
            simp only [Option.some.injEq] at h; subst h
            refine VOk.same hr (con_int' _ _ _) ?_
            rw [hexec]
            simp [resolve, hcal, hargs', hat', invoke, builtin, Builtin.cap_, run_underlying hel, e, goInt, capOf]
          · simp at h
        · simp at h
      · simp at h
    · simp at h
  all_goals first | exact hpure h | (simp at h)

theorem aV_sound [Sy] (hr : Rep P N ρ σ w) (hg : Good ρ E ev o.op.operands.toList) (h : aV P E σ o = some r) : VOk P N ρ σ w (execOp ev o) r := by
  unfold aV at h
  split at h
  case h_1 x ho => exact VOk.same hr (hg.at (by rw [ho]; simp [Op.operands]) h) (by simp [execOp, ho])
  case h_2 x ho => exact VOk.same hr (hg.at (by rw [ho]; simp [Op.operands]) h) (by simp [execOp, ho])
  all_goals first
    | exact v_pick_sound hr hg ‹_› h
    | exact v_load_sound hr hg ‹_› h
    | exact v_nilCheck_sound hr hg ‹_› h
    | exact v_binOp_sound hr hg ‹_› h
    | exact v_unOp_sound hr hg ‹_› h
    | exact v_convert_sound hr hg ‹_› h
    | exact v_makeInterface_sound hr hg ‹_› h
    | exact v_makeFunc_sound hr hg ‹_› h
    | exact v_fieldAddr_sound hr hg ‹_› h
    | exact v_field_sound hr hg ‹_› h
    | exact v_indexAddr_sound hr hg ‹_› h
    | exact v_index_sound hr hg ‹_› h
    | exact v_slice_sound hr hg ‹_› h
    | exact v_build_sound hr hg ‹_› h
    | exact v_extract_sound hr hg ‹_› h
    | exact v_call_sound hr hg ‹_› h
    | exact v_lookup_sound hr hg ‹_› h
    | (simp at h)

end
end Go.Ev
