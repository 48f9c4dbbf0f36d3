import Derived.Test.YtinhlmelicmheaaGreatEv8
namespace Go.Ev
open Go

section
variable {P : Program} {N : Nat} {ρ : Ren} {σ : Heap} {w : World} {E : Operand → Option AV} {ev : Operand → Value} {o : Oper} {r : AV}

theorem v_makeInterface_sound [Sy] (hr : Rep P N ρ σ w) (hg : Good ρ E ev o.op.operands.toList) {t : TypeId} {x : Operand} (ho : o.op = .makeInterface t x) (h : v_makeInterface P E σ o t x = some r) :
    VOk P N ρ σ w (execOp ev o) r := by
  have hexec : execOp ev o = (do pure (.value (← Instr.makeInterface t (ev x)))) := by simp only [execOp, ho]
  unfold v_makeInterface at h
  split at h
  · simp at h
  · rename_i d hd2 hd1
    split at h
    · rename_i a ha
      simp only [Option.some.injEq] at h; subst h
      have hc := hg.at (x := x) (by rw [ho]; simp [Op.operands]) ha
      refine VOk.same hr (v := .iface t (ev x)) (by simp only [con, hc, Option.map_some]) ?_
      rw [hexec]
      have : (Instr.makeInterface t (ev x)).run P w = .ok (.iface t (ev x)) w := by
        simp only [Instr.makeInterface, Sem.run_bind, run_underlying hd1, Result.andThen_ok]
        first
          | rfl
          | (split
             · exact absurd rfl (hd2 _)
             · rfl)
      simp [this]
    · simp at h
  · simp at h

theorem v_makeFunc_sound [Sy] (hr : Rep P N ρ σ w) (hg : Good ρ E ev o.op.operands.toList) {fn : Fn} {xs ys : Array Operand} (ho : o.op = .makeFunc fn xs ys) (h : v_makeFunc P E σ o fn xs ys = some r) :
    VOk P N ρ σ w (execOp ev o) r := by
  unfold v_makeFunc at h
  split at h
  · rename_i as has
    split at h
    · rename_i bs hbs
      simp only [Option.some.injEq] at h; subst h
      have h1 := evos_con (ρ := ρ) (ev := ev) (fun x hx => hg x (by rw [ho]; simp [Op.operands]; exact .inl (by simpa using hx))) has
      have h2 := evos_con (ρ := ρ) (ev := ev) (fun x hx => hg x (by rw [ho]; simp [Op.operands]; exact .inr (by simpa using hx))) hbs
      refine VOk.same hr (v := .func fn (xs.map ev) (ys.map ev)) ?_ (by simp [execOp, ho, Instr.makeFunc])
      simp only [con, h1, h2, Option.bind_some, Option.map_some]
      congr 2 <;> (apply Array.ext'; simp)
    · simp at h
  · simp at h

theorem run_fieldPlace [Sy] {b off : Nat} {f : Field} {n : Nat} (hs : szOf P f.type = some n) (hn : n ≠ 0) : (fieldPlace ⟨b, off, none⟩ f).run P w = .ok ⟨b, off + f.offset, none⟩ w := by
  simp [fieldPlace, szOf_run hs, hn, Addr.add_lit]

theorem v_fieldAddr_sound [Sy] (hr : Rep P N ρ σ w) (hg : Good ρ E ev o.op.operands.toList) {s : TypeId} {x : Operand} {i : Nat} (ho : o.op = .fieldAddr s x i) (h : v_fieldAddr P E σ o s x i = some r) :
    VOk P N ρ σ w (execOp ev o) r := by
  have hexec : execOp ev o = (do pure (.value (← Instr.fieldAt s (ev x) i))) := by simp only [execOp, ho]
  unfold v_fieldAddr at h
  split at h
  · rename_i b off ha
    obtain ⟨L, hL, e⟩ := con_ptr (hg.at (x := x) (by rw [ho]; simp [Op.operands]) ha)
    split at h
    · rename_i fields hd
      split at h
      · rename_i f hf
        rw [nth_eq] at hf
        have hf' : fields[i]? = some f := by simpa using hf
        split at h
        · rename_i n hn
          split at h
          · simp at h
          · rename_i hz
            have hz' : n ≠ 0 := Nat.ne_of_beq_eq_false hz
            simp only [Option.some.injEq] at h; subst h
            refine VOk.same hr (v := .pointer (some ⟨L.blk, L.base + off + f.offset, none⟩)) (by simp only [con, hL, Option.map_some]; simp [Nat.add_assoc]) ?_
            rw [hexec, e]
            simp [Instr.fieldAt, run_underlying hd, hf', Instr.sureAddr, run_fieldPlace hn hz']
        · simp at h
      · simp at h
    · simp at h
  · simp at h

theorem v_field_sound [Sy] (hr : Rep P N ρ σ w) (hg : Good ρ E ev o.op.operands.toList) {s : TypeId} {x : Operand} {i : Nat} (ho : o.op = .field s x i) (h : v_field P E σ o s x i = some r) :
    VOk P N ρ σ w (execOp ev o) r := by
  have hexec : execOp ev o = (do pure (.value (← Instr.field s (ev x) i))) := by simp only [execOp, ho]
  unfold v_field at h
  split at h
  · rename_i cs ha
    obtain ⟨vs, hvs, e⟩ := con_agg (hg.at (x := x) (by rw [ho]; simp [Op.operands]) ha)
    split at h
    · rename_i fields hd
      split at h
      · rename_i f hf
        rw [nth_eq] at hf
        have hf' : fields[i]? = some f := by simpa using hf
        obtain ⟨v, hv, hrun⟩ := part_sound (w := w) hvs h
        refine VOk.same hr hv ?_
        rw [hexec, e]
        simp [Instr.field, run_underlying hd, hf', asAgg, hrun]
      · simp at h
    · simp at h
  · simp at h

theorem v_indexAddr_sound [Sy] (hr : Rep P N ρ σ w) (hg : Good ρ E ev o.op.operands.toList) {t : TypeId} {x ix : Operand} (ho : o.op = .indexAddr t x ix) (h : v_indexAddr P E σ o t x ix = some r) :
    VOk P N ρ σ w (execOp ev o) r := by
  have hexec : execOp ev o = (do pure (.value (← Instr.indexAt t (ev x) (ev ix)))) := by simp only [execOp, ho]
  unfold v_indexAddr at h
  split at h
  · rename_i b off len cap sp ha
    obtain ⟨L, hL, e⟩ := con_sl (hg.at (x := x) (by rw [ho]; simp [Op.operands]) ha)
    split at h
    · rename_i elem hd
      split at h
      · rename_i k i hi
        have e2 := con_int (hg.at (x := ix) (by rw [ho]; simp [Op.operands]) hi)
        split at h
        · rename_i hlt
          have hlt' := ble_t hlt
          split at h
          · rename_i s hs
            simp only [Option.some.injEq] at h; subst h
            refine VOk.same hr (v := .pointer (some ⟨L.blk, L.base + off + i * s, none⟩)) (by simp only [con, hL, Option.map_some]; simp [Nat.add_assoc]) ?_
            rw [hexec, e, e2]
            simp only [Sem.run_bind, Instr.indexAt, asIntOf, Sem.run_pure, Result.andThen_ok, run_underlying hd]
            simp [szOf_run hs, Addr.add_lit]
            omega
          · simp at h
        · simp at h
      · rename_i k q hi
        obtain ⟨m, hm, e2⟩ := con_sx (hg.at (x := ix) (by rw [ho]; simp [Op.operands]) hi)
        split at h
        · rename_i lo hi' hiv
          split at h
          · rename_i hlt
            have hlt' := ble_t hlt
            split at h
            · rename_i s hs
              simp only [Option.some.injEq] at h; subst h
              have hb := SE.iv_sound q hiv hm
              simp only [Int.ofNat_eq_natCast] at hb
              obtain ⟨i, rfl⟩ : ∃ i : Nat, m = i := ⟨m.toNat, by omega⟩
              refine VOk.same hr (v := .pointer (some ⟨L.blk, L.base + (off + i * s), none⟩)) (by simp only [con, hL, hm, Option.bind_some, natI_spec.2 rfl, Option.map_some]) ?_
              rw [hexec, e, e2]
              simp only [Sem.run_bind, Instr.indexAt, asIntOf, Sem.run_pure, Result.andThen_ok, run_underlying hd]
              have h0 : (0 : Int) ≤ (i : Int) ∧ (i : Int) < (len : Int) := by omega
              simp [szOf_run hs, Addr.add_lit]
              rw [if_pos (by omega)]; simp [Nat.add_assoc]
            · simp at h
          · simp at h
        · simp at h
      · simp at h
    · simp at h
  · rename_i b off ha
    obtain ⟨L, hL, e⟩ := con_ptr (hg.at (x := x) (by rw [ho]; simp [Op.operands]) ha)
    split at h
    · rename_i len elem hd
      split at h
      · rename_i k i hi
        have e2 := con_int (hg.at (x := ix) (by rw [ho]; simp [Op.operands]) hi)
        split at h
        · rename_i hlt
          have hlt' := ble_t hlt
          split at h
          · rename_i s hs
            simp only [Option.some.injEq] at h; subst h
            refine VOk.same hr (v := .pointer (some ⟨L.blk, L.base + off + i * s, none⟩)) (by simp only [con, hL, Option.map_some]; simp [Nat.add_assoc]) ?_
            rw [hexec, e, e2]
            simp only [Sem.run_bind, Instr.indexAt, asIntOf, Sem.run_pure, Result.andThen_ok, run_underlying hd, Instr.sureAddr]
            simp [szOf_run hs, Addr.add_lit]
            omega
          · simp at h
        · simp at h
      · simp at h
    · simp at h
  · simp at h

theorem nth_bytesOf [Sy] {l : List Nat} {i n : Nat} (h : nth l i = some n) : ∃ hi : i < (bytesOf l).size, ((bytesOf l)[i]).toNat = n % 256 := by
  rw [nth_eq] at h
  obtain ⟨hi, hn⟩ := List.getElem?_eq_some_iff.1 h
  refine ⟨by rw [size_bytesOf]; exact hi, ?_⟩
  simp [bytesOf, ByteArray.getElem_eq_getElem_data, hn, UInt8.toNat_ofNat']

theorem v_index_sound [Sy] (hr : Rep P N ρ σ w) (hg : Good ρ E ev o.op.operands.toList) {t : TypeId} {x ix : Operand} (ho : o.op = .index t x ix) (h : v_index P E σ o t x ix = some r) :
    VOk P N ρ σ w (execOp ev o) r := by
  have hexec : execOp ev o = (do pure (.value (← Instr.index t (ev x) (ev ix)))) := by simp only [execOp, ho]
  unfold v_index at h
  split at h
  · rename_i l ha
    have e := con_str (hg.at (x := x) (by rw [ho]; simp [Op.operands]) ha)
    split at h
    · rename_i hd
      split at h
      · rename_i k i hi
        have e2 := con_int (hg.at (x := ix) (by rw [ho]; simp [Op.operands]) hi)
        split at h
        · rename_i n hn
          simp only [Option.some.injEq] at h; subst h
          obtain ⟨hlt, hv⟩ := nth_bytesOf hn
          refine VOk.same hr (con_int' _ _ _) ?_
          rw [hexec, e, e2]
          have hget : (bytesOf l)[i]? = some (bytesOf l)[i] := ByteArray.getElem?_lt' _ _ hlt
          simp only [Sem.run_bind, Instr.index, asIntOf, Sem.run_pure, Result.andThen_ok, run_underlying hd]
          simp [hget, hv]
          show ((n : Int) % 256) = ((n % 256 : Nat) : Int)
          omega
        · simp at h
      · simp at h
    · simp at h
  · rename_i cs ha
    obtain ⟨vs, hvs, e⟩ := con_agg (hg.at (x := x) (by rw [ho]; simp [Op.operands]) ha)
    split at h
    · rename_i len elem hd
      split at h
      · rename_i k i hi
        have e2 := con_int (hg.at (x := ix) (by rw [ho]; simp [Op.operands]) hi)
        split at h
        · rename_i hlt
          have hlt' := ble_t hlt
          split at h
          · rename_i s hs
            obtain ⟨v, hv, hrun⟩ := part_sound (w := w) hvs h
            refine VOk.same hr hv ?_
            rw [hexec, e, e2]
            have hrun' : Sem.run P (part elem vs.toArray (i * s)) w = Result.ok v w := hrun
            have hc : (0 : Int) ≤ Int.ofNat i ∧ Int.ofNat i < (len : Int) := ⟨by simp, by simp; omega⟩
            simp only [Sem.run_bind, Instr.index, asIntOf, Sem.run_pure, Result.andThen_ok, run_underlying hd, if_pos hc]
            simp [szOf_run hs, hrun']
          · simp at h
        · simp at h
      · simp at h
    · simp at h
  · simp at h

theorem v_extract_sound [Sy] (hr : Rep P N ρ σ w) (hg : Good ρ E ev o.op.operands.toList) {x : Operand} {i : Nat} (ho : o.op = .extract x i) (h : v_extract P E σ o x i = some r) :
    VOk P N ρ σ w (execOp ev o) r := by
  unfold v_extract at h
  split at h
  · rename_i l ha
    obtain ⟨vs, hvs, e⟩ := con_tup (hg.at (x := x) (by rw [ho]; simp [Op.operands]) ha)
    rw [nth_eq] at h
    obtain ⟨v, hv, hc⟩ := conL_get hvs i r h
    refine VOk.same hr hc ?_
    simp [execOp, ho, e, Instr.extract, hv]
  · simp at h

theorem partsA_con [Sy] {ps : List (Nat × Operand)} : ∀ {l : List (Nat × AV)}, partsA E ps = some l → (∀ p ∈ ps, ∀ a, E p.2 = some a → con ρ a = some (ev p.2)) →
    l.map (·.1) = ps.map (·.1) ∧ conL ρ (l.map (·.2)) = some (ps.map fun p => ev p.2) := by
  induction ps with
  | nil => intro l h _; simp only [partsA, Option.some.injEq] at h; subst h; exact ⟨rfl, conL_nil ρ⟩
  | cons p ps ih =>
    intro l h hg
    obtain ⟨i, x⟩ := p
    simp only [partsA] at h
    split at h
    · rename_i a ha
      split at h
      · rename_i l' hl'
        simp only [Option.some.injEq] at h; subst h
        obtain ⟨h1, h2⟩ := ih hl' (fun p hp => hg p (by simp [hp]))
        exact ⟨by simp [h1], conL_cons.2 ⟨ev x, _, hg (i, x) (by simp) a ha, h2, rfl⟩⟩
      · simp at h
    · simp at h

theorem cellsA_con [Sy] {x : AV} {v : Value} (hs : (cellsA x).all scalar = true) (h : con ρ x = some v) : conL ρ (cellsA x) = some v.cells.toList := by
  cases x with
  | agg l => obtain ⟨vs, h1, rfl⟩ := con_agg h; simpa [cellsA, Value.cells] using h1
  | lit u =>
    obtain rfl := con_lit h
    have hu : v.oneCell' = true := by simpa [cellsA, scalar] using hs
    refine conL_cons.2 ⟨v, [], con_lit' _ _, conL_nil ρ, ?_⟩
    cases v <;> simp_all [Value.cells, Value.oneCell']
  | bool b => obtain rfl := con_bool h; exact conL_cons.2 ⟨_, [], h, conL_nil ρ, rfl⟩
  | int k n => obtain rfl := con_int h; exact conL_cons.2 ⟨_, [], h, conL_nil ρ, rfl⟩
  | sx k e => obtain ⟨n, _, rfl⟩ := con_sx h; exact conL_cons.2 ⟨_, [], h, conL_nil ρ, rfl⟩
  | spt b off s e => obtain ⟨L, i, _, _, rfl⟩ := con_spt h; exact conL_cons.2 ⟨_, [], h, conL_nil ρ, rfl⟩
  | sstr l => obtain ⟨vs, bs, _, _, rfl⟩ := con_sstr h; exact conL_cons.2 ⟨_, [], h, conL_nil ρ, rfl⟩
  | str l => obtain rfl := con_str h; exact conL_cons.2 ⟨_, [], h, conL_nil ρ, rfl⟩
  | ptr b off => obtain ⟨L, _, rfl⟩ := con_ptr h; exact conL_cons.2 ⟨_, [], h, conL_nil ρ, rfl⟩
  | sl b off len cap sp => obtain ⟨L, _, rfl⟩ := con_sl h; exact conL_cons.2 ⟨_, [], h, conL_nil ρ, rfl⟩
  | map b =>
    have h' := h
    simp only [con, Option.map_eq_some_iff] at h'
    obtain ⟨L, _, rfl⟩ := h'; exact conL_cons.2 ⟨_, [], h, conL_nil ρ, rfl⟩
  | func fn xs ys => obtain ⟨vs, us, _, _, rfl⟩ := con_func h; exact conL_cons.2 ⟨_, [], h, conL_nil ρ, rfl⟩
  | iface t x =>
    have h' := h
    simp only [con, Option.map_eq_some_iff] at h'
    obtain ⟨u, _, rfl⟩ := h'; exact conL_cons.2 ⟨_, [], h, conL_nil ρ, rfl⟩
  | tup l => simp [cellsA, scalar] at hs
  | bad => simp [con] at h

/-- A literal's parts laid into the zero cells: the model's own 'fill'. -/
theorem setMany_con [Sy] : ∀ (l : List AV) (us : List Value) (cells : List AV) (vs : List Value) (off j : Nat), conL ρ l = some us → conL ρ cells = some vs →
    conL ρ (fillA.setMany cells (off + j) l) = some ((us.zipIdx j).foldl (fun cs (c : Value × Nat) => cs.setIfInBounds (off + c.2) c.1) vs.toArray).toList
  | [], us, cells, vs, off, j, hl, hc => by
    simp only [conL, Option.some.injEq] at hl; subst hl
    simpa [fillA.setMany] using hc
  | x :: l, us, cells, vs, off, j, hl, hc => by
    obtain ⟨v, us', h1, h2, rfl⟩ := conL_cons.1 hl
    simp only [fillA.setMany, List.zipIdx_cons, List.foldl_cons]
    have := setMany_con l us' (cells.set (off + j) x) (vs.set (off + j) v) off (j + 1) h2 (conL_set hc h1 _)
    simpa [Nat.add_assoc] using this

theorem setMany_length : ∀ (l : List AV) (cells : List AV) (off : Nat), (fillA.setMany cells off l).length = cells.length
  | [], cells, off => rfl
  | x :: l, cells, off => by simp [fillA.setMany, setMany_length l]

theorem fillA_con [Sy] {place : Nat → Option (Nat × Nat)} : ∀ {ps : List (Nat × AV)} {cells : List AV} {vs us : List Value} {cs : List AV},
    fillA place cells ps = some cs → conL ρ cells = some vs → conL ρ (ps.map (·.2)) = some us →
    ∃ rs, conL ρ cs = some rs ∧ rs.length = vs.length ∧ Instr.fill place vs.toArray ((ps.map (·.1)).zip us) = some rs.toArray
  | [], cells, vs, us, cs, h, hc, hu => by
    simp only [fillA, Option.some.injEq] at h; subst h
    exact ⟨vs, hc, rfl, by simp [Instr.fill]⟩
  | (i, x) :: ps, cells, vs, us, cs, h, hc, hu => by
    obtain ⟨v, us', h1, h2, rfl⟩ := conL_cons.1 hu
    simp only [fillA] at h
    split at h
    · simp at h
    · rename_i off size hp
      split at h
      · simp at h
      · rename_i hlen
        split at h
        · simp at h
        · rename_i hfit
          split at h
          · simp at h
          · rename_i hsc
            have hcells := cellsA_con hsc h1
            have e1 : (cellsA x).length = size := Nat.eq_of_beq_eq_true hlen
            have e2 : off + size ≤ cells.length := by simpa using ble_t hfit
            have e3 := conL_length hcells
            have e4 := conL_length hc
            have hset := setMany_con (cellsA x) v.cells.toList cells vs off 0 hcells hc
            obtain ⟨rs, q1, q2, q3⟩ := fillA_con h hset h2
            have hlen2 : ∀ (l : List (Value × Nat)) (a : Array Value), (l.foldl (fun cs (c : Value × Nat) => cs.setIfInBounds (off + c.2) c.1) a).size = a.size := by
              intro l; induction l with
              | nil => intro a; rfl
              | cons y l ih => intro a; simp [ih]
            refine ⟨rs, q1, ?_, ?_⟩
            · rw [q2, Array.length_toList, hlen2]; simp
            · simp only [List.map_cons, List.zip_cons_cons, Instr.fill, hp]
              rw [if_neg]
              · have e5 : (v.cells.zipIdx.foldl (fun cs (x : Value × Nat) => match x with | (c, j) => cs.setIfInBounds (off + j) c) vs.toArray) =
                    ((v.cells.toList.zipIdx 0).foldl (fun cs (c : Value × Nat) => cs.setIfInBounds (off + c.2) c.1) vs.toArray).toList.toArray := by
                  rw [← Array.foldl_toList]; simp
                rw [e5]; exact q3
              · have : v.cells.size = size := by rw [← Array.length_toList, e3, e1]
                simp [this]; rw [e4]; exact e2

theorem placesA_run [Sy] : ∀ {fs : List Field} {ps : List (Nat × Nat)}, placesA P fs = some ps → (fs.mapM fun f => (do pure (f.offset, ← sizeOf f.type) : Sem (Nat × Nat))).run P w = .ok ps w
  | [], ps, h => by simp only [placesA, Option.some.injEq] at h; subst h; simp
  | f :: fs, ps, h => by
    simp only [placesA] at h
    split at h
    · rename_i s hs
      split at h
      · rename_i l hl
        simp only [Option.some.injEq] at h; subst h
        have ih := placesA_run hl
        simp only [List.mapM_cons, Sem.run_bind, szOf_run hs, Result.andThen_ok, Sem.run_pure, ih]
      · simp at h
    · simp at h

theorem ofV_scalar {v : Value} {x : AV} (h : ofV v = some x) : scalar x = true ∧ cellsA x = [x] := by
  unfold ofV at h
  split at h <;> simp only [Option.some.injEq, reduceCtorEq] at h <;> subst h <;> exact ⟨rfl, rfl⟩

theorem ofVs_scalar [Sy] : ∀ {l : List Value} {xs : List AV}, ofVs l = some xs → xs.all scalar = true
  | [], xs, h => by simp only [ofVs, Option.some.injEq] at h; subst h; rfl
  | v :: l, xs, h => by
    simp only [ofVs] at h
    split at h
    · rename_i x hx
      split at h
      · rename_i ys hys
        simp only [Option.some.injEq] at h; subst h
        simp only [List.all_cons, (ofV_scalar hx).1, ofVs_scalar hys, Bool.and_self]
      · simp at h
    · simp at h

theorem ofV_cells {v : Value} {x : AV} (h : ofV v = some x) : v.cells = #[v] := by
  cases v <;> first | rfl | (simp [ofV] at h)

/-- A type's zero value, cell by cell. -/
theorem zeroL_cells [Sy] {t : TypeId} {z : List AV} (h : zeroL P t = some z) :
    ∃ i v, P.info? t = some i ∧ i.zero = some v ∧ z.all scalar = true ∧ ∀ ρ : Ren, conL ρ z = some v.cells.toList := by
  unfold zeroL at h
  split at h
  · rename_i i hi
    split at h
    · rename_i v hv
      unfold zeroC at h
      split at h
      · exact ⟨i, _, hi, hv, ofVs_scalar h, fun ρ => by simpa [Value.cells] using conL_ofVs h⟩
      · split at h
        · rename_i x hx
          simp only [Option.some.injEq] at h; subst h
          refine ⟨i, _, hi, hv, by simp [(ofV_scalar hx).1], fun ρ => ?_⟩
          rw [ofV_cells hx]
          exact conL_cons.2 ⟨_, [], con_ofV hx, conL_nil ρ, rfl⟩
        · simp at h
    · simp at h
  · simp at h

theorem zeroValue_run {t : TypeId} {i : TypeInfo} {v : Value} (hi : P.info? t = some i) (hv : i.zero = some v) : (zeroValue t).run P w = .ok v w := by
  simp [zeroValue, typeInfo, hi, hv]

end
end Go.Ev
