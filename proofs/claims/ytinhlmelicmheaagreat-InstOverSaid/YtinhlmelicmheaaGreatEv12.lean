import Derived.Test.YtinhlmelicmheaaGreatEv11
namespace Go.Ev
open Go

section
variable {P : Program} {N : Nat} {ρ : Ren} {σ : Heap} {w : World} {E : Operand → Option AV} {o : Oper}

/-! ## Stores -/

def setBlk (w : World) (k : Nat) (o : Obj) : World := { w with heap := w.heap.setIfInBounds k o }

theorem setBlk_same {k : Nat} {o : Obj} (h : w.heap[k]? = some o) : setBlk w k o = w := by
  unfold setBlk
  have : w.heap.setIfInBounds k o = w.heap := by
    apply Array.ext_getElem?
    intro j
    rw [Array.getElem?_setIfInBounds]
    by_cases hj : k = j
    · subst hj
      obtain ⟨hlt, hget⟩ := Array.getElem?_eq_some_iff.1 h
      simp [hlt, hget]
    · rw [if_neg hj]
  rw [this]

theorem setBlk_get {k : Nat} {o o' : Obj} (h : w.heap[k]? = some o') : (setBlk w k o).heap[k]? = some o := by
  have hlt : k < w.heap.size := (Array.getElem?_eq_some_iff.1 h).1
  simp [setBlk, hlt]

theorem setBlk_ne {k j : Nat} {o : Obj} (h : j ≠ k) : (setBlk w k o).heap[j]? = w.heap[j]? := by
  simp only [setBlk, Array.getElem?_setIfInBounds]
  rw [if_neg (by omega)]

theorem setBlk_size {k : Nat} {o : Obj} : (setBlk w k o).heap.size = w.heap.size := by simp [setBlk]

theorem setBlk_twice {k : Nat} {o o' : Obj} : setBlk (setBlk w k o) k o' = setBlk w k o' := by
  unfold setBlk
  congr 1
  apply Array.ext_getElem?
  intro j
  simp only [Array.getElem?_setIfInBounds, Array.size_setIfInBounds]
  by_cases hj : k = j
  · subst hj; simp
  · simp [hj]

theorem setCell_blk {k off : Nat} {v : Value} {c : Array Value} {e : TypeId} {f : Nat × Nat} (h : w.heap[k]? = some (.cells c e f)) :
    w.setCell ⟨k, off, none⟩ v = setBlk w k (.cells (c.setIfInBounds off v) e f) := by
  unfold World.setCell setBlk
  congr 1
  apply Array.ext_getElem?
  intro j
  rw [Array.getElem?_modify, Array.getElem?_setIfInBounds]
  by_cases hj : k = j
  · subst hj
    obtain ⟨hlt, hget⟩ := Array.getElem?_eq_some_iff.1 h
    simp [hget, hlt]
  · rw [if_neg hj, if_neg hj]

def writeAll (c : Array Value) (k : Nat) : List Value → Array Value
  | [] => c
  | v :: l => writeAll (c.setIfInBounds k v) (k + 1) l

theorem writeAll_size : ∀ (l : List Value) (c : Array Value) (k : Nat), (writeAll c k l).size = c.size
  | [], _, _ => rfl
  | v :: l, c, k => by simp [writeAll, writeAll_size l]

theorem writeAll_get : ∀ (l : List Value) (c : Array Value) (k j : Nat), k + l.length ≤ c.size → (writeAll c k l)[j]? = if k ≤ j ∧ j < k + l.length then l[j - k]? else c[j]?
  | [], c, k, j, _ => by simp only [writeAll, List.length_nil]; rw [if_neg (by omega)]
  | v :: l, c, k, j, h => by
    simp only [writeAll, List.length_cons] at h ⊢
    rw [writeAll_get l _ _ _ (by simp; omega)]
    by_cases h1 : j = k
    · subst h1
      rw [if_neg (by omega), if_pos (by omega)]
      have hj : j < c.size := by omega
      simp [hj]
    · by_cases h2 : k + 1 ≤ j ∧ j < k + 1 + l.length
      · rw [if_pos h2, if_pos (by omega)]
        have : j - k = (j - (k + 1)) + 1 := by omega
        rw [this]; simp
      · rw [if_neg h2, if_neg (by omega), Array.getElem?_setIfInBounds_ne (by omega)]

theorem run_storeCells [Sy] {k off : Nat} {e : TypeId} {f : Nat × Nat} : ∀ (vs : List Value) (i : Nat) (w : World) (c : Array Value), w.heap[k]? = some (.cells c e f) → off + i + vs.length ≤ c.size →
    (f.1 = f.2 ∨ c.size ≤ f.1) → (∀ v ∈ vs, v.oneCell' = true) → (storeCells ⟨k, off, none⟩ vs i).run P w = .ok () (setBlk w k (.cells (writeAll c (off + i) vs) e f))
  | [], i, w, c, hc, _, _, _ => by simp only [storeCells, Sem.run_pure, writeAll]; rw [setBlk_same hc]
  | v :: vs, i, w, c, hc, hle, hf, hs => by
    simp only [List.length_cons] at hle
    have hlt : off + i < c.size := by omega
    have hcell : w.cell? ⟨k, off + i, none⟩ = some c[off + i] := by simp [World.cell?, hc, hlt]
    have hfr : w.frozen? ⟨k, off + i, none⟩ = false := by
      simp only [World.frozen?, hc]
      rcases hf with hf | hf
      · simp; omega
      · simp; omega
    have hst : (store ((⟨k, off, none⟩ : Addr).add i) v).run P w = .ok () (setBlk w k (.cells (c.setIfInBounds (off + i) v) e f)) := by
      rw [Addr.add_lit, run_store P w _ v .plain (hs v (by simp)), hcell]
      simp only [hfr, Bool.false_eq_true, if_false]
      rw [setCell_blk hc]
    simp only [storeCells, Sem.run_bind, hst, Result.andThen_ok]
    rw [run_storeCells vs (i + 1) (setBlk w k (.cells (c.setIfInBounds (off + i) v) e f)) (c.setIfInBounds (off + i) v) (setBlk_get hc) (by simp; omega) (by simpa using hf) (fun u hu => hs u (by simp [hu]))]
    rw [setBlk_twice]
    simp [writeAll, Nat.add_assoc]

theorem scalar_one [Sy] {x : AV} {v : Value} (hs : scalar x = true) (h : con ρ x = some v) : v.oneCell' = true := by
  cases x with
  | agg l => simp [scalar] at hs
  | tup l => simp [scalar] at hs
  | bad => simp [scalar] at hs
  | lit u => obtain rfl := con_lit h; simpa [scalar] using hs
  | bool b => obtain rfl := con_bool h; rfl
  | int k n => obtain rfl := con_int h; rfl
  | sx k e => obtain ⟨n, _, rfl⟩ := con_sx h; rfl
  | spt b off s e => obtain ⟨L, i, _, _, rfl⟩ := con_spt h; rfl
  | sstr l => obtain ⟨vs, bs, _, _, rfl⟩ := con_sstr h; rfl
  | str l => obtain rfl := con_str h; rfl
  | ptr b off => obtain ⟨L, _, rfl⟩ := con_ptr h; rfl
  | sl b off len cap sp => obtain ⟨L, _, rfl⟩ := con_sl h; rfl
  | map b => simp only [con, Option.map_eq_some_iff] at h; obtain ⟨L, _, rfl⟩ := h; rfl
  | func fn xs ys => obtain ⟨vs, us, _, _, rfl⟩ := con_func h; rfl
  | iface t x => simp only [con, Option.map_eq_some_iff] at h; obtain ⟨u, _, rfl⟩ := h; rfl

theorem scalars_one [Sy] : ∀ {l : List AV} {vs : List Value}, l.all scalar = true → conL ρ l = some vs → ∀ v ∈ vs, v.oneCell' = true
  | [], vs, _, h, v, hv => by simp only [conL, Option.some.injEq] at h; subst h; simp at hv
  | x :: l, vs, hs, h, v, hv => by
    obtain ⟨u, us, h1, h2, rfl⟩ := conL_cons.1 h
    simp only [List.all_cons, Bool.and_eq_true] at hs
    rcases List.mem_cons.1 hv with rfl | hv
    · exact scalar_one hs.1 h1
    · exact scalars_one hs.2 h2 v hv

/-- One named block is turned. -/
theorem Rep.setBlock [Sy] (h : Rep P N ρ σ w) {b : Nat} {B B' : ABlk} {L : Loc} {o : Obj} (hb : σ.get b = some B) (hL : ρ b = some L) (hB : BlkRel P ρ L B' o) :
    Ext P N ρ σ w ρ (σ.set b B') (setBlk w L.blk o) := by
  have hlt : b < σ.next := by
    rcases Nat.lt_or_ge b σ.next with h' | h'
    · exact h'
    · rw [h.fresh b h'] at hL; cases hL
  refine ⟨fun _ _ => rfl, Nat.le_refl _, fun b' hb' hn => ?_, ?_, ?_⟩
  · rw [Heap.get_set, if_neg]; intro e; subst e; rw [hn] at hL; cases hL
  · constructor
    · intro b' B1 L1 hb1 hL1
      rw [Heap.get_set] at hb1
      by_cases e : b = b'
      · subst e
        rw [if_pos rfl] at hb1; cases hb1
        rw [hL] at hL1; cases hL1
        obtain ⟨o', ho', _⟩ := h.blk b B L hb hL
        exact ⟨o, setBlk_get ho', hB⟩
      · rw [if_neg e] at hb1
        obtain ⟨o', ho', hr⟩ := h.blk b' B1 L1 hb1 hL1
        refine ⟨o', ?_, hr⟩
        rw [setBlk_ne]; exact ho'
        intro e2; exact e (h.inj b b' B B1 L L1 hb hb1 hL hL1 e2.symm)
    · intro b1 b2 B1 B2 L1 L2 h1 h2 h3 h4 h5
      have get' : ∀ b1 B1, (σ.set b B').get b1 = some B1 → ∃ B0, σ.get b1 = some B0 := fun b1 B1 hh => by
        rw [Heap.get_set] at hh
        by_cases e : b = b1
        · subst e; exact ⟨B, hb⟩
        · rw [if_neg e] at hh; exact ⟨B1, hh⟩
      obtain ⟨C1, g1⟩ := get' b1 B1 h1
      obtain ⟨C2, g2⟩ := get' b2 B2 h2
      exact h.inj b1 b2 C1 C2 L1 L2 g1 g2 h3 h4 h5
    · intro b' L' hL'; rw [setBlk_size]; exact h.low b' L' hL'
    · exact h.fresh
    · intro b' hb'; rw [Heap.get_set, if_neg (by simp at hb'; omega)]; exact h.freshσ b' hb'
    · rw [setBlk_size]; exact h.room
  · exact ⟨rfl, rfl, rfl, by rw [setBlk_size]; exact Nat.le_refl _, fun k hk => setBlk_ne (by have := (h.low b L hL).1; omega)⟩

theorem storeCellsA_run [Sy] (hr : Rep P N ρ σ w) {b off : Nat} {l : List AV} {vs : List Value} {σ' : Heap} (h : storeCellsA σ b off l = some σ') (hl : conL ρ l = some vs) {L : Loc} (hL : ρ b = some L) :
    ∃ w', (storeCells ⟨L.blk, L.base + off, none⟩ vs).run P w = .ok () w' ∧ Ext P N ρ σ w ρ σ' w' := by
  unfold storeCellsA at h
  split at h
  · rename_i n t dz e sp hb
    split at h
    · rename_i hle
      have hle' : off + l.length ≤ n := ble_t hle
      split at h
      · rename_i hsc
        simp only [Option.some.injEq] at h; subst h
        obtain ⟨c, f, hc, h1, h2, h3, h4⟩ := hr.cells hb hL
        have hlen := conL_length hl
        refine ⟨_, run_storeCells vs 0 w c hc (by omega) h4 (scalars_one hsc hl), hr.setBlock hb hL ?_⟩
        refine ⟨_, f, rfl, by rw [writeAll_size]; exact h1, h2, fun i hi => ?_, by rw [writeAll_size]; exact h4⟩
        rw [writeAll_get _ _ _ _ (by omega)]
        by_cases hin : off ≤ i ∧ i < off + l.length
        · rw [if_pos (by omega)]
          have hi2 : i - off < l.length := by omega
          obtain ⟨v, hv, hcv⟩ := conL_get hl (i - off) l[i - off] (List.getElem?_eq_getElem hi2)
          refine ⟨l[i - off], v, ?_, hcv, ?_⟩
          · unfold cget
            rw [Tr.at0_ofList, if_pos hin, List.getElem?_eq_getElem hi2]
          · rw [show L.base + i - (L.base + off + 0) = i - off from by omega]; exact hv
        · rw [if_neg (by omega)]
          obtain ⟨av, v, e1, e2, e3⟩ := h3 i hi
          refine ⟨av, v, ?_, e2, e3⟩
          unfold cget at e1 ⊢
          rw [Tr.at0_ofList, if_neg hin]; exact e1
      · simp at h
    · simp at h
  · simp at h

/-- What an operation does that may turn what is there. -/
def EOk [Sy] (P : Program) (N : Nat) (ρ : Ren) (σ : Heap) (w : World) (o : Oper) (a : Act) (r : AV) (σ' : Heap) : Prop :=
  ∀ (K : Act → World → Prop) (Q : Exit → Act → World → Prop), (∀ ρ' v w', Ext P N ρ σ w ρ' σ' w' → con ρ' r = some v → K (a.put o.dst v) w') → o.wp P a w K Q

theorem con_unit [Sy] : con ρ (.tup []) = some undef := by simp only [con, conL, Option.map_some]; rfl

/-- A cell is written at a place known by its bounds. -/
theorem storeS_run [Sy] (hr : Rep P N ρ σ w) {t : TypeId} {b off s : Nat} {e : SE} {x : AV} {v : Value} {σ' : Heap} (h : storeS P σ t b off s e x = some σ') (hx : con ρ x = some v) {L : Loc} (hL : ρ b = some L) {i : Nat} (hi : e.eval = some (.ofNat i)) :
    ∃ w', szOf P t = some 1 ∧ v.cells.size = 1 ∧ (storeCells ⟨L.blk, L.base + (off + i * s), none⟩ v.cells.toList).run P w = .ok () w' ∧ Ext P N ρ σ w ρ σ' w' := by
  unfold storeS at h
  split at h
  · rename_i hsz
    split at h
    · rename_i y hy
      split at h
      · rename_i hsc
        have hsc' : (cellsA x).all scalar = true := by rw [hy]; simp [hsc]
        have hcells := cellsA_con hsc' hx
        rw [hy] at hcells
        obtain ⟨u, us, hu, hus, hcl⟩ := conL_cons.1 hcells
        simp only [conL, Option.some.injEq] at hus; subst hus
        have hone := scalar_one hsc hu
        have fin : ∀ (n : Nat) (t0 : Tr AV) (dz : Option AV) (el : TypeId) (sp : Bool) (ws : List SW) (B : ABlk) (c : Array Value) (f : Nat × Nat), σ.get b = some B → w.heap[L.blk]? = some (.cells c el f) →
            c.size = L.base + n + L.spare * P.cellsOf el → (sp = false → L.spare = 0) → (∀ i, i < n → ∃ av v, oget t0 dz ws i = some av ∧ con ρ av = some v ∧ c[L.base + i]? = some v) → (f.1 = f.2 ∨ c.size ≤ f.1) → (∀ x, x ∈ ws → ∃ i : Nat, x.e.eval = some (.ofNat i)) →
            inP n off s e = true → σ' = σ.set b (.ov n t0 dz el sp (⟨off, s, e, y⟩ :: ws)) →
            ∃ w', szOf P t = some 1 ∧ v.cells.size = 1 ∧ (storeCells ⟨L.blk, L.base + (off + i * s), none⟩ v.cells.toList).run P w = .ok () w' ∧ Ext P N ρ σ w ρ σ' w' := by
          intro n t0 dz el sp ws B c f hb hc h1 h2 h3 h4 h5 hin hσ
          subst hσ
          have hlt := inP_spec hin hi
          have hrun := run_storeCells (P := P) (k := L.blk) (off := L.base + (off + i * s)) [u] 0 w c hc (by simp; omega) h4 (by simpa using hone)
          refine ⟨_, hsz, by rw [← Array.length_toList, hcl]; rfl, by rw [hcl]; exact hrun, hr.setBlock hb hL ?_⟩
          have hw : writeAll c (L.base + (off + i * s) + 0) [u] = c.setIfInBounds (L.base + (off + i * s)) u := rfl
          rw [hw]
          refine ⟨_, f, rfl, by simpa using h1, h2, fun j hj => ?_, by simpa using h4, fun x hx => ?_⟩
          · simp only [oget, SW.place_eq (x := ⟨off, s, e, y⟩) hi]
            by_cases hij : off + i * s = j
            · subst hij
              rw [if_pos rfl]
              refine ⟨y, u, rfl, hu, ?_⟩
              have : L.base + (off + i * s) < c.size := by omega
              simp [this]
            · rw [if_neg (by simpa using hij)]
              obtain ⟨av, v', e1, e2, e3⟩ := h3 j hj
              exact ⟨av, v', e1, e2, by rw [Array.getElem?_setIfInBounds_ne (by omega)]; exact e3⟩
          · rcases List.mem_cons.1 hx with rfl | hx
            · exact ⟨i, hi⟩
            · exact h5 x hx
        split at h
        · rename_i n t0 dz el sp hb
          split at h
          · rename_i hin
            simp only [Option.some.injEq] at h
            obtain ⟨c, f, hc, h1, h2, h3, h4⟩ := hr.cells hb hL
            exact fin n t0 dz el sp [] _ c f hb hc h1 h2 (fun i hi => by simpa only [oget] using h3 i hi) h4 (fun x hx => by simp at hx) hin h.symm
          · cases h
        · rename_i n t0 dz el sp ws hb
          split at h
          · rename_i hin
            simp only [Option.some.injEq] at h
            obtain ⟨c, f, hc, h1, h2, h3, h4, h5⟩ := hr.ov hb hL
            exact fin n t0 dz el sp ws _ c f hb hc h1 h2 h3 h4 h5 hin h.symm
          · cases h
        · cases h
      · cases h
    · cases h
  · cases h

theorem e_store_sound [Sy] {F : CallF} {a : Act} (hr : Rep P N ρ σ w) (hg : Good ρ E a.eval o.op.operands.toList) {t : TypeId} {x y : Operand} {r : AV} {σ' : Heap} (ho : o.op = .store t x y)
    (h : e_store P F E σ t x y = some (r, σ')) : EOk P N ρ σ w o a r σ' := by
  unfold e_store at h
  split at h
  · rename_i b off ha
    obtain ⟨L, hL, e⟩ := con_ptr (hg.at (x := x) (by rw [ho]; simp [Op.operands]) ha)
    split at h
    · rename_i v hv
      have hc := hg.at (x := y) (by rw [ho]; simp [Op.operands]) hv
      split at h
      · rename_i σ1 hs
        simp only [Option.some.injEq, Prod.mk.injEq] at h
        obtain ⟨rfl, rfl⟩ := h
        unfold storeA at hs
        split at hs
        · rename_i s hsz
          split at hs
          · rename_i hlen
            have hlen' : (cellsA v).length = s := Nat.eq_of_beq_eq_true hlen
            have hsc : (cellsA v).all scalar = true := by
              unfold storeCellsA at hs
              split at hs
              · split at hs
                · split at hs
                  · assumption
                  · simp at hs
                · simp at hs
              · simp at hs
            have hcells := cellsA_con hsc hc
            obtain ⟨w', hrun, hext⟩ := storeCellsA_run hr hs hcells hL
            intro K Q hK
            have hsize : (a.eval y).cells.size = s := by rw [← Array.length_toList, conL_length hcells, hlen']
            have hrun' : (Instr.storeAt t (a.eval x) (a.eval y)).run P w = .ok () w' := by
              rw [e]
              simp only [Instr.storeAt, Instr.sureAddr, storeVar, Sem.run_bind, Sem.run_pure, Result.andThen_ok, szOf_run hsz]
              rw [if_neg (by simp [hsize])]
              simpa using hrun
            simp only [Oper.wp, execOp, ho, Sem.run_bind, hrun', Result.andThen_ok, Sem.run_pure, Oper.upon]
            exact hK ρ undef w' hext con_unit
          · simp at hs
        · simp at hs
      · simp at h
    · simp at h
  · rename_i b off s q ha
    obtain ⟨L, i, hL, hi, e⟩ := con_spt (hg.at (x := x) (by rw [ho]; simp [Op.operands]) ha)
    split at h
    · rename_i v hv
      have hc := hg.at (x := y) (by rw [ho]; simp [Op.operands]) hv
      split at h
      · rename_i σ1 hs
        simp only [Option.some.injEq, Prod.mk.injEq] at h
        obtain ⟨rfl, rfl⟩ := h
        obtain ⟨w', hsz, hsize, hrun, hext⟩ := storeS_run hr hs hc hL hi
        intro K Q hK
        have hrun' : (Instr.storeAt t (a.eval x) (a.eval y)).run P w = .ok () w' := by
          rw [e]
          simp only [Instr.storeAt, Instr.sureAddr, storeVar, Sem.run_bind, Sem.run_pure, Result.andThen_ok, szOf_run hsz]
          rw [if_neg (by simp [hsize])]
          simpa using hrun
        simp only [Oper.wp, execOp, ho, Sem.run_bind, hrun', Result.andThen_ok, Sem.run_pure, Oper.upon]
        exact hK ρ undef w' hext con_unit
      · simp at h
    · simp at h
  · simp at h

/-! Maps are written. -/

theorem EsRel.setV [Sy] {k v : AV} {kv vv : Value} (hk : con ρ k = some kv) (hv : con ρ v = some vv) : ∀ {es : List (AV × AV × Nat)} {es' : List MapEntry} (i : Nat), EsRel ρ es es' →
    EsRel ρ (setV k v i es) (es'.modify i fun e => { e with key := kv, val := vv })
  | [], [], i, _ => by cases i <;> exact trivial
  | [], _ :: _, _, h => h.elim
  | _ :: _, [], _, h => h.elim
  | (k0, v0, b0) :: l, e :: l', 0, ⟨h1, h2, h3, h4⟩ => by
    simp only [Go.Ev.setV, List.modify_zero_cons]
    exact ⟨hk, hv, h3, h4⟩
  | (k0, v0, b0) :: l, e :: l', i + 1, ⟨h1, h2, h3, h4⟩ => by
    simp only [Go.Ev.setV, List.modify_succ_cons]
    exact ⟨h1, h2, h3, EsRel.setV hk hv i h4⟩

theorem EsRel.push [Sy] {k v : AV} {kv vv : Value} (hk : con ρ k = some kv) (hv : con ρ v = some vv) (c : Nat) : ∀ {es : List (AV × AV × Nat)} {es' : List MapEntry}, EsRel ρ es es' →
    EsRel ρ (es ++ [(k, v, c)]) (es' ++ [{ key := kv, val := vv, born := c }])
  | [], [], _ => ⟨hk, hv, rfl, trivial⟩
  | [], _ :: _, h => h.elim
  | _ :: _, [], h => h.elim
  | (k0, v0, b0) :: l, e :: l', ⟨h1, h2, h3, h4⟩ => ⟨h1, h2, h3, EsRel.push hk hv c h4⟩

theorem e_mapUpdate_sound [Sy] {a : Act} (hr : Rep P N ρ σ w) (hg : Good ρ E a.eval o.op.operands.toList) {t : TypeId} {m k x : Operand} {r : AV} {σ' : Heap} (ho : o.op = .mapUpdate t m k x)
    (h : e_mapUpdate P E σ t m k x = some (r, σ')) : EOk P N ρ σ w o a r σ' := by
  unfold e_mapUpdate at h
  split at h
  · rename_i b hm
    obtain ⟨L, hL, em⟩ := con_map (hg.at (x := m) (by rw [ho]; simp [Op.operands]) hm)
    split at h
    · rename_i kv hk
      have ek := hg.at (x := k) (by rw [ho]; simp [Op.operands]) hk
      split at h
      · rename_i hf
        obtain ⟨kt, et, d, ht, hd, hkey, hcase⟩ := keyFits_spec hf ek
        split at h
        · rename_i v hv
          have ev := hg.at (x := x) (by rw [ho]; simp [Op.operands]) hv
          split at h
          · rename_i es clock hb
            obtain ⟨es', hobj, hrel⟩ := hr.mapBlk hb hL
            have hck := MapKept.run_checkKey (P := P) (w := w) hd hkey false 9999
            have fin : ∀ (B : ABlk) (o' : Obj), BlkRel P ρ L B o' → (Instr.mapUpdate t (a.eval m) (a.eval k) (a.eval x)).run P w = .ok () (setBlk w L.blk o') → r = .tup [] → σ' = σ.set b B → EOk P N ρ σ w o a r σ' := by
              intro B o' hB hrun hr1 hr2
              subst hr1; subst hr2
              intro K Q hK
              simp only [Oper.wp, execOp, ho, Sem.run_bind, hrun, Result.andThen_ok, Sem.run_pure, Oper.upon]
              exact hK ρ undef _ (hr.setBlock hb hL hB) con_unit
            split at h
            · rename_i i q hfind
              simp only [Option.some.injEq, Prod.mk.injEq] at h
              obtain ⟨_, h2⟩ := findA_spec ek hcase hrel hfind
              obtain ⟨u, e0, g1, g2, _, g4, g5⟩ := h2 i q rfl
              have hkeep : (((es'[i]?).map (·.key)).getD (a.eval k)) = a.eval k := by
                have : es'[i]? = some e0 := by simpa using g4
                simp [this, g5]
              refine fin (.map (setV kv v i es) clock) (.map (es'.modify i fun e => { e with key := a.eval k, val := a.eval x }) clock) ⟨_, rfl, ?_⟩ ?_ h.1.symm h.2.symm
              · rw [Array.toList_modify]; exact EsRel.setV ek ev i hrel
              · rw [em]
                simp only [Instr.mapUpdate, Sem.run_bind, run_underlying ht, Result.andThen_ok, MapKept.run_getObj_map hobj, hck, MapKept.run_findKey hd g1, hkeep, MapKept.run_keyThatStays hkey, MapKept.run_setObj_map _ hobj]
                rfl
            · rename_i hfind
              simp only [Option.some.injEq, Prod.mk.injEq] at h
              obtain ⟨h1, _⟩ := findA_spec ek hcase hrel hfind
              refine fin (.map (es ++ [(kv, v, clock)]) (Nat.succ clock)) (.map (es'.push { key := a.eval k, val := a.eval x, born := clock }) (clock + 1)) ⟨_, rfl, ?_⟩ ?_ h.1.symm h.2.symm
              · rw [Array.toList_push]; exact EsRel.push ek ev clock hrel
              · rw [em]
                simp only [Instr.mapUpdate, Sem.run_bind, run_underlying ht, Result.andThen_ok, MapKept.run_getObj_map hobj, hck, MapKept.run_findKey hd (h1 rfl), MapKept.run_setObj_map _ hobj]
                rfl
            · simp at h
          · simp at h
        · simp at h
      · simp at h
    · simp at h
  · simp at h

end
end Go.Ev
