import Derived.Test.YtinhlmelicmheaaGreatEv10
import Derived.Lib.ConvBytes
namespace Go.Ev
open Go

section
variable {P : Program} {N : Nat} {ρ : Ren} {σ : Heap} {w : World} {E : Operand → Option AV} {ev : Operand → Value} {o : Oper}

/-- What an operation gives that makes a block, or names a place anew. -/
def NOk [Sy] (P : Program) (N : Nat) (ρ : Ren) (w : World) (s : Sem Next) (mk : Nat → AV) : Option ABlk → Prop
  | some B => ∃ v obj spare w1, s.run P w = .ok (.value v) (w1.alloc obj) ∧ (∀ σ, Rep P N ρ σ w → Rep P N ρ σ w1) ∧ RowKit.Below N w w1 ∧ w1.heap.size = w.heap.size ∧
      ∀ ρ' n, Le ρ ρ' → ρ' n = some ⟨w.heap.size, 0, spare⟩ → con ρ' (mk n) = some v ∧ BlkRel P ρ' ⟨w.heap.size, 0, spare⟩ B obj
  | none => ∃ v L, s.run P w = .ok (.value v) w ∧ N ≤ L.blk ∧ L.blk < w.heap.size ∧ ∀ ρ' n, Le ρ ρ' → ρ' n = some L → con ρ' (mk n) = some v

theorem NOk.plain [Sy] {s : Sem Next} {mk : Nat → AV} {B : ABlk} {v : Value} {obj : Obj} (hs : s.run P w = .ok (.value v) (w.alloc obj))
    (h : ∀ ρ' n, Le ρ ρ' → ρ' n = some ⟨w.heap.size, 0, 0⟩ → con ρ' (mk n) = some v ∧ BlkRel P ρ' ⟨w.heap.size, 0, 0⟩ B obj) : NOk P N ρ w s mk (some B) :=
  ⟨v, obj, 0, w, hs, fun _ h => h, RowKit.Below.refl _ _, rfl, h⟩

theorem cget_ofList (l : List AV) (i : Nat) (h : i < l.length) : cget (Tr.ofList l 0 .leaf) none i = l[i]? := by
  unfold cget
  rw [Tr.at0_ofList, if_pos (by omega)]
  simp [List.getElem?_eq_getElem h]

theorem mkCells_rel [Sy] {l : List AV} {vs : List Value} (hl : conL ρ l = some vs) (b : Nat) (e : TypeId) (sp : Bool) (extra : List Value) (spare : Nat) (hx : extra.length = spare * P.cellsOf e)
    (hsp : sp = false → spare = 0) (f : Nat × Nat) (hf : f.1 = f.2 ∨ vs.length + extra.length ≤ f.1) :
    BlkRel P ρ ⟨b, 0, spare⟩ (mkCells l e sp) (.cells (vs ++ extra).toArray e f) := by
  have hlen := conL_length hl
  refine ⟨_, f, rfl, ?_, hsp, fun i hi => ?_, ?_⟩
  · simp [hx, hlen]
  · obtain ⟨v, hv, hc⟩ := conL_get hl i l[i] (List.getElem?_eq_getElem hi)
    refine ⟨l[i], v, by rw [cget_ofList l i hi, List.getElem?_eq_getElem hi], hc, ?_⟩
    simp only [Nat.zero_add, List.getElem?_toArray]
    rw [List.getElem?_append_left (by rw [hlen]; exact hi)]; exact hv
  · simpa using hf

theorem mkCells_rel0 [Sy] {l : List AV} {vs : List Value} (hl : conL ρ l = some vs) (b : Nat) (e : TypeId) : BlkRel P ρ ⟨b, 0, 0⟩ (mkCells l e false) (.cells vs.toArray e) := by
  have := mkCells_rel (P := P) hl b e false [] 0 (by simp) (fun _ => rfl) (0, 0) (.inl rfl)
  simpa using this

theorem mkCells_relA [Sy] {l : List AV} {c : Array Value} (hl : conL ρ l = some c.toList) (b : Nat) (e : TypeId) : BlkRel P ρ ⟨b, 0, 0⟩ (mkCells l e false) (.cells c e) := by
  have := mkCells_rel0 (P := P) hl b e
  rw [show c.toList.toArray = c from by simp] at this
  exact this

theorem con_ptr0 [Sy] {n : Nat} {L : Loc} (h : ρ n = some L) (hb : L.base = 0) : con ρ (.ptr n 0) = some (.pointer (some ⟨L.blk, 0, none⟩)) := by
  simp only [con, h, Option.map_some, hb]

theorem n_alloc_sound [Sy] {e : TypeId} {B : Option ABlk} {mk : Nat → AV} (ho : o.op = .alloc e) (h : n_alloc P E e = some (B, mk)) : NOk P N ρ w (execOp ev o) mk B := by
  unfold n_alloc at h
  split at h
  · rename_i z hz
    simp only [Option.some.injEq, Prod.mk.injEq] at h
    obtain ⟨rfl, rfl⟩ := h
    obtain ⟨i, v, hi, hv, hsc, hcon⟩ := zeroL_cells hz
    refine NOk.plain (v := .pointer (some ⟨w.heap.size, 0, none⟩)) (obj := .cells v.cells e) ?_ (fun ρ' n hle hn => ⟨con_ptr0 hn rfl, ?_⟩)
    · simp [execOp, ho, Instr.alloc, zeroValue_run hi hv, newVar, newRow]
    · have := mkCells_rel0 (P := P) (hcon ρ') w.heap.size e
      simpa using this
  · simp at h

theorem n_box_sound [Sy] (hg : Good ρ E ev o.op.operands.toList) {e : TypeId} {x : Operand} {B : Option ABlk} {mk : Nat → AV} (ho : o.op = .box e x) (h : n_box P E e x = some (B, mk)) : NOk P N ρ w (execOp ev o) mk B := by
  unfold n_box at h
  split at h
  · rename_i a ha
    have hc := hg.at (x := x) (by rw [ho]; simp [Op.operands]) ha
    split at h
    · rename_i hsc
      simp only [Option.some.injEq, Prod.mk.injEq] at h
      obtain ⟨rfl, rfl⟩ := h
      refine NOk.plain (v := .pointer (some ⟨w.heap.size, 0, none⟩)) (obj := .cells (ev x).cells e) ?_ (fun ρ' n hle hn => ⟨con_ptr0 hn rfl, ?_⟩)
      · simp [execOp, ho, Instr.box, newVar, newRow]
      · have := mkCells_rel0 (P := P) (cellsA_con hsc (con_mono hle _ _ hc)) w.heap.size e
        simpa using this
    · simp at h
  · simp at h

theorem repeatL_con [Sy] {z : List AV} {zs : List Value} (hz : conL ρ z = some zs) (hpos : 0 < zs.length) : ∀ n, conL ρ (repeatL z n) = some ((List.range (n * zs.length)).map fun i => zs.toArray[i % zs.toArray.size]!)
  | 0 => by simp [repeatL, conL]
  | n + 1 => by
    have ih := repeatL_con hz hpos n
    have e : (List.range ((n + 1) * zs.length)).map (fun i => zs.toArray[i % zs.toArray.size]!) = zs ++ (List.range (n * zs.length)).map (fun i => zs.toArray[i % zs.toArray.size]!) := by
      rw [show (n + 1) * zs.length = zs.length + n * zs.length from by rw [Nat.add_mul]; omega, List.range_add, List.map_append, List.map_map]
      congr 1
      · apply List.ext_getElem (by simp)
        intro i h1 h2
        simp at h1
        simp [Nat.mod_eq_of_lt h1, h1]
      · apply List.map_congr_left
        intro i _
        simp [Nat.add_mod_left]
    rw [e]
    exact conL_append hz ih

theorem repeatL_cells [Sy] {z : List AV} {zv : Value} {s n : Nat} (hz : conL ρ z = some zv.cells.toList) (hs : z.length = s) (hpos : s ≠ 0) :
    conL ρ (repeatL z n) = some ((Array.range (n * s)).map fun i => zv.cells[i % zv.cells.size]!).toList := by
  have hl := conL_length hz
  have := repeatL_con hz (by omega) n
  rw [this]
  have e1 : zv.cells.toList.length = s := by rw [hl, hs]
  rw [e1]
  simp

theorem n_buildSlice_sound [Sy] (hg : Good ρ E ev o.op.operands.toList) {t : TypeId} {len : Nat} {parts : Array (Nat × Operand)} {B : Option ABlk} {mk : Nat → AV} (ho : o.op = .buildSlice t len parts)
    (h : n_buildSlice P E t len parts = some (B, mk)) : NOk P N ρ w (execOp ev o) mk B := by
  unfold n_buildSlice at h
  split at h
  · rename_i elem hd
    split at h
    · rename_i s hs
      split at h
      · rename_i hle
        have hle' : len * s ≤ 16777216 := ble_t hle
        split at h
        · rename_i z hz
          obtain ⟨i, zv, hi, hv, hsc, hcon⟩ := zeroL_cells hz
          split at h
          · rename_i hzl
            have hzl' : z.length = s := Nat.eq_of_beq_eq_true hzl
            split at h
            · simp at h
            · rename_i hs0
              have hs0' : s ≠ 0 := Nat.ne_of_beq_eq_false hs0
              split at h
              · rename_i ps hps
                split at h
                · rename_i cs hcs
                  simp only [Option.some.injEq, Prod.mk.injEq] at h
                  obtain ⟨rfl, rfl⟩ := h
                  obtain ⟨h1, h2⟩ := partsA_con (ρ := ρ) (ev := ev) hps (fun p hp a ha => hg p.2 (by rw [ho]; simp only [Op.operands, List.toList_toArray]; exact List.mem_map.2 ⟨p, hp, rfl⟩) a ha)
                  obtain ⟨rs, q1, q2, q3⟩ := fillA_con hcs (repeatL_cells (n := len) (hcon ρ) hzl' hs0') h2
                  rw [h1, zip_fst_snd] at q3
                  have e : (parts.toList.map fun p => (p.1, ev p.2)) = (parts.map fun (i, x) => (i, ev x)).toList := by simp
                  rw [e] at q3
                  have q3' : Instr.fill (fun i => some (i * s, s)) ((Array.range (len * s)).map fun i => zv.cells[i % zv.cells.size]!) (parts.map fun (i, x) => (i, ev x)).toList = some rs.toArray := by
                    rw [← q3]; congr 1
                  refine NOk.plain (v := .slice (some ⟨w.heap.size, 0, none⟩) len len) (obj := .cells rs.toArray elem) ?_ (fun ρ' n hle hn => ⟨by simp only [con, hn, Option.map_some, capOf], mkCells_rel0 (conL_mono hle _ _ q1) _ _⟩)
                  simp only [execOp, ho, Instr.buildSlice, Sem.run_bind, run_underlying hd, Result.andThen_ok, szOf_run hs]
                  rw [if_neg (by omega)]
                  by_cases h0 : len * s = 0
                  · rw [if_pos h0]
                    have hz0 : (Array.range (len * s)).map (fun i => zv.cells[i % zv.cells.size]!) = (Array.range (len * s)).map (fun i => (#[] : Array Value)[i % (#[] : Array Value).size]!) := by simp [h0]
                    simp only [Sem.run_bind, Sem.run_pure, Result.andThen_ok]
                    rw [← hz0, q3']
                    simp [newRow]
                  · rw [if_neg h0]
                    simp only [Sem.run_bind, zeroValue_run hi hv, Sem.run_pure, Result.andThen_ok]
                    rw [q3']
                    simp [newRow]
                · simp at h
              · simp at h
          · simp at h
        · simp at h
      · simp at h
    · simp at h
  · simp at h

theorem n_makeMap_sound [Sy] (hg : Good ρ E ev o.op.operands.toList) {t : TypeId} {r : Option Operand} {B : Option ABlk} {mk : Nat → AV} (ho : o.op = .makeMap t r)
    (h : n_makeMap P E t r = some (B, mk)) : NOk P N ρ w (execOp ev o) mk B := by
  unfold n_makeMap at h
  split at h
  · simp only [Option.some.injEq, Prod.mk.injEq] at h
    obtain ⟨rfl, rfl⟩ := h
    refine NOk.plain (v := .map (some w.heap.size)) (obj := .map #[] 0) (by simp [execOp, ho, Instr.makeMap]) (fun ρ' n hle hn => ⟨by simp only [con, hn, Option.map_some], #[], rfl, trivial⟩)
  · rename_i x
    split at h
    · rename_i k e hd
      split at h
      · rename_i kk nn ha
        simp only [Option.some.injEq, Prod.mk.injEq] at h
        obtain ⟨rfl, rfl⟩ := h
        have e := con_int (hg.at (x := x) (by rw [ho]; simp [Op.operands]) ha)
        refine NOk.plain (v := .map (some w.heap.size)) (obj := .map #[] 0) ?_ (fun ρ' n hle hn => ⟨by simp only [con, hn, Option.map_some], #[], rfl, trivial⟩)
        simp [execOp, ho, Instr.makeMap, run_underlying hd, e, asInt, asIntOf]
      · simp at h
    · simp at h

theorem wrap_nat {m : Nat} (h : m ≤ 9223372036854775807) : IntKind.i64.wrap (m : Int) = m := by
  rw [← wrapF_eq]
  show wrapF .i64 (.ofNat m) = _
  simp only [wrapF, maxN, Nat.ble_eq_true_of_le h, Int.ofNat_eq_natCast]

theorem n_makeSlice_sound [Sy] (hg : Good ρ E ev o.op.operands.toList) {t : TypeId} {l c : Operand} {B : Option ABlk} {mk : Nat → AV} (ho : o.op = .makeSlice t l c)
    (h : n_makeSlice P E t l c = some (B, mk)) : NOk P N ρ w (execOp ev o) mk B := by
  unfold n_makeSlice at h
  split at h
  · rename_i elem hd
    split at h
    · rename_i kl len hel
      have e1 := con_int (hg.at (x := l) (by rw [ho]; simp [Op.operands]) hel)
      split at h
      · rename_i kc cap hec
        have e2 := con_int (hg.at (x := c) (by rw [ho]; simp [Op.operands]) hec)
        split at h
        · rename_i hlc
          have hlc' := ble_t hlc
          split at h
          · rename_i i hi
            split at h
            · rename_i hby
              have hby' : i.bytes * cap ≤ 140737488355328 := ble_t hby
              split at h
              · rename_i hmax
                have hmax' : cap ≤ 9223372036854775807 := ble_t hmax
                have hw1 : IntKind.i64.wrap (cap : Int) = cap := wrap_nat hmax'
                have hw2 : IntKind.i64.wrap (len : Int) = len := wrap_nat (by omega)
                have hti : (typeInfo elem).run P w = .ok i w := by simp [typeInfo, hi]
                have hsz : szOf P elem = some i.size := by simp [szOf, hi]
                have hb2 : (i.bytes : Int) * (cap : Int) ≤ 140737488355328 := by
                  have h0 : ((i.bytes * cap : Nat) : Int) = (i.bytes : Int) * (cap : Int) := Int.natCast_mul _ _
                  rw [← h0]; omega
                have hcond : ¬ ((((decide ((cap : Int) < 0) || decide ((i.bytes : Int) * (cap : Int) > 2 ^ 48)) || decide ((len : Int) < 0)) || decide ((len : Int) > (cap : Int))) = true) := by
                  generalize (i.bytes : Int) * (cap : Int) = q at hb2
                  simp only [Bool.or_eq_true, decide_eq_true_eq]
                  omega
                -- the run, given the zero value
                have hrun : ∀ zv, i.zero = some zv → cap * i.size ≠ 0 → (execOp ev o).run P w = .ok (.value (.slice (some ⟨w.heap.size, 0, none⟩) len cap)) (w.alloc (.cells ((Array.range (cap * i.size)).map fun j => zv.cells[j % zv.cells.size]!) elem)) := by
                  intro zv hzv hne
                  simp only [execOp, ho, Instr.makeSlice, Sem.run_bind, run_underlying hd, Result.andThen_ok, e1, e2, asInt, asIntOf, Sem.run_pure, hti, Int.ofNat_eq_natCast, hw1, hw2]
                  rw [if_neg hcond]
                  simp only [Sem.run_bind, Sem.run_pure, run_askRoom, Result.andThen_ok, szOf_run hsz, Int.toNat_natCast]
                  rw [if_neg hne]
                  simp [zeroValue_run hi hzv, newRow]
                have hrun0 : cap * i.size = 0 → (execOp ev o).run P w = .ok (.value (.slice (some ⟨w.heap.size, 0, none⟩) len cap)) (w.alloc (.cells #[] elem)) := by
                  intro hne
                  simp only [execOp, ho, Instr.makeSlice, Sem.run_bind, run_underlying hd, Result.andThen_ok, e1, e2, asInt, asIntOf, Sem.run_pure, hti, Int.ofNat_eq_natCast, hw1, hw2]
                  rw [if_neg hcond]
                  simp only [Sem.run_bind, Sem.run_pure, run_askRoom, Result.andThen_ok, szOf_run hsz, Int.toNat_natCast]
                  rw [if_pos hne]
                  simp [newRow, hne, Array.range_zero']
                split at h
                · rename_i z hz
                  obtain ⟨i', zv, hi', hzv, hsc, hcon⟩ := zeroL_cells hz
                  rw [hi] at hi'; cases hi'
                  split at h
                  · rename_i hone
                    have hone' : i.size = 1 := Nat.eq_of_beq_eq_true hone
                    simp only [Option.some.injEq, Prod.mk.injEq] at h
                    obtain ⟨rfl, rfl⟩ := h
                    by_cases hc0 : cap = 0
                    · subst hc0
                      refine NOk.plain (v := .slice (some ⟨w.heap.size, 0, none⟩) len 0) (obj := .cells #[] elem) (hrun0 (by simp)) (fun ρ' n hle hn => ⟨by simp only [con, hn, Option.map_some, capOf], ?_⟩)
                      exact ⟨#[], (0, 0), rfl, by simp, fun _ => rfl, fun j hj => absurd hj (Nat.not_lt_zero _), .inl rfl⟩
                    · refine NOk.plain (v := .slice (some ⟨w.heap.size, 0, none⟩) len cap) (obj := .cells ((Array.range (cap * i.size)).map fun j => zv.cells[j % zv.cells.size]!) elem) (hrun zv hzv (by rw [hone']; omega)) (fun ρ' n hle hn => ⟨by simp only [con, hn, Option.map_some, capOf], ?_⟩)
                      obtain ⟨v, us, hv, hus, hvs⟩ := conL_cons.1 (hcon ρ')
                      simp only [conL, Option.some.injEq] at hus
                      subst hus
                      have hzc : zv.cells = #[v] := by apply Array.ext'; simp [hvs]
                      refine ⟨_, (0, 0), rfl, by simp [hone'], fun _ => rfl, fun j hj => ⟨z, v, by simp [cget, Tr.at0_leaf], hv, ?_⟩, .inl rfl⟩
                      rw [hzc, hone']
                      simp [hj, Nat.mod_one]
                  · simp at h
                · rename_i z hnot hz
                  obtain ⟨i', zv, hi', hzv, hsc, hcon⟩ := zeroL_cells hz
                  rw [hi] at hi'; cases hi'
                  split at h
                  · rename_i hzl
                    have hzl' : z.length = i.size := Nat.eq_of_beq_eq_true hzl
                    split at h
                    · simp at h
                    · rename_i hs0
                      have hs0' : i.size ≠ 0 := Nat.ne_of_beq_eq_false hs0
                      simp only [Option.some.injEq, Prod.mk.injEq] at h
                      obtain ⟨rfl, rfl⟩ := h
                      by_cases hc0 : cap = 0
                      · subst hc0
                        refine NOk.plain (v := .slice (some ⟨w.heap.size, 0, none⟩) len 0) (obj := .cells #[] elem) (hrun0 (by simp)) (fun ρ' n hle hn => ⟨by simp only [con, hn, Option.map_some, capOf], ?_⟩)
                        exact mkCells_rel0 (P := P) (l := repeatL z 0) (conL_nil ρ') _ _
                      · refine NOk.plain (v := .slice (some ⟨w.heap.size, 0, none⟩) len cap) (obj := .cells ((Array.range (cap * i.size)).map fun j => zv.cells[j % zv.cells.size]!) elem) (hrun zv hzv (Nat.mul_ne_zero hc0 hs0')) (fun ρ' n hle hn => ⟨by simp only [con, hn, Option.map_some, capOf], ?_⟩)
                        exact mkCells_relA (P := P) (repeatL_cells (n := cap) (hcon ρ') hzl' hs0') w.heap.size elem
                  · simp at h
                · simp at h
              · simp at h
            · simp at h
          · simp at h
        · simp at h
      · simp at h
    · simp at h
  · simp at h

theorem n_slice_sound [Sy] (hr : Rep P N ρ σ w) (hg : Good ρ E ev o.op.operands.toList) {t : TypeId} {x : Operand} {lo hi mx : Option Operand} {B : Option ABlk} {mk : Nat → AV} (ho : o.op = .slice t x lo hi mx)
    (h : n_slice P E t x lo hi mx = some (B, mk)) : NOk P N ρ w (execOp ev o) mk B := by
  have hexec : execOp ev o = (do pure (.value (← Instr.sliceAt t (ev x) (lo.map ev) (hi.map ev) (mx.map ev)))) := by simp only [execOp, ho]
  have hx : ∀ a, E x = some a → con ρ a = some (ev x) := fun a ha => hg x (by rw [ho]; simp [Op.operands]) a ha
  have hlo : ∀ y ∈ lo.toList, ∀ a, E y = some a → con ρ a = some (ev y) := fun y hy a ha => hg y (by rw [ho]; simp [Op.operands]; right; left; simpa using hy) a ha
  have hhi : ∀ y ∈ hi.toList, ∀ a, E y = some a → con ρ a = some (ev y) := fun y hy a ha => hg y (by rw [ho]; simp [Op.operands]; right; right; left; simpa using hy) a ha
  unfold n_slice at h
  split at h
  · simp at h
  · split at h
    · rename_i b off len cap ha
      obtain ⟨L, hL, e⟩ := con_sl (hx _ ha)
      split at h
      · rename_i elem hd
        split at h
        · rename_i s hs
          split at h
          · rename_i l hl
            split at h
            · rename_i hh hhh
              split at h
              · rename_i hq
                simp only [Option.some.injEq, Prod.mk.injEq] at h
                obtain ⟨rfl, rfl⟩ := h
                unfold sliceA at hq
                split at hq
                · rename_i m hm; cases hm
                · split at hq
                  · rename_i hc1
                    split at hq
                    · rename_i hc2
                      have c1 := ble_t hc1; have c2 := ble_t hc2
                      have hcap := capOf_ge L cap true
                      have hb := bounds_run (P := P) (w := w) hlo hhi hl hhh c2 (Nat.le_trans c1 hcap) true
                      have hrun := sliceAt_run hd hs (a := some ⟨L.blk, L.base + off, none⟩) hb
                      split at hq
                      · simp at hq
                      · split at hq
                        · simp at hq
                        · rename_i hcl
                          have hcl' : cap = l := Nat.eq_of_beq_eq_true hcl
                          have hhl : hh - l = 0 := by omega
                          refine ⟨.slice (some ⟨L.blk, if capOf L cap true = l then L.base + off else L.base + off + l * s, none⟩) 0 L.spare, ⟨L.blk, if capOf L cap true = l then L.base + off else L.base + off + l * s, L.spare⟩, ?_, (hr.low _ _ hL).1, (hr.low _ _ hL).2, fun ρ' n hle hn => ?_⟩
                          · rw [hexec, e]
                            simp only [Option.map_none, Sem.run_bind, hrun, Result.andThen_ok, Sem.run_pure, hhl]
                            have : capOf L cap true - l = L.spare := by simp only [capOf]; omega
                            rw [this]
                            split <;> simp [Addr.add_lit]
                          · simp only [con, hn, Option.map_some, capOf]
                            simp
                    · simp at hq
                  · simp at hq
              · simp at h
            · simp at h
          · simp at h
        · simp at h
      · simp at h
    · simp at h

theorem freeze_alloc (W : World) (c : Array Value) (e : TypeId) : (W.alloc (.cells c e)).freeze ⟨W.heap.size, c.size, none⟩ 1 = W.alloc (.cells c e (c.size, c.size + 1)) := by
  unfold World.freeze World.alloc
  rw [if_neg (by decide)]
  congr 1
  apply Array.ext_getElem?
  intro j
  simp only [Array.getElem?_modify, Array.getElem?_push]
  by_cases hj : j = W.heap.size
  · subst hj; simp
  · rw [if_neg (by omega), if_neg hj, if_neg hj]

theorem n_convert_sound [Sy] (hg : Good ρ E ev o.op.operands.toList) {src dst : TypeId} {x : Operand} {B : Option ABlk} {mk : Nat → AV} (ho : o.op = .convert src dst x)
    (h : n_convert P E src dst x = some (B, mk)) : NOk P N ρ w (execOp ev o) mk B := by
  have hexec : execOp ev o = (do pure (.value (← convert src dst (ev x)))) := by simp only [execOp, ho]
  unfold n_convert at h
  split at h
  · rename_i l ha
    have e := con_str (hg.at (x := x) (by rw [ho]; simp [Op.operands]) ha)
    split at h
    · rename_i d hs
      split at h
      · rename_i el hd
        split at h
        · rename_i hu
          have hu' := isU8_spec hu
          split at h
          · rename_i hone
            simp only [Option.some.injEq, Prod.mk.injEq] at h
            obtain ⟨rfl, rfl⟩ := h
            have hcells : P.cellsOf el = 1 := szOf_cells hone
            have hrun := Lib.run_convert_string_bytes w src dst el (bytesOf l) hs hd hu'
            have hge : (bytesOf l).size ≤ grownCap w (bytesOf l).size 0 el := by simp [grownCap, Question.cut]
            refine ⟨.slice (some ⟨w.heap.size, 0, none⟩) l.length (grownCap w (bytesOf l).size 0 el), .cells (Lib.bytesCells w el (bytesOf l)) el ((Lib.bytesCells w el (bytesOf l)).size, (Lib.bytesCells w el (bytesOf l)).size + 1),
              grownCap w (bytesOf l).size 0 el - (bytesOf l).size, w.drew, ?_, fun σ h => h.drew, (RowKit.Below.refl _ _).drew, rfl, fun ρ' n hle hn => ⟨?_, ?_⟩⟩
            · rw [hexec, e]
              simp only [Sem.run_bind, hrun, Result.andThen_ok, Sem.run_pure, Lib.bytesWorld, size_bytesOf]
              have := freeze_alloc w.drew (Lib.bytesCells w el (bytesOf l)) el
              rw [show w.drew.heap.size = w.heap.size from rfl] at this
              rw [this]
            · simp only [con, hn, Option.map_some, capOf]
              rw [size_bytesOf] at hge ⊢
              congr 2; omega
            · have hl : conL ρ' (l.map fun n => AV.int .u8 (.ofNat (Nat.mod n 256))) = some (l.map fun n => Value.int .u8 (Int.ofNat (Nat.mod n 256))) := by
                clear ha e hrun hge hn
                induction l with
                | nil => exact conL_nil ρ'
                | cons y l ih => exact conL_cons.2 ⟨_, _, con_int' _ _ _, ih, rfl⟩
              have hbc : Lib.bytesCells w el (bytesOf l) = ((l.map fun n => Value.int .u8 (Int.ofNat (Nat.mod n 256))) ++ List.replicate (grownCap w (bytesOf l).size 0 el - (bytesOf l).size) (Value.int .u8 0)).toArray := by
                unfold Lib.bytesCells
                apply Array.ext'
                simp only [Array.toList_append, Array.toList_replicate, Array.toList_map, List.toList_toArray]
                congr 1
                simp only [bytesOf, List.map_map]
                apply List.map_congr_left
                intro y _
                simp [UInt8.toNat_ofNat']
                rfl
              rw [hbc]
              refine mkCells_rel hl _ _ _ _ _ (by simp [hcells]) (fun h => by cases h) _ (.inr (by simp))
          · simp at h
        · simp at h
      · simp at h
    · simp at h
  · simp at h

theorem aN_sound [Sy] (hr : Rep P N ρ σ w) (hg : Good ρ E ev o.op.operands.toList) {B : Option ABlk} {mk : Nat → AV} (h : aN P E o = some (B, mk)) : NOk P N ρ w (execOp ev o) mk B := by
  unfold aN at h
  split at h
  all_goals first
    | exact n_alloc_sound ‹_› h
    | exact n_box_sound hg ‹_› h
    | exact n_buildSlice_sound hg ‹_› h
    | exact n_makeMap_sound hg ‹_› h
    | exact n_makeSlice_sound hg ‹_› h
    | exact n_slice_sound hr hg ‹_› h
    | exact n_convert_sound hg ‹_› h
    | (simp at h)

end
end Go.Ev
