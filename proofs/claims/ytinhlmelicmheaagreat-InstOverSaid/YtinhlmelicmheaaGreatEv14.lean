import Derived.Test.YtinhlmelicmheaaGreatEv13
namespace Go.Ev
open Go

section
variable {P : Program} {N : Nat} {ρ : Ren} {σ : Heap} {w : World} {E : Operand → Option AV} {o : Oper}

theorem Rep.newBlock [Sy] (h : Rep P N ρ σ w) {B : ABlk} {ob : Obj} {spare : Nat}
    (hB : BlkRel P (upd ρ σ.next ⟨w.heap.size, 0, spare⟩) ⟨w.heap.size, 0, spare⟩ B ob) :
    Ext P N ρ σ w (upd ρ σ.next ⟨w.heap.size, 0, spare⟩) (σ.push (some B)) (w.alloc ob) where
  agree b hb := upd_ne _ _ (by omega)
  next := by simp
  pend b hb _ := by rw [Heap.get_push, if_neg (by omega)]
  rep := (h.push (some B)).late (h.fresh _ (Nat.le_refl _)) (by simp) ob 0 spare (fun B' hB' => by
    rw [Heap.get_push, if_pos rfl] at hB'; cases hB'; exact hB)
  below := (RowKit.Below.refl _ _).alloc h.room _

theorem Rep.ghost [Sy] (h : Rep P N ρ σ w) {L : Loc} (h1 : N ≤ L.blk) (h2 : L.blk < w.heap.size) : Ext P N ρ σ w (upd ρ σ.next L) (σ.push none) w where
  agree b hb := upd_ne _ _ (by omega)
  next := by simp
  pend b hb _ := by rw [Heap.get_push, if_neg (by omega)]
  rep := by
    have hn := h.fresh _ (Nat.le_refl σ.next)
    constructor
    · intro b B L' hb hL'
      rw [Heap.get_push] at hb
      split at hb
      · cases hb
      · rename_i hne
        rw [upd_ne _ _ (Ne.symm hne)] at hL'
        obtain ⟨o, ho, hr⟩ := h.blk b B L' hb hL'
        exact ⟨o, ho, hr.mono (le_upd _ hn)⟩
    · intro b b' B B' L1 L2 g1 g2 g3 g4 g5
      rw [Heap.get_push] at g1 g2
      split at g1
      · cases g1
      · rename_i n1
        split at g2
        · cases g2
        · rename_i n2
          rw [upd_ne _ _ (Ne.symm n1)] at g3
          rw [upd_ne _ _ (Ne.symm n2)] at g4
          exact h.inj b b' B B' L1 L2 g1 g2 g3 g4 g5
    · intro b L' hL'
      by_cases e : b = σ.next
      · subst e; rw [upd_same] at hL'; cases hL'; exact ⟨h1, h2⟩
      · rw [upd_ne _ _ e] at hL'; exact h.low b L' hL'
    · intro b hb; rw [upd_ne _ _ (by simp at hb; omega)]; exact h.fresh b (by simp at hb; omega)
    · intro b hb
      simp at hb
      rw [Heap.get_push, if_neg (by omega)]; exact h.freshσ b (by omega)
    · exact h.room
  below := RowKit.Below.refl _ _

theorem Rep.killed [Sy] (h : Rep P N ρ σ w) {b : Nat} {L : Loc} (hL : ρ b = some L) : Ext P N ρ σ w ρ (σ.kill b) w where
  agree _ _ := rfl
  next := Nat.le_refl _
  pend b' _ hn := by rw [Heap.get_kill, if_neg]; intro e; subst e; rw [hn] at hL; cases hL
  rep := by
    constructor
    · intro b' B L' hb hL'
      rw [Heap.get_kill] at hb
      split at hb
      · cases hb
      · exact h.blk b' B L' hb hL'
    · intro b1 b2 B1 B2 L1 L2 h1 h2 h3 h4 h5
      rw [Heap.get_kill] at h1 h2
      split at h1
      · cases h1
      · split at h2
        · cases h2
        · exact h.inj b1 b2 B1 B2 L1 L2 h1 h2 h3 h4 h5
    · exact h.low
    · exact h.fresh
    · intro b' hb'; rw [Heap.get_kill]; split
      · rfl
      · exact h.freshσ b' (by simpa using hb')
    · exact h.room
  below := RowKit.Below.refl _ _

theorem get_kill_push [Sy] (σ : Heap) (b : Nat) (B : Option ABlk) (b' : Nat) : ((σ.kill b).push B).get b' = if σ.next = b' then B else if b = b' then none else σ.get b' := by
  have h1 : ((σ.kill b).push B).get b' = if σ.next = b' then B else (σ.kill b).get b' := Heap.get_push (σ.kill b) B b'
  rw [h1, Heap.get_kill]

theorem cell_drew (a : Addr) : w.drew.cell? a = w.cell? a := rfl

/-- The general growth. -/
theorem growA_ext [Sy] (hr : Rep P N ρ σ w) {e : TypeId} {i : TypeInfo} {zv : Value} (hi : P.info? e = some i) (hzl : zv.cells.size = i.size) {old new : List AV} {olds news : List Value}
    (h1 : conL ρ old = some olds) (h2 : conL ρ new = some news) (need cap : Nat) (hge : need ≤ cap) :
    ∃ ρ', Ext P N ρ σ w ρ' (growA σ old new need e).2 (w.drew.alloc (.cells ((olds ++ news).toArray ++ Builtin.zeroCells zv.cells (cap - need)) e)) ∧
      con ρ' (growA σ old new need e).1 = some (.slice (some ⟨w.heap.size, 0, none⟩) need cap) := by
  have hcells : P.cellsOf e = i.size := by simp [Program.cellsOf, hi]
  have hx := (Ext.drew hr).trans (Rep.newBlock (P := P) (N := N) (ρ := ρ) (σ := σ) (w := w.drew) (B := mkCells (old ++ new) e true) (ob := .cells ((olds ++ news).toArray ++ Builtin.zeroCells zv.cells (cap - need)) e) (spare := cap - need) hr.drew ?_)
  · refine ⟨_, hx, ?_⟩
    simp only [growA, con, upd_same, Option.map_some, capOf]
    congr 2; omega
  · have hc : conL (upd ρ σ.next ⟨w.drew.heap.size, 0, cap - need⟩) (old ++ new) = some (olds ++ news) :=
      conL_mono (le_upd _ (hr.fresh _ (Nat.le_refl _))) _ _ (conL_append h1 h2)
    have := mkCells_rel (P := P) hc w.drew.heap.size e true (Builtin.zeroCells zv.cells (cap - need)).toList (cap - need) (by rw [Array.length_toList, size_zeroCells, hcells, hzl]) (fun h => by cases h) (0, 0) (.inl rfl)
    have e2 : ((olds ++ news) ++ (Builtin.zeroCells zv.cells (cap - need)).toList).toArray = (olds ++ news).toArray ++ Builtin.zeroCells zv.cells (cap - need) := by
      apply Array.ext'; simp
    rw [e2] at this
    exact this

theorem rangeA_first [Sy] (h : Rep P N ρ σ w) {b off n size : Nat} {l : List AV} (hl : rangeA σ b off (n * size) = some l) {L : Loc} (hL : ρ b = some L) (n' c' : Nat) :
    ∃ vs, conL ρ l = some vs ∧ vs.length = n * size ∧ ∀ W : World, (∀ a, W.cell? a = w.cell? a) → (Builtin.firstCells size n (.slice (some ⟨L.blk, L.base + off, none⟩) n' c')).run P W = .ok vs.toArray W := by
  obtain ⟨vs, h1, h2, _, h4⟩ := rangeA_run (P := P) h hl hL
  refine ⟨vs, h1, h2, fun W hW => run_firstCells_some W size n _ n' c' vs h2 fun j v hj => ?_⟩
  rw [Addr.add_lit, hW]; exact h4 j v hj

theorem growOld_sound [Sy] (hr : Rep P N ρ σ w) {st xt ty elem : TypeId} (ht : P.underlying st = some (.slice elem)) {n : Nat} {new : List AV} {xv : Value} {i : TypeInfo} {zv : Value} (hi : P.info? elem = some i) (hz : i.zero = some zv)
    (hzl' : zv.cells.size = i.size) {news : List Value} (hx : AppX P w xt xv i zv.cells n news) (hnew : conL ρ new = some news) (hlen : news.length = n * i.size) (hone : ∀ v ∈ news, v.oneCell' = true) {b off len cap : Nat} {sp : Bool} {L : Loc}
    (hL : ρ b = some L) {old : List AV} (hold : rangeA σ b off (len * i.size) = some old) (hroom' : cap < len + n) (hfit' : 2 * (len + n) * i.bytes ≤ 281474976710656) (h63' : len + n ≤ 4611686018427387904)
    (hsp : sp = true → ∃ m tt dz e sp', σ.get b = some (.cells m tt dz e sp') ∧ m = off + cap * i.size ∧ e = elem) :
    ∃ v w' ρ', (Builtin.append_ #[st, xt] ty #[.slice (some ⟨L.blk, L.base + off, none⟩) len (capOf L cap sp), xv]).run P w = .ok v w' ∧ Ext P N ρ σ w ρ' (growA (killIf σ b sp) old new (len + n) elem).2 w' ∧
      con ρ' (growA (killIf σ b sp) old new (len + n) elem).1 = some v := by
  have hcells : P.cellsOf elem = i.size := by simp [Program.cellsOf, hi]
  obtain ⟨olds, ho1, ho2, ho3⟩ := rangeA_first (P := P) hr hold hL len (capOf L cap sp)
  cases sp with
  | false =>
    have hrun := run_app_grow (ty := ty) ht hi hz hx (some ⟨L.blk, L.base + off, none⟩) len (capOf L cap false) olds ho3 hroom' h63' hfit'
    obtain ⟨ρ', hext, hcon⟩ := growA_ext (w := w) hr hi hzl' ho1 hnew (len + n) (grownCap w (len + n) (capOf L cap false) elem) (grownCap_ge w _ _ _)
    exact ⟨_, _, ρ', hrun, hext, hcon⟩
  | true =>
    obtain ⟨m, tt, dz, e, sp', hb, hm', he'⟩ := hsp rfl
    subst he'
    obtain ⟨r, σ', h'⟩ : ∃ r σ', growA (σ.kill b) old new (len + n) e = (r, σ') := ⟨_, _, rfl⟩
    show ∃ v w' ρ', _ ∧ Ext P N ρ σ w ρ' (growA (σ.kill b) old new (len + n) e).2 w' ∧ con ρ' (growA (σ.kill b) old new (len + n) e).1 = some v
    rw [h']
    have hk := hr.killed hL
    by_cases hfitc : len + n ≤ capOf L cap true
    · -- it fits: the row is one region more, from the slice's first cell on
      obtain ⟨c, f, hc, q1, q2, q3, q4⟩ := hr.cells hb hL
      have hcapv : capOf L cap true = cap + L.spare := rfl
      rw [hcells] at q1
      have hsz : L.base + off + (len + n) * i.size + (cap + L.spare - (len + n)) * i.size = c.size := by
        rw [q1, hm', Nat.add_assoc, ← Nat.add_mul, show len + n + (cap + L.spare - (len + n)) = cap + L.spare from by omega, Nat.add_mul]; omega
      have hfits : L.base + off + len * i.size + 0 + news.length ≤ c.size := by
        rw [hlen]; rw [Nat.add_mul] at hsz; omega
      have hst := run_storeCells (P := P) (k := L.blk) (off := L.base + off + len * i.size) news 0 w c hc hfits q4 hone
      have hrun := run_app_room (ty := ty) ht hi hz hx ⟨L.blk, L.base + off, none⟩ len (capOf L cap true) hfitc (w' := setBlk w L.blk (.cells (writeAll c (L.base + off + len * i.size + 0) news) e f)) (by rw [Addr.add_lit]; exact hst)
      have hnone := hr.fresh _ (Nat.le_refl σ.next)
      have hbn : b < σ.next := by
        rcases Nat.lt_or_ge b σ.next with h' | h'
        · exact h'
        · rw [hr.fresh b h'] at hL; cases hL
      cases h'
      refine ⟨_, _, upd ρ σ.next ⟨L.blk, L.base + off, cap + L.spare - (len + n)⟩, hrun, ?_, ?_⟩
      · refine ⟨fun b' hb' => upd_ne _ _ (by omega), by simp, fun b' hb' hn' => ?_, ?_, ?_⟩
        · rw [get_kill_push, if_neg (by omega), if_neg]
          intro e2; subst e2; rw [hn'] at hL; cases hL
        · have hget : ∀ b', ((σ.kill b).push (some (mkCells (old ++ new) e true))).get b' = if σ.next = b' then some (mkCells (old ++ new) e true) else if b = b' then none else σ.get b' := fun b' => get_kill_push σ b _ b'
          constructor
          · intro b' B' L' hb' hL'
            rw [hget] at hb'
            by_cases e1 : σ.next = b'
            · subst e1
              rw [if_pos rfl] at hb'; cases hb'
              rw [upd_same] at hL'; cases hL'
              refine ⟨_, setBlk_get hc, ?_⟩
              have hcc : conL (upd ρ σ.next ⟨L.blk, L.base + off, cap + L.spare - (len + n)⟩) (old ++ new) = some (olds ++ news) := conL_mono (le_upd _ hnone) _ _ (conL_append ho1 hnew)
              have hl1 := conL_length hcc
              have hl2 : (olds ++ news).length = (len + n) * i.size := by rw [List.length_append, ho2, hlen, Nat.add_mul]
              refine ⟨_, f, rfl, ?_, ?_, fun j hj => ?_, ?_⟩
              · rw [writeAll_size, hcells, ← hl1, hl2]; exact hsz.symm
              · intro h0; cases h0
              · rw [← hl1] at hj
                have hj2 : j < (old ++ new).length := by rw [← hl1]; exact hj
                obtain ⟨v, hv, hcv⟩ := conL_get hcc j (old ++ new)[j] (List.getElem?_eq_getElem hj2)
                refine ⟨(old ++ new)[j], v, by rw [cget_ofList _ j hj2, List.getElem?_eq_getElem hj2], hcv, ?_⟩
                show (writeAll c (L.base + off + len * i.size + 0) news)[L.base + off + j]? = some v
                rw [writeAll_get _ _ _ _ (by omega)]
                by_cases hjo : j < olds.length
                · rw [if_neg (by omega)]
                  rw [List.getElem?_append_left hjo] at hv
                  obtain ⟨vs2, w1, w2, _, w4⟩ := rangeA_run (P := P) hr hold hL
                  rw [ho1] at w1; cases w1
                  have := w4 j v hv
                  simpa [World.cell?, hc] using this
                · rw [if_pos (by rw [hl2] at hj; rw [Nat.add_mul] at hj; omega)]
                  rw [List.getElem?_append_right (by omega)] at hv
                  rw [show L.base + off + j - (L.base + off + len * i.size + 0) = j - olds.length from by omega]
                  exact hv
              · rw [writeAll_size]; exact q4
            · rw [if_neg e1] at hb'
              by_cases e2 : b = b'
              · rw [if_pos e2] at hb'; cases hb'
              · rw [if_neg e2] at hb'
                rw [upd_ne _ _ (Ne.symm e1)] at hL'
                obtain ⟨o', ho', hrel⟩ := hr.blk b' B' L' hb' hL'
                refine ⟨o', ?_, hrel.mono (le_upd _ hnone)⟩
                rw [setBlk_ne]; exact ho'
                intro e3; exact e2 (hr.inj b b' _ B' L L' hb hb' hL hL' e3.symm)
          · intro b1 b2 B1 B2 L1 L2 g1 g2 g3 g4 g5
            rw [hget] at g1 g2
            by_cases e1 : σ.next = b1
            · by_cases e2 : σ.next = b2
              · omega
              · exfalso
                rw [if_neg e2] at g2
                by_cases e3 : b = b2
                · rw [if_pos e3] at g2; cases g2
                · rw [if_neg e3] at g2
                  subst e1
                  rw [upd_same] at g3; cases g3
                  rw [upd_ne _ _ (Ne.symm e2)] at g4
                  exact e3 (hr.inj b b2 _ B2 L L2 hb g2 hL g4 g5)
            · rw [if_neg e1] at g1
              by_cases e3 : b = b1
              · rw [if_pos e3] at g1; cases g1
              · rw [if_neg e3] at g1
                rw [upd_ne _ _ (Ne.symm e1)] at g3
                by_cases e2 : σ.next = b2
                · exfalso
                  subst e2
                  rw [upd_same] at g4; cases g4
                  exact e3 (hr.inj b b1 _ B1 L L1 hb g1 hL g3 g5.symm)
                · rw [if_neg e2] at g2
                  by_cases e4 : b = b2
                  · rw [if_pos e4] at g2; cases g2
                  · rw [if_neg e4] at g2
                    rw [upd_ne _ _ (Ne.symm e2)] at g4
                    exact hr.inj b1 b2 B1 B2 L1 L2 g1 g2 g3 g4 g5
          · intro b' L' hL'
            rw [setBlk_size]
            by_cases e1 : b' = σ.next
            · subst e1; rw [upd_same] at hL'; cases hL'; exact hr.low b L hL
            · rw [upd_ne _ _ e1] at hL'; exact hr.low b' L' hL'
          · intro b' hb'
            simp only [Heap.next_push, Heap.next_kill] at hb'
            rw [upd_ne _ _ (by omega)]; exact hr.fresh b' (by omega)
          · intro b' hb'
            simp only [Heap.next_push, Heap.next_kill] at hb'
            rw [hget, if_neg (by omega), if_neg (by omega)]; exact hr.freshσ b' (by omega)
          · rw [setBlk_size]; exact hr.room
        · exact ⟨rfl, rfl, rfl, by rw [setBlk_size]; exact Nat.le_refl _, fun j hj => setBlk_ne (by have := (hr.low b L hL).1; omega)⟩
      · simp only [con, Heap.next_kill, upd_same, Option.map_some, capOf, Nat.add_zero]
        congr 2
        omega
    · have hrun := run_app_grow (ty := ty) ht hi hz hx (some ⟨L.blk, L.base + off, none⟩) len (capOf L cap true) olds ho3 (by omega) h63' hfit'
      obtain ⟨ρ', hext, hcon⟩ := growA_ext (w := w) hk.rep hi hzl' ho1 hnew (len + n) (grownCap w (len + n) (capOf L cap true) e) (grownCap_ge w _ _ _)
      rw [h'] at hext hcon
      exact ⟨_, _, ρ', hrun, hk.trans hext, hcon⟩

theorem BlkRel.congr [Sy] {L : Loc} {n : Nat} {t t' : Tr AV} {dz dz' : Option AV} {e : TypeId} {sp : Bool} {ob : Obj} (h : ∀ i, i < n → cget t dz i = cget t' dz' i) (hB : BlkRel P ρ L (.cells n t dz e sp) ob) : BlkRel P ρ L (.cells n t' dz' e sp) ob := by
  obtain ⟨c, f, e1, h1, h2, h3, h4⟩ := hB
  refine ⟨c, f, e1, h1, h2, fun i hi => ?_, h4⟩
  obtain ⟨av, v, q1, q2, q3⟩ := h3 i hi
  exact ⟨av, v, by rw [← h i hi]; exact q1, q2, q3⟩

/-- The block made last, told in other words. -/
theorem Ext.congrLast [Sy] {σ0 : Heap} {ρ' : Ren} {w' : World} {n : Nat} {t t' : Tr AV} {dz dz' : Option AV} {e : TypeId} {sp : Bool} (hlt : σ.next ≤ σ0.next) (h : ∀ i, i < n → cget t dz i = cget t' dz' i)
    (hE : Ext P N ρ σ w ρ' (σ0.push (some (.cells n t dz e sp))) w') : Ext P N ρ σ w ρ' (σ0.push (some (.cells n t' dz' e sp))) w' where
  agree := hE.agree
  next := hE.next
  pend b hb hn := by
    have := hE.pend b hb hn
    rw [Heap.get_push, if_neg (by omega)] at this ⊢
    exact this
  rep := by
    have hr := hE.rep
    have get' : ∀ b B, (σ0.push (some (.cells n t' dz' e sp))).get b = some B → ∃ B0, (σ0.push (some (.cells n t dz e sp))).get b = some B0 ∧ ∀ (ρ : Ren) (L : Loc) (o : Obj), BlkRel P ρ L B0 o → BlkRel P ρ L B o := fun b B hb => by
      rw [Heap.get_push] at hb ⊢
      by_cases e1 : σ0.next = b
      · rw [if_pos e1] at hb ⊢
        simp only [Option.some.injEq] at hb; subst hb
        exact ⟨_, rfl, fun ρ L o hB => hB.congr h⟩
      · rw [if_neg e1] at hb ⊢
        exact ⟨B, hb, fun _ _ _ hB => hB⟩
    exact {
      blk := fun b B L hb hL => by
        obtain ⟨B0, h0, hB⟩ := get' b B hb
        obtain ⟨o, ho, hrel⟩ := hr.blk b B0 L h0 hL
        exact ⟨o, ho, hB _ _ _ hrel⟩
      inj := fun b b' B B' L L' h1 h2 h3 h4 h5 => by
        obtain ⟨B0, h0, _⟩ := get' b B h1
        obtain ⟨B0', h0', _⟩ := get' b' B' h2
        exact hr.inj b b' B0 B0' L L' h0 h0' h3 h4 h5
      low := hr.low
      fresh := hr.fresh
      freshσ := fun b hb => by
        have := hr.freshσ b hb
        rw [Heap.get_push] at this ⊢
        have hne : σ0.next ≠ b := by simp at hb; omega
        rw [if_neg hne] at this ⊢
        exact this
      room := hr.room }
  below := hE.below

theorem cgets_some {t : Tr AV} {dz : Option AV} : ∀ (k o : Nat), (∀ i, i < k → ∃ av, cget t dz (o + i) = some av) → ∃ l, cgets t dz o k = some l ∧ l.length = k ∧ ∀ i, i < k → l[i]? = cget t dz (o + i)
  | 0, o, _ => ⟨[], rfl, rfl, fun i hi => by omega⟩
  | k + 1, o, h => by
    obtain ⟨av, hav⟩ := h 0 (by omega)
    obtain ⟨l, h1, h2, h3⟩ := cgets_some k (Nat.succ o) (fun i hi => by
      obtain ⟨a, ha⟩ := h (i + 1) (by omega)
      exact ⟨a, by rw [show Nat.succ o + i = o + (i + 1) from by omega]; exact ha⟩)
    refine ⟨av :: l, by simp only [cgets]; rw [show cget t dz o = some av from hav, h1], by simp [h2], fun i hi => ?_⟩
    cases i with
    | zero => simpa using hav.symm
    | succ i =>
      rw [List.getElem?_cons_succ, h3 i (by omega), show Nat.succ o + i = o + (i + 1) from by omega]

theorem cget_ofList_at {t : Tr AV} {dz : Option AV} (l : List AV) (i j : Nat) : cget (Tr.ofList l i t) dz j = if i ≤ j ∧ j < i + l.length then l[j - i]? else cget t dz j := by
  unfold cget
  rw [Tr.at0_ofList]
  by_cases h : i ≤ j ∧ j < i + l.length
  · rw [if_pos h, if_pos h]
    have hlt : j - i < l.length := by omega
    rw [List.getElem?_eq_getElem hlt]
  · rw [if_neg h, if_neg h]

theorem growFrom_sound [Sy] (hr : Rep P N ρ σ w) {st xt ty elem : TypeId} (ht : P.underlying st = some (.slice elem)) {n : Nat} {new : List AV} {r : AV} {σ' : Heap} {xv : Value} {i : TypeInfo} {zv : Value} (hi : P.info? elem = some i) (hz : i.zero = some zv)
    (hzl' : zv.cells.size = i.size) {news : List Value} (hx : AppX P w xt xv i zv.cells n news) (hnew : conL ρ new = some news) (hlen : news.length = n * i.size) (hone : ∀ v ∈ news, v.oneCell' = true) {b off len cap : Nat} {sp : Bool} {L : Loc}
    (hL : ρ b = some L) (hroom' : cap < len + n) (hfit' : 2 * (len + n) * i.bytes ≤ 281474976710656) (h63' : len + n ≤ 4611686018427387904) (h : growFrom σ b off len cap sp i.size n new elem = some (r, σ')) :
    ∃ v w' ρ', (Builtin.append_ #[st, xt] ty #[.slice (some ⟨L.blk, L.base + off, none⟩) len (capOf L cap sp), xv]).run P w = .ok v w' ∧ Ext P N ρ σ w ρ' σ' w' ∧ con ρ' r = some v := by
  unfold growFrom at h
  split at h
  · rename_i m t dz e sp0 hb
    split at h
    · simp at h
    · rename_i hle
      have hle' : off + len * i.size ≤ m := ble_t hle
      split at h
      · simp at h
      · rename_i hok
        have hsp : sp = true → ∃ m tt dz e sp', σ.get b = some (.cells m tt dz e sp') ∧ m = off + cap * i.size ∧ e = elem := fun hs => by
          subst hs
          simp only [okSp] at hok
          cases hm : Nat.beq m (Nat.add off (Nat.mul cap i.size)) with
          | true =>
            rw [hm] at hok
            exact ⟨m, t, dz, e, sp0, hb, Nat.eq_of_beq_eq_true hm, Nat.eq_of_beq_eq_true hok⟩
          | false => rw [hm] at hok; cases hok
        split at h
        · rename_i ho
          have ho' : off = 0 := Nat.eq_of_beq_eq_true ho
          subst ho'
          obtain ⟨c, f, hc, _, _, h3, _⟩ := hr.cells hb hL
          obtain ⟨old, q1, q2, q3⟩ := cgets_some (t := t) (dz := dz) (len * i.size) 0 (fun j hj => by
            obtain ⟨av, _, e1, _, _⟩ := h3 j (by omega)
            exact ⟨av, by rw [Nat.zero_add]; exact e1⟩)
          have hold : rangeA σ b 0 (len * i.size) = some old := by
            unfold rangeA
            rw [hb]
            simp only
            rw [show Nat.ble (Nat.add 0 (len * i.size)) m = true from hle]
            exact q1
          obtain ⟨v, w', ρ', h1, h2, h3'⟩ := growOld_sound hr (ty := ty) ht hi hz hzl' hx hnew hlen hone hL hold hroom' hfit' h63' hsp
          simp only [Option.some.injEq] at h
          have hn : (killIf σ b sp).next = σ.next := by cases sp <;> rfl
          refine ⟨v, w', ρ', h1, ?_, ?_⟩
          · rw [show σ' = (growT (killIf σ b sp) t dz (Nat.mul len i.size) new (Nat.add len n) elem).2 from by rw [h]]
            have hnl : (mkCells (old ++ new) elem true) = .cells (len * i.size + new.length) (Tr.ofList (old ++ new) 0 .leaf) none elem true := by
              unfold mkCells; rw [List.length_append, q2]
            simp only [growA, hnl] at h2
            simp only [growT]
            refine h2.congrLast (by rw [hn]; exact Nat.le_refl _) (fun j hj => ?_)
            have hj : j < len * i.size + new.length := hj
            rw [cget_ofList_at, cget_ofList_at]
            rw [if_pos ⟨Nat.zero_le _, by rw [List.length_append, q2]; omega⟩]
            show (old ++ new)[j - 0]? = if len * i.size ≤ j ∧ j < len * i.size + new.length then new[j - len * i.size]? else cget t dz j
            by_cases hj2 : j < len * i.size
            · rw [if_neg (by omega), List.getElem?_append_left (by rw [Nat.sub_zero, q2]; exact hj2), Nat.sub_zero, q3 j hj2, Nat.zero_add]
            · rw [if_pos (by omega), List.getElem?_append_right (by rw [Nat.sub_zero, q2]; omega), q2]; rfl
          · rw [show r = (growT (killIf σ b sp) t dz (Nat.mul len i.size) new (Nat.add len n) elem).1 from by rw [h]]
            exact h3'
        · split at h
          · rename_i old hcs
            have hold : rangeA σ b off (len * i.size) = some old := by
              unfold rangeA
              rw [hb]
              simp only
              rw [show Nat.ble (Nat.add off (len * i.size)) m = true from hle]
              exact hcs
            obtain ⟨v, w', ρ', h1, h2, h3'⟩ := growOld_sound hr (ty := ty) ht hi hz hzl' hx hnew hlen hone hL hold hroom' hfit' h63' hsp
            simp only [Option.some.injEq] at h
            have h' : growA (killIf σ b sp) old new (len + n) elem = (r, σ') := h
            rw [h'] at h2 h3'
            exact ⟨v, w', ρ', h1, h2, h3'⟩
          · simp at h
  · simp at h

theorem appendA_sound [Sy] (hr : Rep P N ρ σ w) {st xt ty elem : TypeId} (ht : P.underlying st = some (.slice elem)) {s : AV} {n : Nat} {new : List AV} {r : AV} {σ' : Heap} (h : appendA P σ elem s n new = some (r, σ'))
    {sv xv : Value} {i : TypeInfo} {zv : Value} (hi : P.info? elem = some i) (hz : i.zero = some zv) {news : List Value} (hx : AppX P w xt xv i zv.cells n news) (hnew : conL ρ new = some news) (hlen : news.length = n * i.size)
    (hs : con ρ s = some sv) :
    ∃ v w' ρ', (Builtin.append_ #[st, xt] ty #[sv, xv]).run P w = .ok v w' ∧ Ext P N ρ σ w ρ' σ' w' ∧ con ρ' r = some v := by
  unfold appendA at h
  rw [hi] at h
  simp only at h
  split at h
  · simp at h
  · rename_i z hzz
    obtain ⟨i', zv', hi', hz', hzsc, hzcon⟩ := zeroL_cells hzz
    rw [hi] at hi'; cases hi'
    rw [hz] at hz'; cases hz'
    split at h
    · simp at h
    · rename_i hzl
      have hzl0 : z.length = i.size := Nat.eq_of_beq_eq_true hzl
      have hzl' : zv.cells.size = i.size := by rw [← Array.length_toList, conL_length (hzcon ρ), hzl0]
      have hcells : P.cellsOf elem = i.size := by simp [Program.cellsOf, hi]
      split at h
      · simp at h
      · rename_i hsc
        have hone := scalars_one hsc hnew
        split at h
        · rename_i len cap
          obtain rfl := con_lit hs
          split at h
          · simp at h
          · rename_i hl0
            have hl0' : len = 0 := Nat.eq_of_beq_eq_true hl0
            subst hl0'
            split at h
            · split at h
              · rename_i hn0
                have hn0' : n = 0 := Nat.eq_of_beq_eq_true hn0
                subst hn0'
                simp only [Option.some.injEq, Prod.mk.injEq] at h
                obtain ⟨rfl, rfl⟩ := h
                exact ⟨_, w, ρ, run_app_nil0 ht hi hx cap, Ext.refl hr, con_lit' _ _⟩
              · simp at h
            · rename_i hgt
              have hgt' := ble_f hgt
              split at h
              · rename_i hfit
                split at h
                · rename_i h63
                  simp only [Option.some.injEq] at h
                  have hfit' : 2 * n * i.bytes ≤ 281474976710656 := ble_t hfit
                  have h63' := ble_t h63
                  have hrun := run_app_grow (ty := ty) ht hi hz hx none 0 cap [] (fun W _ => run_firstCells_none W _ _ _ _) (by omega) (by omega) (by simpa using hfit')
                  obtain ⟨ρ', hext, hcon⟩ := growA_ext (w := w) hr hi hzl' (old := []) (conL_nil ρ) hnew n (grownCap w (0 + n) cap elem) (by simpa using grownCap_ge w (0 + n) cap elem)
                  rw [h] at hext hcon
                  refine ⟨_, _, ρ', hrun, ?_, ?_⟩
                  · simpa using hext
                  · simpa using hcon
                · simp at h
              · simp at h
        · rename_i b off len cap sp
          obtain ⟨L, hL, rfl⟩ := con_sl hs
          split at h
          · rename_i hroom
            have hroom' : len + n ≤ cap := ble_t hroom
            split at h
            · rename_i σ1 hst
              simp only [Option.some.injEq, Prod.mk.injEq] at h
              obtain ⟨rfl, rfl⟩ := h
              obtain ⟨w', hrun, hext⟩ := storeCellsA_run hr hst hnew hL
              have hcap := capOf_ge L cap sp
              have := run_app_room (ty := ty) ht hi hz hx ⟨L.blk, L.base + off, none⟩ len (capOf L cap sp) (by omega) (w' := w') (by
                rw [Addr.add_lit]
                have e : L.base + Nat.add off (Nat.mul len i.size) = L.base + off + len * i.size := by show L.base + (off + len * i.size) = _; omega
                rw [e] at hrun; exact hrun)
              exact ⟨_, w', ρ, this, hext, by simp only [con, hL, Option.map_some]; rfl⟩
            · simp at h
          · rename_i hroom
            have hroom' : cap < len + n := ble_f hroom
            split at h
            · simp at h
            · rename_i hfit
              have hfit' : 2 * (len + n) * i.bytes ≤ 281474976710656 := ble_t hfit
              split at h
              · simp at h
              · rename_i h63
                have h63' : len + n ≤ 4611686018427387904 := ble_t h63
                exact growFrom_sound hr ht hi hz hzl' hx hnew hlen hone hL hroom' hfit' h63' h
        · simp at h

end
end Go.Ev
