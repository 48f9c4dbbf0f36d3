import Derived.Test.YtinhlmelicmheaaGreatEv7
import Derived.Laws.Tables
namespace Go.Ev
open Go

section
variable {P : Program} {N : Nat} {ρ : Ren} {σ : Heap} {w : World} {E : Operand → Option AV} {ev : Operand → Value} {o : Oper} {r : AV}

theorem v_pick_sound [Sy] (hr : Rep P N ρ σ w) (hg : Good ρ E ev o.op.operands.toList) {c a b : Operand} (ho : o.op = .pick c a b) (h : v_pick P E σ o c a b = some r) :
    VOk P N ρ σ w (execOp ev o) r := by
  have hexec : execOp ev o = (do pure (.value (if ← asBool (ev c) then ev a else ev b))) := by simp only [execOp, ho]
  unfold v_pick at h
  split at h
  · rename_i hc
    have e := con_bool (hg.at (x := c) (by rw [ho]; simp [Op.operands]) hc)
    exact VOk.same hr (hg.at (x := a) (by rw [ho]; simp [Op.operands]) h) (by rw [hexec, e]; simp [asBool])
  · rename_i hc
    have e := con_bool (hg.at (x := c) (by rw [ho]; simp [Op.operands]) hc)
    exact VOk.same hr (hg.at (x := b) (by rw [ho]; simp [Op.operands]) h) (by rw [hexec, e]; simp [asBool])
  · simp at h

theorem v_load_sound [Sy] (hr : Rep P N ρ σ w) (hg : Good ρ E ev o.op.operands.toList) {t : TypeId} {a : Operand} (ho : o.op = .load t a) (h : v_load P E σ o t a = some r) :
    VOk P N ρ σ w (execOp ev o) r := by
  have hexec : execOp ev o = (do pure (.value (← Instr.loadAt t (ev a)))) := by simp only [execOp, ho]
  unfold v_load at h
  split at h
  · rename_i b off ha
    obtain ⟨L, hL, e⟩ := con_ptr (hg.at (x := a) (by rw [ho]; simp [Op.operands]) ha)
    obtain ⟨v, hv, hrun⟩ := loadA_run hr h hL
    refine VOk.same hr hv ?_
    rw [hexec, e]
    simp [Instr.loadAt, Instr.sureAddr, hrun]
  · rename_i b off s q ha
    obtain ⟨L, i, hL, hi, e⟩ := con_spt (hg.at (x := a) (by rw [ho]; simp [Op.operands]) ha)
    obtain ⟨v, hv, hrun⟩ := loadS_run hr h hL hi
    refine VOk.same hr hv ?_
    rw [hexec, e]
    simp [Instr.loadAt, Instr.sureAddr, hrun]
  · simp at h

theorem v_nilCheck_sound [Sy] (hr : Rep P N ρ σ w) (hg : Good ρ E ev o.op.operands.toList) {x : Operand} (ho : o.op = .nilCheck x) (h : v_nilCheck P E σ o x = some r) :
    VOk P N ρ σ w (execOp ev o) r := by
  unfold v_nilCheck at h
  split at h
  · rename_i b off ha
    simp only [Option.some.injEq] at h; subst h
    have hc := hg.at (x := x) (by rw [ho]; simp [Op.operands]) ha
    obtain ⟨L, hL, e⟩ := con_ptr hc
    refine VOk.same hr hc ?_
    simp [execOp, ho, e]
  · rename_i f xs ys ha
    simp only [Option.some.injEq] at h; subst h
    have hc := hg.at (x := x) (by rw [ho]; simp [Op.operands]) ha
    obtain ⟨vs, us, h1, h2, e⟩ := con_func hc
    refine VOk.same hr hc ?_
    simp [execOp, ho, e]
  · simp at h

theorem v_binOp_sound [Sy] (hr : Rep P N ρ σ w) (hg : Good ρ E ev o.op.operands.toList) {op : BinOp} {xt yt : TypeId} {x y : Operand} (ho : o.op = .binOp op xt x y yt) (h : v_binOp P E σ o op xt x y yt = some r) :
    VOk P N ρ σ w (execOp ev o) r := by
  unfold v_binOp at h
  split at h
  · rename_i a ha
    split at h
    · rename_i b hb
      exact binA_sound hr hg ho ha hb h
    · simp at h
  · simp at h

theorem v_unOp_sound [Sy] (hr : Rep P N ρ σ w) (hg : Good ρ E ev o.op.operands.toList) {op : UnOp} {t : TypeId} {x : Operand} (ho : o.op = .unOp op t x) (h : v_unOp P E σ o op t x = some r) :
    VOk P N ρ σ w (execOp ev o) r := by
  unfold v_unOp at h
  split at h
  · rename_i b hb
    simp only [Option.some.injEq] at h; subst h
    have e := con_bool (hg.at (x := x) (by rw [ho]; simp [Op.operands]) hb)
    refine VOk.same hr (con_bool' _ _) ?_
    simp [execOp, ho, e, Op.unary]
  · exact pureA_sound hr hg (by rw [ho]; simp) h

theorem bytesA_con [Sy] {l : List AV} : ∀ {ns : List Nat} {vs : List Value}, bytesA l = some ns → conL ρ l = some vs → vs = (ns.map fun n => Int.ofNat n).map (Value.int .u8) := by
  induction l with
  | nil => intro ns vs h hv; simp only [bytesA, Option.some.injEq] at h; subst h; simp only [conL, Option.some.injEq] at hv; subst hv; rfl
  | cons x l ih =>
    intro ns vs h hv
    obtain ⟨v, us, h1, h2, rfl⟩ := conL_cons.1 hv
    unfold bytesA at h
    split at h
    · rename_i h0; cases h0
    · rename_i n l' h0
      cases h0
      split at h
      · rename_i rest hrest
        simp only [Option.some.injEq] at h; subst h
        obtain rfl := con_int h1
        simp [ih hrest h2]
      · simp at h
    · simp at h

theorem freeze_size (W : World) (a : Addr) (n : Nat) : (W.freeze a n).heap.size = W.heap.size := by
  unfold World.freeze; split <;> simp

theorem heap_freeze (W : World) (a : Addr) (n : Nat) (k : Nat) (h : k ≠ a.block) : (W.freeze a n).heap[k]? = W.heap[k]? := by
  unfold World.freeze; split
  · rfl
  · simp only [Array.getElem?_modify]; rw [if_neg (by omega)]

/-- The cell behind a row's end is frozen: no name is touched. -/
theorem Rep.freezeEnd [Sy] (h : Rep P N ρ σ w) {b n : Nat} {t : Tr AV} {dz : Option AV} {e : TypeId} {sp : Bool} {L : Loc} (hb : σ.get b = some (.cells n t dz e sp)) (hL : ρ b = some L)
    {c : Array Value} {f : Nat × Nat} (hc : w.heap[L.blk]? = some (.cells c e f)) : Rep P N ρ σ (w.freeze ⟨L.blk, c.size, none⟩ 1) where
  blk b' B' L' hb' hL' := by
    obtain ⟨o, ho, hB⟩ := h.blk b' B' L' hb' hL'
    by_cases he : L'.blk = L.blk
    · have : b' = b := h.inj b' b B' _ L' L hb' hb hL' hL he
      subst this
      rw [hL] at hL'; cases hL'
      rw [hb] at hb'; cases hb'
      rw [hc] at ho; cases ho
      obtain ⟨c', f', e1, h1, h2, h3, h4⟩ := hB
      cases e1
      refine ⟨.cells c e (if f.1 == f.2 then (c.size, c.size + 1) else (min f.1 c.size, max f.2 (c.size + 1))), ?_, c, _, rfl, h1, h2, h3, ?_⟩
      · unfold World.freeze
        rw [if_neg (by decide)]
        simp only [Array.getElem?_modify, if_true, hc, Option.map_some]
      · right
        split
        · simp
        · rename_i hne
          rcases h4 with h4 | h4
          · simp [h4] at hne
          · simp; omega
    · exact ⟨o, by rw [heap_freeze _ _ _ _ he]; exact ho, hB⟩
  inj := h.inj
  low b' L' hL' := by rw [freeze_size]; exact h.low b' L' hL'
  fresh := h.fresh
  freshσ := h.freshσ
  room := by rw [freeze_size]; exact h.room

theorem below_freeze [Sy] {L : Loc} (hN : N ≤ L.blk) (k n : Nat) : RowKit.Below N w (w.freeze ⟨L.blk, k, none⟩ n) where
  os := by unfold World.freeze; split <;> rfl
  tape := by unfold World.freeze; split <;> rfl
  output := by unfold World.freeze; split <;> rfl
  size := by rw [freeze_size]; exact Nat.le_refl _
  block j hj := heap_freeze _ _ _ _ (by simp; omega)

theorem convT_eval [Sy] {k : IntKind} {e : SE} {m : Int} (h : e.eval = some m) : (convT k e).eval = some (wrapF k m) := by
  have hc : (SE.conv k e).eval = some (wrapF k m) := by simp only [SE.eval, h, Option.map_some]
  unfold convT
  split
  · rename_i i c lo hi
    rcases orE_cases (.conv k (.var i c lo hi)) (tryVar (fun x => some (wrapF k x)) i c lo hi) with q | ⟨e', h1, q⟩
    · rw [q]; exact hc
    · rw [q, ← tryVar_sound h1 h]
  · exact hc

theorem convE_eval [Sy] {k : IntKind} {e : SE} {m : Int} (h : e.eval = some m) : (convE k e).eval = some (wrapF k m) := by
  have hc : (SE.conv k e).eval = some (wrapF k m) := by simp only [SE.eval, h, Option.map_some]
  unfold convE
  split
  · rename_i lo hi hiv
    have hb := SE.iv_sound e hiv h
    split
    · rename_i hl
      split
      · rename_i hh
        have a := fitsI_iff.1 hl; have b := fitsI_iff.1 hh
        rw [wrapF_id (fitsI_iff.2 ⟨by omega, by omega⟩)]
        exact h
      · exact convT_eval h
    · exact convT_eval h
  · exact hc

theorem isBytes_con [Sy] : ∀ {cs : List AV} {vs : List Value}, cs.all isByte = true → conL ρ cs = some vs → ∃ ns : List Nat, vs = (ns.map fun n => Int.ofNat n).map (Value.int .u8) ∧ bytesV vs = some ns
  | [], vs, _, h => by simp only [conL, Option.some.injEq] at h; subst h; exact ⟨[], rfl, rfl⟩
  | x :: l, vs, h, hc => by
    obtain ⟨v, us, h1, h2, rfl⟩ := conL_cons.1 hc
    simp only [List.all_cons, Bool.and_eq_true] at h
    obtain ⟨ns, h3, h4⟩ := isBytes_con h.2 h2
    have key : ∀ n : Nat, v = .int .u8 (.ofNat n) → ∃ ns : List Nat, v :: us = (ns.map fun n => Int.ofNat n).map (Value.int .u8) ∧ bytesV (v :: us) = some ns := fun n hv => by
      subst hv
      refine ⟨n :: ns, by rw [h3]; rfl, ?_⟩
      simp only [bytesV, h4, Option.map_some]
    have hx := h.1
    unfold isByte at hx
    split at hx
    · rename_i n; exact key n (con_int h1)
    · rename_i e
      obtain ⟨p, hp, hv⟩ := con_sx h1
      split at hx
      · rename_i lo hi hiv
        have := SE.iv_sound e hiv hp
        have := leI_t hx
        refine key p.toNat ?_
        rw [hv]; congr 1
        simp only [Int.ofNat_eq_natCast]; omega
      · cases hx
    · cases hx

theorem v_convert_sound [Sy] (hr : Rep P N ρ σ w) (hg : Good ρ E ev o.op.operands.toList) {src dst : TypeId} {x : Operand} (ho : o.op = .convert src dst x) (h : v_convert P E σ o src dst x = some r) :
    VOk P N ρ σ w (execOp ev o) r := by
  have hexec : execOp ev o = (do pure (.value (← convert src dst (ev x)))) := by simp only [execOp, ho]
  have hmem : x ∈ o.op.operands.toList := by rw [ho]; simp [Op.operands]
  unfold v_convert at h
  split at h
  · rename_i k n ha
    have e := con_int (hg.at hmem ha)
    split at h
    · rename_i d hs
      split at h
      · rename_i k' hd
        simp only [Option.some.injEq] at h; subst h
        refine VOk.same hr (con_int' _ _ _) ?_
        rw [hexec, e, wrapF_eq]
        simp [convert, run_underlying hs, run_underlying hd, Conv.intToInt]
      · exact pureA_sound hr hg (by rw [ho]; simp) h
    · simp at h
  · rename_i k q ha
    obtain ⟨m, hm, e⟩ := con_sx (hg.at hmem ha)
    split at h
    · rename_i d hs
      split at h
      · rename_i k' hd
        simp only [Option.some.injEq] at h; subst h
        refine VOk.same hr (v := .int k' (k'.wrap m)) (by rw [con_sxMk (convE_eval hm), wrapF_eq]) ?_
        rw [hexec, e]
        simp [convert, run_underlying hs, run_underlying hd, Conv.intToInt]
      · simp at h
    · simp at h
  · rename_i l ha
    have e := con_str (hg.at hmem ha)
    split at h
    · rename_i d hs
      split at h
      · rename_i hd
        simp only [Option.some.injEq] at h; subst h
        refine VOk.same hr (con_str' _ _) ?_
        rw [hexec, e]
        simp [convert, run_underlying hs, run_underlying hd]
      · simp at h
    · simp at h
  · rename_i b off len cap sp ha
    have hc := hg.at hmem ha
    obtain ⟨L, hL, e⟩ := con_sl hc
    split at h
    · rename_i el hs
      split at h
      · rename_i el' hd
        split at h
        · rename_i hsd
          have hsd' : src = dst := Nat.eq_of_beq_eq_true hsd
          split at h
          · rename_i hu
            have hu' := isU8_spec hu
            split at h
            · rename_i n t dz e2 sp2 hb
              simp only [Option.some.injEq] at h; subst h
              obtain ⟨c, f, hcell, _⟩ := hr.cells hb hL
              refine ⟨ev x, w.freeze ⟨L.blk, c.size, none⟩ 1, hc, ?_, hr.freezeEnd hb hL hcell, below_freeze (hr.low _ _ hL).1 _ _⟩
              have hsh : w.shape? L.blk = some (e2, c.size) := by simp [World.shape?, hcell]
              subst hsd'
              rw [hexec, e]
              have hd' : el = el' := by rw [hs] at hd; cases hd; rfl
              subst hd'
              simp [convert, run_underlying hs, run_underlying hu', markStringish, hsh]
            · simp at h
          · simp at h
        · simp at h
      · rename_i hd
        split at h
        · rename_i hu
          have hu' := isU8_spec hu
          split at h
          · rename_i cs hcs
            have e4 : ∀ (ns : List Nat) (s : ByteArray), (ns.map fun n => Int.ofNat n).foldl (fun r n => r.push (UInt8.ofNat n.toNat)) s = s ++ bytesOf ns := by
              intro ns
              induction ns with
              | nil => intro s; apply ByteArray.ext; simp [bytesOf, ByteArray.data_append]
              | cons n ns ih =>
                intro s
                simp only [List.map_cons, List.foldl_cons, ih]
                apply ByteArray.ext
                simp [bytesOf, ByteArray.data_append]
            have e5 : ∀ l, ByteArray.empty ++ bytesOf l = bytesOf l := fun l => by apply ByteArray.ext; simp
            obtain ⟨vs, h1, h2, h3, _⟩ := rangeA_run hr hcs hL
            split at h
            · rename_i l hl
              simp only [Option.some.injEq] at h; subst h
              have e3 := bytesA_con hl h1
              refine VOk.same hr (con_str' _ _) ?_
              rw [hexec, e]
              simp only [Sem.run_bind, run_convert_bytes_string w src dst el _ _ _ hs hu' hd]
              rw [e3] at h3
              rw [run_bytesToString w _ _ _ _ h3, e4]
              simp [e5]
            · split at h
              · rename_i hall
                simp only [Option.some.injEq] at h; subst h
                obtain ⟨ns, e3, hb⟩ := isBytes_con hall h1
                refine VOk.same hr (v := .string (bytesOf ns)) (by simp only [con, h1, Option.bind_some, hb, Option.map_some]) ?_
                rw [hexec, e]
                simp only [Sem.run_bind, run_convert_bytes_string w src dst el _ _ _ hs hu' hd]
                rw [e3] at h3
                rw [run_bytesToString w _ _ _ _ h3, e4]
                simp [e5]
              · simp at h
          · simp at h
        · simp at h
      · simp at h
    · simp at h
  · exact pureA_sound hr hg (by rw [ho]; simp) h
  · simp at h

end
end Go.Ev
