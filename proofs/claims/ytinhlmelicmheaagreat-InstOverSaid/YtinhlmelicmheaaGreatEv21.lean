import Derived.Test.YtinhlmelicmheaaGreatEv20
namespace Go.Ev
open Go

section
variable {P : Program} {N : Nat} {ops : Array Oper} {ds : List DOp} {nt : Nat} {tm0 : Tr AV} {ρ0 : Ren} {σ0 : Heap} {w0 : World} {a0 : Act}
  {D : Nat} {R : Tr AV} {done : List DOp} {ρ : Ren} {σ : Heap} {w : World} {L : Array Bool} {a : Act} {nm : Nat → Option Nat} {F : CallF} {Q : Exit → Act → World → Prop}

/-! How many have run. -/

def cnt (n : Nat) (L : Array Bool) : Nat := (List.range n).countP fun i => L.getD i false

theorem cnt_set {n i : Nat} {L : Array Bool} (hi : i < n) (hs : i < L.size) (hn : ¬ lst L i) : cnt n (L.setIfInBounds i true) = cnt n L + 1 := by
  unfold cnt
  have key : ∀ (m : Nat), (List.range m).countP (fun k => (L.setIfInBounds i true).getD k false) = (List.range m).countP (fun k => L.getD k false) + (if i < m then 1 else 0) := by
    intro m
    induction m with
    | zero => simp
    | succ m ih =>
      rw [List.range_succ, List.countP_append, List.countP_append, ih, List.countP_singleton, List.countP_singleton]
      by_cases e : m = i
      · subst e
        have h1 : (L.setIfInBounds m true).getD m false = true := by simp [hs]
        have h2 : L.getD m false = false := by simpa [lst] using hn
        rw [h1, h2]; simp
      · have h1 : (L.setIfInBounds i true).getD m false = L.getD m false := getD_set_ne false (Ne.symm e)
        rw [h1]
        by_cases h2 : i < m
        · rw [if_pos h2, if_pos (show i < m + 1 by omega)]; omega
        · rw [if_neg h2, if_neg (show ¬ i < m + 1 by omega), Nat.add_zero, Nat.add_zero]
  rw [key, if_pos hi]

theorem cnt_full {n : Nat} {L : Array Bool} (h : n ≤ cnt n L) : ∀ i, i < n → lst L i := by
  unfold cnt at h
  have h1 := List.countP_le_length (p := fun i => L.getD i false) (l := List.range n)
  rw [List.length_range] at h1
  have h2 : (List.range n).countP (fun i => L.getD i false) = (List.range n).length := by rw [List.length_range]; omega
  rw [List.countP_eq_length] at h2
  intro i hi
  exact h2 i (List.mem_range.2 hi)

/-- Nothing more can run: all has. -/
theorem all_of_ready [Sy] (ht : Tab ops ds nt) (hs : L.size = ops.size) (h : Region.ready .any ops L = []) : ∀ i, i < ops.size → lst L i := by
  intro i
  induction i using Nat.strongRecOn with
  | _ i ih =>
    intro hi
    by_cases hl : lst L i
    · exact hl
    · exfalso
      have ho : ops[i]? = some ops[i] := Array.getElem?_eq_getElem hi
      have hb := ht.back i ops[i] (by simp)
      have hmem : i ∈ Region.ready .any ops L := by
        rw [mem_ready]
        refine ⟨?_, ops[i], ho, fun e he hbd => ?_⟩
        · have hlt : i < L.size := by omega
          simp only [lst, Array.getD_eq_getD_getElem?, Array.getElem?_eq_getElem hlt, Option.getD_some] at hl ⊢
          simpa using hl
        · unfold edgesBack at hb
          rw [List.all_eq_true] at hb
          have := hb e (by simpa using he)
          simp only [hbd] at this
          have hlt : e.on < i := ble_t this
          exact ih e.on hlt (by omega)
      rw [h] at hmem; simp at hmem

theorem readyL_mem {D : Nat} : ∀ {l : List DOp} {d : DOp}, d ∈ l → inD D d.idx = false → readyD D d.o = true → d ∈ readyL l D
  | [], d, h, _, _ => by simp at h
  | x :: l, d, h, h1, h2 => by
    simp only [readyL]
    rcases List.mem_cons.1 h with rfl | h
    · simp only [h1, h2]; simp
    · have ih := readyL_mem h h1 h2
      split
      · exact ih
      · split
        · exact List.mem_cons_of_mem _ ih
        · exact ih

theorem readyL_sub {D : Nat} : ∀ {l : List DOp} {d : DOp}, d ∈ readyL l D → d ∈ l ∧ inD D d.idx = false
  | [], d, h => by simp [readyL] at h
  | x :: l, d, h => by
    simp only [readyL] at h
    split at h
    · obtain ⟨p, q⟩ := readyL_sub h; exact ⟨List.mem_cons_of_mem _ p, q⟩
    · rename_i hx
      split at h
      · rcases List.mem_cons.1 h with rfl | h
        · exact ⟨by simp, hx⟩
        · obtain ⟨p, q⟩ := readyL_sub h; exact ⟨List.mem_cons_of_mem _ p, q⟩
      · obtain ⟨p, q⟩ := readyL_sub h; exact ⟨List.mem_cons_of_mem _ p, q⟩

/-- The quiet ones of a pass. -/
theorem pass_side [Sy] (ht : Tab ops ds nt) {tail : List PStep} {out : Tr AV × Heap} : ∀ (l : List DOp) (D : Nat) (R : Tr AV) (σ : Heap) (done : List DOp) (nm : Nat → Option Nat) (D' : Nat) (q : List DOp), (∀ d ∈ l, d ∈ ds) →
    passD l D = (D', q) → stepsD P F tm0 (quiets q tail) R σ = some out → Side P N ops ds nt tm0 ρ0 σ0 w0 a0 D R done ρ σ w L a nm →
    ∃ R1 σ1 nm1 done1, Side P N ops ds nt tm0 ρ0 σ0 w0 a0 D' R1 done1 ρ σ1 w L a nm1 ∧ (∀ x, x ∈ done1 ↔ x ∈ q ∨ x ∈ done) ∧ stepsD P F tm0 tail R1 σ1 = some out
  | [], D, R, σ, done, nm, D', q, _, hp, hs, h => by
    simp only [passD, Prod.mk.injEq] at hp
    obtain ⟨rfl, rfl⟩ := hp
    exact ⟨R, σ, nm, done, h, fun x => by simp, hs⟩
  | d :: l, D, R, σ, done, nm, D', q, hl, hp, hs, h => by
    have hl' : ∀ x ∈ l, x ∈ ds := fun x hx => hl x (List.mem_cons_of_mem _ hx)
    simp only [passD] at hp
    split at hp
    · exact pass_side ht l D R σ done nm D' q hl' hp hs h
    · rename_i hnew
      split at hp
      · exact pass_side ht l D R σ done nm D' q hl' hp hs h
      · rename_i hq
        split at hp
        · rename_i hr
          simp only [Prod.mk.injEq] at hp
          obtain ⟨rfl, rfl⟩ := hp
          have hp1 : passD l (addD D d.idx) = ((passD l (addD D d.idx)).1, (passD l (addD D d.idx)).2) := rfl
          simp only [quiets, stepsD] at hs
          split at hs
          · rename_i R1 σ1 hex
            obtain ⟨nm', h'⟩ := h.absq ht (hl d (by simp)) hnew hq hr hex (done' := d :: done) (fun x => by simp)
            obtain ⟨R2, σ2, nm2, done2, h2, hd2, hs2⟩ := pass_side ht l _ R1 σ1 (d :: done) nm' _ _ hl' hp1 hs h'
            exact ⟨R2, σ2, nm2, done2, h2, fun x => by
              rw [hd2, List.mem_cons, List.mem_cons]
              exact ⟨fun h => h.elim (fun r => .inl (.inr r)) (fun h => h.elim (fun r => .inl (.inl r)) .inr), fun h => h.elim (fun h => h.elim (fun r => .inr (.inl r)) .inl) (fun r => .inr (.inr r))⟩, hs2⟩
          · simp at hs
        · exact pass_side ht l D R σ done nm D' q hl' hp hs h

theorem againA_cons {tm0 R : Tr AV} {σ : Heap} (x : DOp) (l : List DOp) : againA P tm0 R σ (x :: l) = (againA P tm0 R σ [x] && againA P tm0 R σ l) := by
  simp only [againA]
  split
  · simp
  · split
    · split
      · split
        · simp
        · simp
      · simp
    · simp
  · simp

theorem againA_all [Sy] {tm0 R : Tr AV} {σ : Heap} {l : List DOp} : againA P tm0 R σ l = true ↔ ∀ x ∈ l, againA P tm0 R σ [x] = true := by
  induction l with
  | nil => simp [againA]
  | cons x l ih =>
    rw [againA_cons, Bool.and_eq_true, ih]
    simp

/-- The region, whatever order is drawn. -/
theorem draw_main [Sy] (hF : FOk P N F) (ht : Tab ops ds nt) {Rf : Tr AV} {σf : Heap}
    (hQ : ∀ D R' done ρ w L a nm, R' = Rf → Side P N ops ds nt tm0 ρ0 σ0 w0 a0 D R' done ρ σf w L a nm → (∀ i, i < ops.size → lst L i) → Q .normal a w) :
    ∀ (f : Nat) (D : Nat) (R : Tr AV) (done done' : List DOp) (σ : Heap) (p : List PStep), planD P ds f D done = some p → (∀ x, x ∈ done' ↔ x ∈ done) → stepsD P F tm0 p R σ = some (Rf, σf) →
    ∀ (fuel : Nat) (ρ : Ren) (w : World) (L : Array Bool) (a : Act) (nm : Nat → Option Nat), Side P N ops ds nt tm0 ρ0 σ0 w0 a0 D R done' ρ σ w L a nm → ops.size ≤ fuel + cnt ops.size L →
      wpAny P .any ops Q fuel L a w := by
  intro f
  induction f with
  | zero => intro D R done done' σ p hp; simp [planD] at hp
  | succ f ihf =>
    intro D R done done' σ p hp hdd hs fuel ρ w L a nm hside hfuel
    simp only [planD] at hp
    generalize hpass : passD ds D = pr at hp
    obtain ⟨D1, q⟩ := pr
    simp only at hp
    split at hp
    · -- no operation more that may turn what is there
      rename_i hrl
      split at hp
      · rename_i hall
        simp only [Option.some.injEq] at hp; subst hp
        obtain ⟨R1, σ1, nm1, done1, h1, _, hs1⟩ := pass_side ht ds D R σ done' nm D1 q (fun d hd => hd) hpass hs hside
        simp only [stepsD, Option.some.injEq, Prod.mk.injEq] at hs1
        obtain ⟨rfl, rfl⟩ := hs1
        have hallD : ∀ d ∈ ds, inD D1 d.idx = true := fun d hd => List.all_eq_true.1 hall d hd
        clear hside hs
        -- what has run ahead is taken one by one
        induction fuel generalizing ρ w L a with
        | zero =>
          have hfull := cnt_full (L := L) (by omega : ops.size ≤ cnt ops.size L)
          refine ⟨?_, hQ _ _ _ _ _ _ _ _ rfl h1 hfull⟩
          cases hr : Region.ready .any ops L with
          | nil => rfl
          | cons i rs =>
            exfalso
            have hmem : i ∈ Region.ready .any ops L := by rw [hr]; simp
            obtain ⟨h0, o, ho, _⟩ := mem_ready.1 hmem
            have hi := (Array.getElem?_eq_some_iff.1 ho).1
            have := hfull i hi
            have hlt : i < L.size := by rw [h1.lsize]; exact hi
            simp only [lst, Array.getD_eq_getD_getElem?, Array.getElem?_eq_getElem hlt, Option.getD_some] at this h0
            rw [this] at h0; cases h0
        | succ fuel ih =>
          refine ⟨fun hr => hQ _ _ _ _ _ _ _ _ rfl h1 (all_of_ready ht h1.lsize hr), fun i hi => ?_⟩
          obtain ⟨h0, o, ho, hedges⟩ := mem_ready.1 hi
          have hi' := (Array.getElem?_eq_some_iff.1 ho).1
          obtain ⟨d, hds, rfl⟩ := ht.get hi'
          have hlt : d.idx < L.size := by rw [h1.lsize]; exact hi'
          have hnl : ¬ lst L d.idx := by
            simp only [lst, Array.getD_eq_getD_getElem?, Array.getElem?_eq_getElem hlt, Option.getD_some] at h0 ⊢
            rw [h0]; simp
          have hop : ops[d.idx]? = some d.o := by have := (ht.good hds).op; simpa using this
          rw [hop] at ho; cases ho
          refine h1.realPend ht hds (hallD d hds) hnl (fun e he hb => hedges e (by simpa using he) hb) fun ρ' w' a' h2 => ?_
          exact ih ρ' w' _ a' (by rw [cnt_set hi' hlt hnl]; omega) h2
      · simp at hp
    · rename_i e hrl
      split at hp
      · rename_i hEe
        split at hp
        · rename_i rest hrest
          simp only [Option.some.injEq] at hp; subst hp
          obtain ⟨R1, σ1, nm1, done1, h1, hd1, hs1⟩ := pass_side ht ds D R σ done' nm D1 q (fun d hd => hd) hpass hs hside
          have hemem : e ∈ readyL ds D1 := by rw [hrl]; simp
          obtain ⟨heds, henew⟩ := readyL_sub hemem
          simp only [stepsD] at hs1
          split at hs1
          · rename_i R2 σ2 hex
            split at hs1
            · rename_i hag
              clear hside hs
              induction fuel generalizing ρ w L a with
              | zero =>
                exfalso
                have hfull := cnt_full (L := L) (by omega : ops.size ≤ cnt ops.size L)
                have := h1.sub _ (hfull e.idx (ht.lt heds))
                rw [this] at henew; cases henew
              | succ fuel ih =>
                refine ⟨fun hr => ?_, fun i hi => ?_⟩
                · exfalso
                  have := h1.sub _ (all_of_ready ht h1.lsize hr e.idx (ht.lt heds))
                  rw [this] at henew; cases henew
                · obtain ⟨h0, o, ho, hedges⟩ := mem_ready.1 hi
                  have hi' := (Array.getElem?_eq_some_iff.1 ho).1
                  obtain ⟨d, hds, rfl⟩ := ht.get hi'
                  have hlt : d.idx < L.size := by rw [h1.lsize]; exact hi'
                  have hnl : ¬ lst L d.idx := by
                    simp only [lst, Array.getD_eq_getD_getElem?, Array.getElem?_eq_getElem hlt, Option.getD_some] at h0 ⊢
                    rw [h0]; simp
                  have hop : ops[d.idx]? = some d.o := by have := (ht.good hds).op; simpa using this
                  rw [hop] at ho; cases ho
                  have hready : ∀ e ∈ d.o.after.toList, Region.binds .any e = true → lst L e.on := fun e he hb => hedges e (by simpa using he) hb
                  cases hD : inD D1 d.idx with
                  | true =>
                    refine h1.realPend ht hds hD hnl hready fun ρ' w' a' h2 => ?_
                    exact ih ρ' w' _ a' (by rw [cnt_set hi' hlt hnl]; omega) h2
                  | false =>
                    have hrd : readyD D1 d.o = true := readyD_iff.2 fun e he hb => h1.sub _ (hready e he hb)
                    have hmem := readyL_mem hds hD hrd
                    rw [hrl] at hmem
                    have hde : d = e := by simpa using hmem
                    subst hde
                    have hag' : againA P tm0 R2 σ2 (again1 P d.bef done1) = true := by
                      have hsub : ∀ (l1 l2 : List DOp), (∀ x ∈ l1, x ∈ l2) → againA P tm0 R2 σ2 l2 = true → againA P tm0 R2 σ2 l1 = true := fun l1 l2 hsub h2 =>
                        againA_all.2 fun x hx => againA_all.1 h2 x (hsub x hx)
                      refine hsub _ _ (fun x hx => ?_) hag
                      have hsub1 : ∀ (l : List DOp) (x : DOp), x ∈ again1 P d.bef l → x ∈ l ∧ isLoad P x.o = true ∧ inD d.bef x.idx = false := by
                        intro l
                        induction l with
                        | nil => intro x hx; simp [again1] at hx
                        | cons y l ihl =>
                          intro x hx
                          simp only [again1] at hx
                          split at hx
                          · rename_i h6
                            split at hx
                            · obtain ⟨r1, r2⟩ := ihl x hx; exact ⟨List.mem_cons_of_mem _ r1, r2⟩
                            · rename_i h7
                              rcases List.mem_cons.1 hx with rfl | hx
                              · exact ⟨by simp, h6, h7⟩
                              · obtain ⟨r1, r2⟩ := ihl x hx; exact ⟨List.mem_cons_of_mem _ r1, r2⟩
                          · obtain ⟨r1, r2⟩ := ihl x hx; exact ⟨List.mem_cons_of_mem _ r1, r2⟩
                      obtain ⟨r1, r2, r3⟩ := hsub1 _ _ hx
                      refine again1_mem ?_ r2 r3
                      rcases (hd1 x).1 r1 with r | r
                      · exact List.mem_append_left _ r
                      · exact List.mem_append_right _ ((hdd x).1 r)
                    refine h1.realAct hF ht hds hD hEe hready hex hag' fun ρ' w' a' h2 => ?_
                    refine ihf _ _ (q ++ done) done1 _ rest hrest (fun x => by rw [hd1, List.mem_append, hdd]) hs1 fuel ρ' w' _ a' _ h2 ?_
                    rw [cnt_set hi' hlt hnl]; omega
            · simp at hs1
          · simp at hs1
        · simp at hp
      · simp at hp
    · simp at hp

end
end Go.Ev
