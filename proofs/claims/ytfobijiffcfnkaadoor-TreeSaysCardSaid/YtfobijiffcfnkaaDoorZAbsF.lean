/- That the step of one operation is sound; no condition. -/
import Derived.Test.YtfobijiffcfnkaaDoorZAbsE
namespace Go.Ab

theorem condF {c : Bool} {A : Prop} : (bif c then A else False) = (c = true ∧ A) := by cases c <;> simp

section
variable {P : Program} {tab : Tab} {nG : Nat} {G0 : Nat → Option Obj} {tm : List AV} {hp : List (Option Blk)} {o : Oper} {k : OK}

def Snd (P : Program) (nG : Nat) (G0 : Nat → Option Obj) (o : Oper) (tm : List AV) (hp : List (Option Blk)) (v : AV) (ws : List (Nat × Blk)) (rd : List Nat) : Prop :=
  ∀ n0, OpSnd P nG G0 n0 o v ws rd (tmF tm) (hpF hp)

theorem Snd.conv {v v' : AV} {ws : List (Nat × Blk)} {rd : List Nat} (h : Snd P nG G0 o tm hp v ws rd) (hc : ∀ K S w u, VR K S w v u → VR K S w v' u) : Snd P nG G0 o tm hp v' ws rd := by
  intro n0 n K S tm hp a w hr hx hh hws next QC hn
  exact h n0 n K S tm hp a w hr hx hh hws next QC fun u w' K' S' hv h1 h2 h3 => hn u w' K' S' (hc _ _ _ _ hv) h1 h2 h3

def Give (P : Program) (nG : Nat) (G0 : Nat → Option Obj) (o : Oper) (tm : List AV) (hp : List (Option Blk)) (k : OK) : Prop :=
  ∃ v ws rd, Snd P nG G0 o tm hp v ws rd ∧ k v ws rd

theorem flatCs_eq {cs : List AV} (h : flatCs cs = true) : cs.all (fun y => match y with | .agg _ => false | .tup _ => false | _ => true) = true := h

theorem kLoad_snd (hP : ProgOk P tab) {t : TypeId} {x : Operand} (ho : o.op = .load t x) (h : kLoad tab tm hp t x k) : Give P nG G0 o tm hp k := by
  unfold kLoad at h
  simp only [forceL_eq, loadK_eq, condF] at h
  split at h
  · exact h.elim
  · rename_i ti ht
    have hti := hP.tab t ti ht
    split at h
    · rename_i id off he
      split at h
      · rename_i cs hb
        obtain ⟨h1, h2⟩ := h
        simp at h1
        exact ⟨_, _, _, fun n0 => snd_load_var hti ho he hb (by simp) (by simpa using h1.1) (flatCs_eq h1.2), h2⟩
      · exact h.elim
    · rename_i cs he
      obtain ⟨h1, h2⟩ := h
      simp at h1
      exact ⟨_, _, _, fun n0 => snd_load_rptr hti ho he (by simpa using h1.1) (flatCs_eq h1.2), h2⟩
    · rename_i sz id i off he
      split at h
      · rename_i sz' xs hb
        obtain ⟨h0, h⟩ := h
        obtain ⟨c, ⟨z, hz, hc⟩, h1, h2⟩ := withCells_ex h
        simp at h1 h0
        subst h0
        exact ⟨_, _, _, fun n0 => snd_load_eref hti ho he hb (by simp) hz hc (by simpa using h1.1) (flatCs_eq h1.2), h2⟩
      · exact h.elim
    · exact h.elim

theorem kStore_snd (hP : ProgOk P tab) {t : TypeId} {x y : Operand} (ho : o.op = .store t x y) (h : kStore tab tm hp t x y k) : Give P nG G0 o tm hp k := by
  unfold kStore at h
  simp only [forceK_eq, condF] at h
  split at h
  · exact h.elim
  · rename_i ti ht
    have hti := hP.tab t ti ht
    split at h
    · rename_i id off he
      split at h
      · rename_i cs hb
        obtain ⟨h1, h2⟩ := h
        simp at h1
        exact ⟨_, _, _, fun n0 => snd_store_var hti ho he hb (by simp) h1.1.1 h1.1.2 h1.2, h2⟩
      · exact h.elim
    · rename_i sz id i off he
      split at h
      · rename_i sz' xs hb
        obtain ⟨h1, h2⟩ := h
        simp only [Bool.and_eq_true, beq_iff_eq, decide_eq_true_eq] at h1
        obtain ⟨⟨⟨⟨rfl, h3⟩, h4⟩, h5⟩, h6⟩ := h1
        exact ⟨_, _, _, fun n0 => snd_store_arr hti ho he hb (by simp) h3 h4 h5 h6, h2⟩
      · exact h.elim
    · exact h.elim

theorem notDead_ne {v : AV} (h : notDead v = true) : v ≠ .dead := by rintro rfl; cases h

theorem kFieldAddr_snd (hP : ProgOk P tab) {t : TypeId} {x : Operand} {f : Nat} (ho : o.op = .fieldAddr t x f) (h : kFieldAddr tab tm t x f k) : Give P nG G0 o tm hp k := by
  unfold kFieldAddr at h
  simp only [forceK_eq, condF] at h
  split at h
  · exact h.elim
  rename_i ti ht
  split at h
  · rename_i fs hk
    split at h
    · rename_i off ft hf
      split at h
      · rename_i fi hft
        obtain ⟨h1, h2⟩ := h
        simp at h1
        exact ⟨_, _, _, fun n0 => snd_fieldAddr (hP.tab t ti ht) hk hf (hP.tab ft fi hft) (by simpa using h1.2) ho (notDead_ne h1.1), h2⟩
      · exact h.elim
    · exact h.elim
  · exact h.elim

theorem kIndexAddr_snd (hP : ProgOk P tab) {t : TypeId} {x i : Operand} (ho : o.op = .indexAddr t x i) (h : kIndexAddr tab tm t x i k) : Give P nG G0 o tm hp k := by
  unfold kIndexAddr at h
  simp only [forceK_eq, condF] at h
  split at h
  · exact h.elim
  rename_i ti ht
  have hti := hP.tab t ti ht
  split at h
  · rename_i kd j hi
    split at h
    · rename_i e hk
      split at h
      · exact h.elim
      rename_i ei he
      have hei := hP.tab e ei he
      split at h
      · rename_i sz nil tok xs hx
        obtain ⟨h1, h2, h3⟩ := h
        obtain ⟨z, h4, h5⟩ := withCells_ex h3
        simp at h1
        exact ⟨_, _, _, fun n0 => snd_indexAddr_sl hti hk hei ho hx hi h1 h2 h4, h5⟩
      · rename_i sz id off len hx
        obtain ⟨h1, h2, h3, h5⟩ := h
        simp at h1
        exact ⟨_, _, _, fun n0 => snd_indexAddr_rsl hti hk hei ho hx hi h1 h2 h3, h5⟩
      · exact h.elim
    · rename_i m e hk
      split at h
      · exact h.elim
      rename_i ei he
      obtain ⟨h1, h2, h3, h4⟩ := h
      exact ⟨_, _, _, fun n0 => snd_indexAddr_arr hti hk (hP.tab e ei he) ho hi h1 h2 (notDead_ne h3), h4⟩
    · exact h.elim
  · exact h.elim

theorem kIndex_snd (hP : ProgOk P tab) {t : TypeId} {x i : Operand} (ho : o.op = .index t x i) (h : kIndex tab tm t x i k) : Give P nG G0 o tm hp k := by
  unfold kIndex at h
  simp only [forceL_eq, loadK_eq, condF] at h
  split at h
  · exact h.elim
  rename_i ti ht
  have hti := hP.tab t ti ht
  split at h
  · rename_i kd j hi
    split at h
    · rename_i hk
      split at h
      · rename_i s hx
        obtain ⟨h1, c, h2, h3⟩ := h
        exact ⟨_, _, _, fun n0 => snd_index_str hti hk ho hx hi h1 h2, h3⟩
      · exact h.elim
    · rename_i m e hk
      split at h
      · exact h.elim
      rename_i ei he
      split at h
      · rename_i cs hx
        obtain ⟨h1, h2, h3, h4⟩ := h
        simp only [Bool.and_eq_true, decide_eq_true_eq] at h3
        exact ⟨_, _, _, fun n0 => snd_index_arr hti hk (hP.tab e ei he) ho hx hi h1 h2 h3.2 (flatCs_eq h3.1.2), h4⟩
      · exact h.elim
    · exact h.elim
  · exact h.elim

theorem loOf_ex {x : Option Operand} {k : Int → Prop} (h : loOf tm x k) : ∃ l, k l ∧ (0 ≤ l → (x = none ∧ l.toNat = 0) ∨ ∃ y kd, x = some y ∧ evA (tmF tm) y = .int kd l.toNat) := by
  cases x with
  | none => exact ⟨0, h, fun _ => .inl ⟨rfl, rfl⟩⟩
  | some y =>
    simp only [loOf] at h
    split at h
    · rename_i kd j hy
      exact ⟨j, h, fun h0 => .inr ⟨y, kd, rfl, by rw [Int.toNat_of_nonneg h0]; exact hy⟩⟩
    · exact h.elim

theorem hiOf_ex {x : Option Operand} {n : Nat} {k : Int → Prop} (h : hiOf tm x n k) : ∃ l, k l ∧ (0 ≤ l → (x = none ∧ l.toNat = n) ∨ ∃ y kd, x = some y ∧ evA (tmF tm) y = .int kd l.toNat) := by
  cases x with
  | none => exact ⟨n, h, fun _ => .inl ⟨rfl, by simp⟩⟩
  | some y =>
    simp only [hiOf] at h
    split at h
    · rename_i kd j hy
      exact ⟨j, h, fun h0 => .inr ⟨y, kd, rfl, by rw [Int.toNat_of_nonneg h0]; exact hy⟩⟩
    · exact h.elim

theorem kSlice_snd (hP : ProgOk P tab) {t : TypeId} {x : Operand} {lo hi : Option Operand} (ho : o.op = .slice t x lo hi none) (h : kSlice tab tm t x lo hi k) : Give P nG G0 o tm hp k := by
  unfold kSlice at h
  simp only [condF] at h
  split at h
  · exact h.elim
  rename_i ti ht
  have hti := hP.tab t ti ht
  split at h
  · rename_i hk
    split at h
    · rename_i s hx
      obtain ⟨l, h, hl⟩ := loOf_ex h
      obtain ⟨r, h, hr⟩ := hiOf_ex h
      obtain ⟨h1, h2, h3, h4⟩ := h
      have hr := hr (by omega)
      have hl := hl h1
      have e1 : l.toNat ≤ r.toNat := by omega
      have e2 : r.toNat ≤ s.length := by omega
      rcases hl with ⟨rfl, hl1⟩ | ⟨y, kd, rfl, hl1⟩ <;> rcases hr with ⟨rfl, hr1⟩ | ⟨y', kd', rfl, hr1⟩
      · exact ⟨_, _, _, fun n0 => snd_slice_str hti hk ho hx hl1 hr1 e1 e2, h4⟩
      · exact ⟨_, _, _, fun n0 => snd_slice_str hti hk ho hx hl1 ⟨_, hr1⟩ e1 e2, h4⟩
      · exact ⟨_, _, _, fun n0 => snd_slice_str hti hk ho hx ⟨_, hl1⟩ hr1 e1 e2, h4⟩
      · exact ⟨_, _, _, fun n0 => snd_slice_str hti hk ho hx ⟨_, hl1⟩ ⟨_, hr1⟩ e1 e2, h4⟩
    · exact h.elim
  · rename_i e hk
    split at h
    · exact h.elim
    rename_i ei he
    split at h
    · rename_i sz nil tok xs hx
      obtain ⟨h0, h⟩ := h
      obtain ⟨l, h, hl⟩ := loOf_ex h
      obtain ⟨r, h, hr⟩ := hiOf_ex h
      obtain ⟨h1, h2, h3, h4⟩ := h
      have hr := hr (by omega)
      have hl := hl h1
      have e0 : sz = ei.size := by simpa using h0
      have e1 : l.toNat ≤ r.toNat := by omega
      have e2 : r.toNat ≤ xs.length := by omega
      have hei := hP.tab e ei he
      rcases hl with ⟨rfl, hl1⟩ | ⟨y, kd, rfl, hl1⟩ <;> rcases hr with ⟨rfl, hr1⟩ | ⟨y', kd', rfl, hr1⟩
      · exact ⟨_, _, _, fun n0 => snd_slice_sl hti hk hei ho hx e0 hl1 hr1 e1 e2, h4⟩
      · exact ⟨_, _, _, fun n0 => snd_slice_sl hti hk hei ho hx e0 hl1 ⟨_, hr1⟩ e1 e2, h4⟩
      · exact ⟨_, _, _, fun n0 => snd_slice_sl hti hk hei ho hx e0 ⟨_, hl1⟩ hr1 e1 e2, h4⟩
      · exact ⟨_, _, _, fun n0 => snd_slice_sl hti hk hei ho hx e0 ⟨_, hl1⟩ ⟨_, hr1⟩ e1 e2, h4⟩
    · exact h.elim
  · exact h.elim

theorem kField_snd (hP : ProgOk P tab) {t : TypeId} {x : Operand} {f : Nat} (ho : o.op = .field t x f) (h : kField tab tm t x f k) : Give P nG G0 o tm hp k := by
  unfold kField at h
  simp only [forceL_eq, loadK_eq, condF] at h
  split at h
  · exact h.elim
  rename_i ti ht
  split at h
  · rename_i fs hk
    split at h
    · rename_i off ft hf
      split at h
      · rename_i fi hft
        split at h
        · rename_i cs hx
          obtain ⟨h1, h2⟩ := h
          simp at h1
          exact ⟨_, _, _, fun n0 => snd_field (hP.tab t ti ht) hk hf (hP.tab ft fi hft) ho hx (by simpa using h1.1) (flatCs_eq h1.2), h2⟩
        · exact h.elim
      · exact h.elim
    · exact h.elim
  · exact h.elim

theorem eqK_ex {op : BinOp} {b : Bool} (h : eqK op b k) : (op = .eql ∧ k (.bool b) [] []) ∨ (op = .neq ∧ k (.bool (!b)) [] []) := by
  cases op <;> simp only [eqK] at h <;> first | exact h.elim | exact .inl ⟨rfl, h⟩ | exact .inr ⟨rfl, h⟩

theorem kBin_snd (hP : ProgOk P tab) {op : BinOp} {xt yt : TypeId} {x y : Operand} (ho : o.op = .binOp op xt x y yt) (h : kBin tab tm op xt x y k) : Give P nG G0 o tm hp k := by
  unfold kBin at h
  simp only [forceK_eq, condF] at h
  split at h
  · rename_i kd i hx
    split at h
    · rename_i kd' j hy
      split at h
      · exact ⟨_, _, _, fun n0 => snd_shr ho hx hy h.1, h.2⟩
      · obtain ⟨e, h⟩ := h
        have e : kd' = kd := by simpa using e
        subst e
        exact ⟨_, _, _, fun n0 => snd_div ho hx hy h.1 (.inl rfl), h.2⟩
      · obtain ⟨e, h⟩ := h
        have e : kd' = kd := by simpa using e
        subst e
        exact ⟨_, _, _, fun n0 => snd_div ho hx hy h.1 (.inr rfl), h.2⟩
      · obtain ⟨e, h⟩ := h
        have e : kd' = kd := by simpa using e
        subst e
        split at h
        · rename_i r hr
          exact ⟨_, _, _, fun n0 => snd_arith ho hx hy hr, h⟩
        · exact h.elim
    · exact h.elim
  · rename_i s hx
    split at h
    · rename_i r hy
      split at h
      · exact ⟨_, _, _, fun n0 => snd_concat ho hx hy h.1, h.2⟩
      · exact ⟨_, _, _, fun n0 => snd_streq ho hx hy (.inl rfl), h⟩
      · exact ⟨_, _, _, fun n0 => snd_streq ho hx hy (.inr rfl), h⟩
      · exact h.elim
    · exact h.elim
  · rename_i s hx
    split at h
    · rename_i r hy
      split at h
      · rename_i ti ht
        split at h
        · rename_i hk
          rcases eqK_ex h with ⟨rfl, h2⟩ | ⟨rfl, h2⟩
          · exact ⟨_, _, _, fun n0 => snd_booleq (hP.tab _ ti ht) hk ho hx hy (.inl rfl), h2⟩
          · exact ⟨_, _, _, fun n0 => snd_booleq (hP.tab _ ti ht) hk ho hx hy (.inr rfl), h2⟩
        · exact h.elim
      · exact h.elim
    · exact h.elim
  · rename_i sz nil tok xs hx
    split at h
    · rename_i hy
      split at h
      · rename_i ti ht
        split at h
        · rename_i e hk
          rcases eqK_ex h with ⟨rfl, h2⟩ | ⟨rfl, h2⟩
          · exact ⟨_, _, _, fun n0 => snd_nileq (hP.tab _ ti ht) hk ho hx hy (.inl rfl), h2⟩
          · exact ⟨_, _, _, fun n0 => snd_nileq (hP.tab _ ti ht) hk ho hx hy (.inr rfl), h2⟩
        · exact h.elim
      · exact h.elim
    · exact h.elim
  · rename_i ys hx
    split at h
    · rename_i zs hy
      split at h
      · rename_i ti ht
        split at h
        · rename_i plan hplan
          obtain ⟨h1, h2⟩ := h
          simp only [Bool.and_eq_true] at h1
          rcases eqK_ex h2 with ⟨rfl, h2⟩ | ⟨rfl, h2⟩
          · exact ⟨_, _, _, fun n0 => snd_aggeq hP ht h1.1.1 hplan ho hx hy h1.1.2 h1.2 (.inl rfl), h2⟩
          · exact ⟨_, _, _, fun n0 => snd_aggeq hP ht h1.1.1 hplan ho hx hy h1.1.2 h1.2 (.inr rfl), h2⟩
        · exact h.elim
      · exact h.elim
    · exact h.elim
  · rename_i hx
    split at h
    · split at h
      · rename_i ti ht
        split at h
        · rename_i hk
          rcases eqK_ex h with ⟨rfl, h2⟩ | ⟨rfl, h2⟩
          · exact ⟨_, _, _, fun n0 => snd_ifaceeq (b := true) (hP.tab _ ti ht) hk ho hx (.inl rfl), h2⟩
          · exact ⟨_, _, _, fun n0 => snd_ifaceeq (b := true) (hP.tab _ ti ht) hk ho hx (.inr rfl), h2⟩
        · exact h.elim
      · exact h.elim
    · exact h.elim
  · rename_i hx
    split at h
    · split at h
      · rename_i ti ht
        split at h
        · rename_i hk
          rcases eqK_ex h with ⟨rfl, h2⟩ | ⟨rfl, h2⟩
          · exact ⟨_, _, _, fun n0 => snd_ifaceeq (b := false) (hP.tab _ ti ht) hk ho hx (.inl rfl), h2⟩
          · exact ⟨_, _, _, fun n0 => snd_ifaceeq (b := false) (hP.tab _ ti ht) hk ho hx (.inr rfl), h2⟩
        · exact h.elim
      · exact h.elim
    · exact h.elim
  · exact h.elim

theorem kNot_snd {t : TypeId} {x : Operand} (ho : o.op = .unOp .not t x) (h : kNot tm x k) : Give P nG G0 o tm hp k := by
  unfold kNot at h
  split at h
  · rename_i b hx; exact ⟨_, _, _, fun n0 => snd_not ho hx, h⟩
  · exact h.elim

theorem kConv_snd (hP : ProgOk P tab) {s t : TypeId} {x : Operand} (ho : o.op = .convert s t x) (h : kConv tab tm s t x k) : Give P nG G0 o tm hp k := by
  unfold kConv at h
  simp only [condF] at h
  split at h
  · rename_i si ti hs ht
    split at h
    · rename_i kd kd' hk hk'
      split at h
      · rename_i kd2 i hx
        obtain ⟨h1, h2⟩ := h
        simp at h1
        subst h1
        exact ⟨_, _, _, fun n0 => snd_convert (hP.tab _ si hs) (hP.tab _ ti ht) hk hk' ho hx, h2⟩
      · exact h.elim
    · exact h.elim
  · exact h.elim

theorem kMin_snd {x y : Operand} {ts : Array TypeId} {mx : Bool} (ho : o.op = .call { callee := .builtin (if mx then .max else .min), args := #[x, y], argTypes := ts }) (h : kMin tm mx x y k) : Give P nG G0 o tm hp k := by
  unfold kMin at h
  split at h
  · rename_i kd i kd' j hx hy
    cases mx
    · exact ⟨_, _, _, fun n0 => snd_min (b := .min) (.inl rfl) ho hx hy, h⟩
    · exact ⟨_, _, _, fun n0 => snd_min (b := .max) (.inr rfl) ho hx hy, h⟩
  · exact h.elim

theorem kExtract_snd {x : Operand} {i : Nat} (ho : o.op = .extract x i) (h : kExtract tm x i k) : Give P nG G0 o tm hp k := by
  unfold kExtract at h
  simp only [forceK_eq] at h
  split at h
  · rename_i vs hx
    split at h
    · rename_i y hi
      split at h
      · exact h.elim
      · rename_i hy
        exact ⟨_, _, _, fun n0 => snd_extract ho hx hi fun zs e => hy zs e, h⟩
    · exact h.elim
  · exact h.elim

theorem kFunc_snd {f : Nat} {cap : Array Operand} (ho : o.op = .makeFunc (.func f) #[] cap) (h : kFunc tm f cap.toList k) : Give P nG G0 o tm hp k := by
  unfold kFunc at h
  simp only [forceL_eq, condF] at h
  exact ⟨_, _, _, fun n0 => snd_makeFunc ho h.1, h.2⟩

theorem kLen_snd (hP : ProgOk P tab) {t : TypeId} {x : Operand} (ho : o.op = .call { callee := .builtin .len, args := #[x], argTypes := #[t] }) (h : kLen tab tm t x k) : Give P nG G0 o tm hp k := by
  unfold kLen at h
  split at h
  · exact h.elim
  rename_i ti ht
  have hti := hP.tab t ti ht
  split at h
  · rename_i hk
    split at h
    · rename_i s hx; exact ⟨_, _, _, fun n0 => snd_len hti ho (by rw [hk]; simp only [ev] at hx; rw [hx]), h⟩
    · exact h.elim
  · rename_i e hk
    split at h
    · rename_i hx; exact ⟨_, _, _, fun n0 => snd_len hti ho (by rw [hk]; simp only [ev] at hx; rw [hx]), h⟩
    · rename_i hx; exact ⟨_, _, _, fun n0 => snd_len hti ho (by rw [hk]; simp only [ev] at hx; rw [hx]), h⟩
    · rename_i hx; exact ⟨_, _, _, fun n0 => snd_len (l := 0) hti ho (by rw [hk]; simp only [ev] at hx; rw [hx]), h⟩
    · exact h.elim
  · rename_i hk
    split at h
    · rename_i hx; exact ⟨_, _, _, fun n0 => snd_len hti ho (by rw [hk]; simp only [ev] at hx; rw [hx]), h⟩
    · exact h.elim
  · rename_i hk; exact ⟨_, _, _, fun n0 => snd_len hti ho (by rw [hk]), h⟩
  · exact h.elim

theorem kLookup_snd (hP : ProgOk P tab) {t : TypeId} {x i : Operand} {ok : Bool} (ho : o.op = .lookup t x i ok) (h : kLookup tab tm hp t x i ok k) : Give P nG G0 o tm hp k := by
  unfold kLookup at h
  simp only [condF] at h
  split at h
  · exact h.elim
  rename_i ti ht
  have hti := hP.tab t ti ht
  split at h
  · rename_i kt et hk
    split at h
    · rename_i ki ei hki hei
      split at h
      · rename_i kd c kd' n hkk hec hi
        obtain ⟨h0, h⟩ := h
        simp only [Bool.and_eq_true, beq_iff_eq, Bool.not_eq_true'] at h0
        obtain ⟨rfl, h0⟩ := h0
        split at h
        · rename_i nil es hx
          obtain ⟨v, b, h1, h2⟩ := withCell_ex h
          have key : ∀ n0, OpSnd P nG G0 n0 o (bif ok then .tup [v, .bool b] else v) [] [] (tmF tm) (hpF hp) := fun n0 => snd_lookup hti hk (hP.tab _ _ hki) hkk (hP.tab _ _ hei) h0 hec ho (.inl ⟨_, hx⟩) hi h1
          cases ok
          · exact ⟨_, _, _, key, h2⟩
          · exact ⟨_, _, _, key, h2⟩
        · rename_i id hx
          split at h
          · rename_i es hb
            obtain ⟨v, b, h1, h2⟩ := withCell_ex h
            have key : ∀ n0, OpSnd P nG G0 n0 o (bif ok then .tup [v, .bool b] else v) [] [id] (tmF tm) (hpF hp) := fun n0 => snd_lookup hti hk (hP.tab _ _ hki) hkk (hP.tab _ _ hei) h0 hec ho (.inr ⟨id, hx, hb, by simp⟩) hi h1
            cases ok
            · exact ⟨_, _, _, key, h2⟩
            · exact ⟨_, _, _, key, h2⟩
          · exact h.elim
        · exact h.elim
      · exact h.elim
    · exact h.elim
  · exact h.elim

theorem kMapSet_snd (hP : ProgOk P tab) {t : TypeId} {m i x : Operand} (ho : o.op = .mapUpdate t m i x ∨ o.op = .insert t m i x) (h : kMapSet tab tm hp t m i x k) : Give P nG G0 o tm hp k := by
  unfold kMapSet at h
  simp only [condF] at h
  split at h
  · exact h.elim
  rename_i ti ht
  have hti := hP.tab t ti ht
  split at h
  · rename_i kt et hk
    split at h
    · rename_i ki hki
      split at h
      · rename_i kd id kd' n hkk hm hi
        split at h
        · rename_i es hb
          obtain ⟨h0, es', h1, h2⟩ := h
          simp only [Bool.and_eq_true, beq_iff_eq] at h0
          obtain ⟨rfl, h0⟩ := h0
          exact ⟨_, _, _, fun n0 => snd_mapUpdate hti hk (hP.tab _ _ hki) hkk ho hm hb (by simp) hi h0 h1, h2⟩
        · exact h.elim
      · exact h.elim
    · exact h.elim
  · exact h.elim

theorem kRange_snd (hP : ProgOk P tab) {t : TypeId} {x : Operand} (ho : o.op = .range t x) (h : kRange tab tm hp t x k) : Give P nG G0 o tm hp k := by
  unfold kRange at h
  split at h
  · exact h.elim
  rename_i ti ht
  split at h
  · rename_i kt et hk
    split at h
    · rename_i nil es hx
      exact ⟨_, _, _, fun n0 => snd_range (hP.tab t ti ht) hk ho hx (by simp), h⟩
    · exact h.elim
  · exact h.elim

theorem kEntry_snd {x : Operand} (ho : o.op = .entry x) (h : kEntry tm hp x k) : Give P nG G0 o tm hp k := by
  unfold kEntry at h
  split at h
  · rename_i id hx
    split at h
    · rename_i es p hb
      exact ⟨_, _, _, fun n0 => snd_entry ho hx hb (by simp), h⟩
    · exact h.elim
  · exact h.elim

theorem kMakeSlice_snd (hP : ProgOk P tab) {t : TypeId} {l c : Operand} (ho : o.op = .makeSlice t l c) (h : kMakeSlice tab tm hp t l c k) : Give P nG G0 o tm hp k := by
  unfold kMakeSlice at h
  simp only [condF, forceL_eq] at h
  split at h
  · exact h.elim
  rename_i ti ht
  split at h
  · rename_i e hk
    split at h
    · exact h.elim
    rename_i ei he
    split at h
    · rename_i kl n kc n' hl hc
      obtain ⟨rfl, h1, h2, h3, h4, h5⟩ := h
      simp only [Bool.and_eq_true, bne_iff_ne, ne_eq] at h4
      exact ⟨_, _, _, fun n0 => snd_makeSlice (hP.tab t ti ht) hk (hP.tab e ei he) h4.2 ho hl hc h1 h2 h3 h4.1 (by simp), h5⟩
    · exact h.elim
  · exact h.elim

theorem arr1 {α : Type} {a : Array α} {x : α} (h : a.toList = [x]) : a = #[x] := by rw [← Array.toArray_toList (xs := a), h]
theorem arr2 {α : Type} {a : Array α} {x y : α} (h : a.toList = [x, y]) : a = #[x, y] := by rw [← Array.toArray_toList (xs := a), h]

theorem kAppend_snd (hP : ProgOk P tab) {t : TypeId} {x y : Operand} (ho : o.op = .call { callee := .builtin .append, args := #[x, y], argTypes := #[t, t] }) (h : kAppend tab tm hp t x y k) : Give P nG G0 o tm hp k := by
  unfold kAppend at h
  simp only [condF] at h
  split at h
  · exact h.elim
  rename_i ti ht
  have hti := hP.tab t ti ht
  split at h
  · rename_i e hk
    split at h
    · exact h.elim
    rename_i ei he
    have hei := hP.tab e ei he
    obtain ⟨h0, h⟩ := h
    simp only [Bool.and_eq_true, bne_iff_ne, ne_eq] at h0
    split at h
    · rename_i sz2 nil2 tok2 ys hy
      obtain ⟨h1, h⟩ := h
      have e1 : sz2 = ei.size := by simpa using h1
      subst e1
      split at h
      · rename_i sz nil tok xs hx
        obtain ⟨h2, h⟩ := h
        have e2 : sz = ei.size := by simpa using h2
        subst e2
        split at h
        · rename_i τ
          split at h
          · rename_i sz' m hb
            obtain ⟨h3, h4, h5, h6⟩ := h
            have e3 : sz' = ei.size := by simpa using h3
            subst e3
            exact ⟨_, _, _, fun n0 => snd_append_tok hti hk hei h0.1 h0.2 ho h4 hx hy hb h5 (by simp), h6⟩
          · exact h.elim
        · split at h
          · exact ⟨_, _, _, fun n0 => snd_append_nil hti hk hei h0.1 h0.2 ho h.1 (.inr ⟨_, hx⟩) hy (by simp), h.2⟩
          · exact h.elim
      · rename_i hx
        exact ⟨_, _, _, fun n0 => snd_append_nil hti hk hei h0.1 h0.2 ho h.1 (.inl hx) hy (by simp), h.2⟩
      · exact h.elim
    · exact h.elim
  · exact h.elim
end
end Go.Ab
