/- What a proof of TrieTrue leans on (3): That the step of one operation is sound; That the step of one operation is sound, the rest of it; A frame and a heap are seen anew: blocks are forgotten, or come to be seen by what they hold; The step of a region, what it is that a rest of a function's code ends well; The results, the relay of a frame; Regions whose order is drawn: what is done in the text's order is done in any; Regions whose order is drawn, the executor's part; That a region whose order is drawn is sound; The executor, that it is sound, how a contract comes of it; A table of types is checked; no condition. -/
import Derived.Test.YtfobijiffcfnkaaDoorZTrieTrueB
import Derived.KernelRfl
namespace Go.Ab

theorem condF {c : Bool} {A : Prop} : (bif c then A else False) = (c = true ∧ A) := by cases c <;> simp

section
variable {P : Program} {tab : Tab} {nG : Nat} {G0 : Nat → Option Obj} {tm : List AV} {hp : List (Option Blk)} {o : Oper} {k : OK}

def Snd (P : Program) (nG : Nat) (G0 : Nat → Option Obj) (o : Oper) (tm : List AV) (hp : List (Option Blk)) (v : AV) (ws : List (Nat × Blk)) (rd : List Nat) : Prop :=
  ∀ n0, OpSnd P nG G0 n0 o v ws rd (tmF tm) (hpF hp)

theorem Snd.conv {v v' : AV} {ws : List (Nat × Blk)} {rd : List Nat} (h : Snd P nG G0 o tm hp v ws rd) (hc : ∀ K S w u, VR K S w v u → VR K S w v' u) : Snd P nG G0 o tm hp v' ws rd := by
  intro n0 n K S tm hp a w hr hx hh hws next QC hn
  exact h n0 n K S tm hp a w hr hx hh hws next QC fun u w' K' S' hv h1 h2 h3 => hn u w' K' S' (hc _ _ _ _ hv) h1 h2 h3

def Give (P : Program) (nG : Nat) (G0 : Nat → Option Obj) (o : Oper) (tm : List AV) (hp : List (Option Blk)) (k : OK) : Prop :=
  ∃ v ws rd, Snd P nG G0 o tm hp v ws rd ∧ k v ws rd

theorem flatCs_eq {cs : List AV} (h : flatCs cs = true) : cs.all (fun y => match y with | .agg _ => false | .tup _ => false | _ => true) = true := h

theorem kLoad_snd (hP : ProgOk P tab) {t : TypeId} {x : Operand} (ho : o.op = .load t x) (h : kLoad tab tm hp t x k) : Give P nG G0 o tm hp k := by
  unfold kLoad at h
  simp only [forceL_eq, loadK_eq, condF] at h
  split at h
  · exact h.elim
  · rename_i ti ht
    have hti := hP.tab t ti ht
    split at h
    · rename_i id off he
      split at h
      · rename_i cs hb
        obtain ⟨h1, h2⟩ := h
        simp at h1
        exact ⟨_, _, _, fun n0 => snd_load_var hti ho he hb (by simp) (by simpa using h1.1) (flatCs_eq h1.2), h2⟩
      · exact h.elim
    · rename_i cs he
      obtain ⟨h1, h2⟩ := h
      simp at h1
      exact ⟨_, _, _, fun n0 => snd_load_rptr hti ho he (by simpa using h1.1) (flatCs_eq h1.2), h2⟩
    · rename_i sz id i off he
      split at h
      · rename_i sz' xs hb
        obtain ⟨h0, h⟩ := h
        obtain ⟨c, ⟨z, hz, hc⟩, h1, h2⟩ := withCells_ex h
        simp at h1 h0
        subst h0
        exact ⟨_, _, _, fun n0 => snd_load_eref hti ho he hb (by simp) hz hc (by simpa using h1.1) (flatCs_eq h1.2), h2⟩
      · exact h.elim
    · exact h.elim

theorem kStore_snd (hP : ProgOk P tab) {t : TypeId} {x y : Operand} (ho : o.op = .store t x y) (h : kStore tab tm hp t x y k) : Give P nG G0 o tm hp k := by
  unfold kStore at h
  simp only [forceK_eq, condF] at h
  split at h
  · exact h.elim
  · rename_i ti ht
    have hti := hP.tab t ti ht
    split at h
    · rename_i id off he
      split at h
      · rename_i cs hb
        obtain ⟨h1, h2⟩ := h
        simp at h1
        exact ⟨_, _, _, fun n0 => snd_store_var hti ho he hb (by simp) h1.1.1 h1.1.2 h1.2, h2⟩
      · exact h.elim
    · rename_i sz id i off he
      split at h
      · rename_i sz' xs hb
        obtain ⟨h1, h2⟩ := h
        simp only [Bool.and_eq_true, beq_iff_eq, decide_eq_true_eq] at h1
        obtain ⟨⟨⟨⟨rfl, h3⟩, h4⟩, h5⟩, h6⟩ := h1
        exact ⟨_, _, _, fun n0 => snd_store_arr hti ho he hb (by simp) h3 h4 h5 h6, h2⟩
      · exact h.elim
    · exact h.elim

theorem notDead_ne {v : AV} (h : notDead v = true) : v ≠ .dead := by rintro rfl; cases h

theorem kFieldAddr_snd (hP : ProgOk P tab) {t : TypeId} {x : Operand} {f : Nat} (ho : o.op = .fieldAddr t x f) (h : kFieldAddr tab tm t x f k) : Give P nG G0 o tm hp k := by
  unfold kFieldAddr at h
  simp only [forceK_eq, condF] at h
  split at h
  · exact h.elim
  rename_i ti ht
  split at h
  · rename_i fs hk
    split at h
    · rename_i off ft hf
      split at h
      · rename_i fi hft
        obtain ⟨h1, h2⟩ := h
        simp at h1
        exact ⟨_, _, _, fun n0 => snd_fieldAddr (hP.tab t ti ht) hk hf (hP.tab ft fi hft) (by simpa using h1.2) ho (notDead_ne h1.1), h2⟩
      · exact h.elim
    · exact h.elim
  · exact h.elim

theorem kIndexAddr_snd (hP : ProgOk P tab) {t : TypeId} {x i : Operand} (ho : o.op = .indexAddr t x i) (h : kIndexAddr tab tm t x i k) : Give P nG G0 o tm hp k := by
  unfold kIndexAddr at h
  simp only [forceK_eq, condF] at h
  split at h
  · exact h.elim
  rename_i ti ht
  have hti := hP.tab t ti ht
  split at h
  · rename_i kd j hi
    split at h
    · rename_i e hk
      split at h
      · exact h.elim
      rename_i ei he
      have hei := hP.tab e ei he
      split at h
      · rename_i sz nil tok xs hx
        obtain ⟨h1, h2, h3⟩ := h
        obtain ⟨z, h4, h5⟩ := withCells_ex h3
        simp at h1
        exact ⟨_, _, _, fun n0 => snd_indexAddr_sl hti hk hei ho hx hi h1 h2 h4, h5⟩
      · rename_i sz id off len hx
        obtain ⟨h1, h2, h3, h5⟩ := h
        simp at h1
        exact ⟨_, _, _, fun n0 => snd_indexAddr_rsl hti hk hei ho hx hi h1 h2 h3, h5⟩
      · exact h.elim
    · rename_i m e hk
      split at h
      · exact h.elim
      rename_i ei he
      obtain ⟨h1, h2, h3, h4⟩ := h
      exact ⟨_, _, _, fun n0 => snd_indexAddr_arr hti hk (hP.tab e ei he) ho hi h1 h2 (notDead_ne h3), h4⟩
    · exact h.elim
  · exact h.elim

theorem kIndex_snd (hP : ProgOk P tab) {t : TypeId} {x i : Operand} (ho : o.op = .index t x i) (h : kIndex tab tm t x i k) : Give P nG G0 o tm hp k := by
  unfold kIndex at h
  simp only [forceL_eq, loadK_eq, condF] at h
  split at h
  · exact h.elim
  rename_i ti ht
  have hti := hP.tab t ti ht
  split at h
  · rename_i kd j hi
    split at h
    · rename_i hk
      split at h
      · rename_i s hx
        obtain ⟨h1, c, h2, h3⟩ := h
        exact ⟨_, _, _, fun n0 => snd_index_str hti hk ho hx hi h1 h2, h3⟩
      · exact h.elim
    · rename_i m e hk
      split at h
      · exact h.elim
      rename_i ei he
      split at h
      · rename_i cs hx
        obtain ⟨h1, h2, h3, h4⟩ := h
        simp only [Bool.and_eq_true, decide_eq_true_eq] at h3
        exact ⟨_, _, _, fun n0 => snd_index_arr hti hk (hP.tab e ei he) ho hx hi h1 h2 h3.2 (flatCs_eq h3.1.2), h4⟩
      · exact h.elim
    · exact h.elim
  · exact h.elim

theorem loOf_ex {x : Option Operand} {k : Int → Prop} (h : loOf tm x k) : ∃ l, k l ∧ (0 ≤ l → (x = none ∧ l.toNat = 0) ∨ ∃ y kd, x = some y ∧ evA (tmF tm) y = .int kd l.toNat) := by
  cases x with
  | none => exact ⟨0, h, fun _ => .inl ⟨rfl, rfl⟩⟩
  | some y =>
    simp only [loOf] at h
    split at h
    · rename_i kd j hy
      exact ⟨j, h, fun h0 => .inr ⟨y, kd, rfl, by rw [Int.toNat_of_nonneg h0]; exact hy⟩⟩
    · exact h.elim

theorem hiOf_ex {x : Option Operand} {n : Nat} {k : Int → Prop} (h : hiOf tm x n k) : ∃ l, k l ∧ (0 ≤ l → (x = none ∧ l.toNat = n) ∨ ∃ y kd, x = some y ∧ evA (tmF tm) y = .int kd l.toNat) := by
  cases x with
  | none => exact ⟨n, h, fun _ => .inl ⟨rfl, by simp⟩⟩
  | some y =>
    simp only [hiOf] at h
    split at h
    · rename_i kd j hy
      exact ⟨j, h, fun h0 => .inr ⟨y, kd, rfl, by rw [Int.toNat_of_nonneg h0]; exact hy⟩⟩
    · exact h.elim

theorem kSlice_snd (hP : ProgOk P tab) {t : TypeId} {x : Operand} {lo hi : Option Operand} (ho : o.op = .slice t x lo hi none) (h : kSlice tab tm t x lo hi k) : Give P nG G0 o tm hp k := by
  unfold kSlice at h
  simp only [condF] at h
  split at h
  · exact h.elim
  rename_i ti ht
  have hti := hP.tab t ti ht
  split at h
  · rename_i hk
    split at h
    · rename_i s hx
      obtain ⟨l, h, hl⟩ := loOf_ex h
      obtain ⟨r, h, hr⟩ := hiOf_ex h
      obtain ⟨h1, h2, h3, h4⟩ := h
      have hr := hr (by omega)
      have hl := hl h1
      have e1 : l.toNat ≤ r.toNat := by omega
      have e2 : r.toNat ≤ s.length := by omega
      rcases hl with ⟨rfl, hl1⟩ | ⟨y, kd, rfl, hl1⟩ <;> rcases hr with ⟨rfl, hr1⟩ | ⟨y', kd', rfl, hr1⟩
      · exact ⟨_, _, _, fun n0 => snd_slice_str hti hk ho hx hl1 hr1 e1 e2, h4⟩
      · exact ⟨_, _, _, fun n0 => snd_slice_str hti hk ho hx hl1 ⟨_, hr1⟩ e1 e2, h4⟩
      · exact ⟨_, _, _, fun n0 => snd_slice_str hti hk ho hx ⟨_, hl1⟩ hr1 e1 e2, h4⟩
      · exact ⟨_, _, _, fun n0 => snd_slice_str hti hk ho hx ⟨_, hl1⟩ ⟨_, hr1⟩ e1 e2, h4⟩
    · exact h.elim
  · rename_i e hk
    split at h
    · exact h.elim
    rename_i ei he
    split at h
    · rename_i sz nil tok xs hx
      obtain ⟨h0, h⟩ := h
      obtain ⟨l, h, hl⟩ := loOf_ex h
      obtain ⟨r, h, hr⟩ := hiOf_ex h
      obtain ⟨h1, h2, h3, h4⟩ := h
      have hr := hr (by omega)
      have hl := hl h1
      have e0 : sz = ei.size := by simpa using h0
      have e1 : l.toNat ≤ r.toNat := by omega
      have e2 : r.toNat ≤ xs.length := by omega
      have hei := hP.tab e ei he
      rcases hl with ⟨rfl, hl1⟩ | ⟨y, kd, rfl, hl1⟩ <;> rcases hr with ⟨rfl, hr1⟩ | ⟨y', kd', rfl, hr1⟩
      · exact ⟨_, _, _, fun n0 => snd_slice_sl hti hk hei ho hx e0 hl1 hr1 e1 e2, h4⟩
      · exact ⟨_, _, _, fun n0 => snd_slice_sl hti hk hei ho hx e0 hl1 ⟨_, hr1⟩ e1 e2, h4⟩
      · exact ⟨_, _, _, fun n0 => snd_slice_sl hti hk hei ho hx e0 ⟨_, hl1⟩ hr1 e1 e2, h4⟩
      · exact ⟨_, _, _, fun n0 => snd_slice_sl hti hk hei ho hx e0 ⟨_, hl1⟩ ⟨_, hr1⟩ e1 e2, h4⟩
    · exact h.elim
  · exact h.elim

theorem kField_snd (hP : ProgOk P tab) {t : TypeId} {x : Operand} {f : Nat} (ho : o.op = .field t x f) (h : kField tab tm t x f k) : Give P nG G0 o tm hp k := by
  unfold kField at h
  simp only [forceL_eq, loadK_eq, condF] at h
  split at h
  · exact h.elim
  rename_i ti ht
  split at h
  · rename_i fs hk
    split at h
    · rename_i off ft hf
      split at h
      · rename_i fi hft
        split at h
        · rename_i cs hx
          obtain ⟨h1, h2⟩ := h
          simp at h1
          exact ⟨_, _, _, fun n0 => snd_field (hP.tab t ti ht) hk hf (hP.tab ft fi hft) ho hx (by simpa using h1.1) (flatCs_eq h1.2), h2⟩
        · exact h.elim
      · exact h.elim
    · exact h.elim
  · exact h.elim

theorem eqK_ex {op : BinOp} {b : Bool} (h : eqK op b k) : (op = .eql ∧ k (.bool b) [] []) ∨ (op = .neq ∧ k (.bool (!b)) [] []) := by
  cases op <;> simp only [eqK] at h <;> first | exact h.elim | exact .inl ⟨rfl, h⟩ | exact .inr ⟨rfl, h⟩

theorem kBin_snd (hP : ProgOk P tab) {op : BinOp} {xt yt : TypeId} {x y : Operand} (ho : o.op = .binOp op xt x y yt) (h : kBin tab tm op xt x y k) : Give P nG G0 o tm hp k := by
  unfold kBin at h
  simp only [forceK_eq, condF] at h
  split at h
  · rename_i kd i hx
    split at h
    · rename_i kd' j hy
      split at h
      · exact ⟨_, _, _, fun n0 => snd_shr ho hx hy h.1, h.2⟩
      · obtain ⟨e, h⟩ := h
        have e : kd' = kd := by simpa using e
        subst e
        exact ⟨_, _, _, fun n0 => snd_div ho hx hy h.1 (.inl rfl), h.2⟩
      · obtain ⟨e, h⟩ := h
        have e : kd' = kd := by simpa using e
        subst e
        exact ⟨_, _, _, fun n0 => snd_div ho hx hy h.1 (.inr rfl), h.2⟩
      · obtain ⟨e, h⟩ := h
        have e : kd' = kd := by simpa using e
        subst e
        split at h
        · rename_i r hr
          exact ⟨_, _, _, fun n0 => snd_arith ho hx hy hr, h⟩
        · exact h.elim
    · exact h.elim
  · rename_i s hx
    split at h
    · rename_i r hy
      split at h
      · exact ⟨_, _, _, fun n0 => snd_concat ho hx hy h.1, h.2⟩
      · exact ⟨_, _, _, fun n0 => snd_streq ho hx hy (.inl rfl), h⟩
      · exact ⟨_, _, _, fun n0 => snd_streq ho hx hy (.inr rfl), h⟩
      · exact h.elim
    · exact h.elim
  · rename_i s hx
    split at h
    · rename_i r hy
      split at h
      · rename_i ti ht
        split at h
        · rename_i hk
          rcases eqK_ex h with ⟨rfl, h2⟩ | ⟨rfl, h2⟩
          · exact ⟨_, _, _, fun n0 => snd_booleq (hP.tab _ ti ht) hk ho hx hy (.inl rfl), h2⟩
          · exact ⟨_, _, _, fun n0 => snd_booleq (hP.tab _ ti ht) hk ho hx hy (.inr rfl), h2⟩
        · exact h.elim
      · exact h.elim
    · exact h.elim
  · rename_i sz nil tok xs hx
    split at h
    · rename_i hy
      split at h
      · rename_i ti ht
        split at h
        · rename_i e hk
          rcases eqK_ex h with ⟨rfl, h2⟩ | ⟨rfl, h2⟩
          · exact ⟨_, _, _, fun n0 => snd_nileq (hP.tab _ ti ht) hk ho hx hy (.inl rfl), h2⟩
          · exact ⟨_, _, _, fun n0 => snd_nileq (hP.tab _ ti ht) hk ho hx hy (.inr rfl), h2⟩
        · exact h.elim
      · exact h.elim
    · exact h.elim
  · rename_i ys hx
    split at h
    · rename_i zs hy
      split at h
      · rename_i ti ht
        split at h
        · rename_i plan hplan
          obtain ⟨h1, h2⟩ := h
          simp only [Bool.and_eq_true] at h1
          rcases eqK_ex h2 with ⟨rfl, h2⟩ | ⟨rfl, h2⟩
          · exact ⟨_, _, _, fun n0 => snd_aggeq hP ht h1.1.1 hplan ho hx hy h1.1.2 h1.2 (.inl rfl), h2⟩
          · exact ⟨_, _, _, fun n0 => snd_aggeq hP ht h1.1.1 hplan ho hx hy h1.1.2 h1.2 (.inr rfl), h2⟩
        · exact h.elim
      · exact h.elim
    · exact h.elim
  · rename_i hx
    split at h
    · split at h
      · rename_i ti ht
        split at h
        · rename_i hk
          rcases eqK_ex h with ⟨rfl, h2⟩ | ⟨rfl, h2⟩
          · exact ⟨_, _, _, fun n0 => snd_ifaceeq (b := true) (hP.tab _ ti ht) hk ho hx (.inl rfl), h2⟩
          · exact ⟨_, _, _, fun n0 => snd_ifaceeq (b := true) (hP.tab _ ti ht) hk ho hx (.inr rfl), h2⟩
        · exact h.elim
      · exact h.elim
    · exact h.elim
  · rename_i hx
    split at h
    · split at h
      · rename_i ti ht
        split at h
        · rename_i hk
          rcases eqK_ex h with ⟨rfl, h2⟩ | ⟨rfl, h2⟩
          · exact ⟨_, _, _, fun n0 => snd_ifaceeq (b := false) (hP.tab _ ti ht) hk ho hx (.inl rfl), h2⟩
          · exact ⟨_, _, _, fun n0 => snd_ifaceeq (b := false) (hP.tab _ ti ht) hk ho hx (.inr rfl), h2⟩
        · exact h.elim
      · exact h.elim
    · exact h.elim
  · exact h.elim

theorem kNot_snd {t : TypeId} {x : Operand} (ho : o.op = .unOp .not t x) (h : kNot tm x k) : Give P nG G0 o tm hp k := by
  unfold kNot at h
  split at h
  · rename_i b hx; exact ⟨_, _, _, fun n0 => snd_not ho hx, h⟩
  · exact h.elim

theorem kConv_snd (hP : ProgOk P tab) {s t : TypeId} {x : Operand} (ho : o.op = .convert s t x) (h : kConv tab tm s t x k) : Give P nG G0 o tm hp k := by
  unfold kConv at h
  simp only [condF] at h
  split at h
  · rename_i si ti hs ht
    split at h
    · rename_i kd kd' hk hk'
      split at h
      · rename_i kd2 i hx
        obtain ⟨h1, h2⟩ := h
        simp at h1
        subst h1
        exact ⟨_, _, _, fun n0 => snd_convert (hP.tab _ si hs) (hP.tab _ ti ht) hk hk' ho hx, h2⟩
      · exact h.elim
    · exact h.elim
  · exact h.elim

theorem kMin_snd {x y : Operand} {ts : Array TypeId} {mx : Bool} (ho : o.op = .call { callee := .builtin (if mx then .max else .min), args := #[x, y], argTypes := ts }) (h : kMin tm mx x y k) : Give P nG G0 o tm hp k := by
  unfold kMin at h
  split at h
  · rename_i kd i kd' j hx hy
    cases mx
    · exact ⟨_, _, _, fun n0 => snd_min (b := .min) (.inl rfl) ho hx hy, h⟩
    · exact ⟨_, _, _, fun n0 => snd_min (b := .max) (.inr rfl) ho hx hy, h⟩
  · exact h.elim

theorem kExtract_snd {x : Operand} {i : Nat} (ho : o.op = .extract x i) (h : kExtract tm x i k) : Give P nG G0 o tm hp k := by
  unfold kExtract at h
  simp only [forceK_eq] at h
  split at h
  · rename_i vs hx
    split at h
    · rename_i y hi
      split at h
      · exact h.elim
      · rename_i hy
        exact ⟨_, _, _, fun n0 => snd_extract ho hx hi fun zs e => hy zs e, h⟩
    · exact h.elim
  · exact h.elim

theorem kFunc_snd {f : Nat} {cap : Array Operand} (ho : o.op = .makeFunc (.func f) #[] cap) (h : kFunc tm f cap.toList k) : Give P nG G0 o tm hp k := by
  unfold kFunc at h
  simp only [forceL_eq, condF] at h
  exact ⟨_, _, _, fun n0 => snd_makeFunc ho h.1, h.2⟩

theorem kLen_snd (hP : ProgOk P tab) {t : TypeId} {x : Operand} (ho : o.op = .call { callee := .builtin .len, args := #[x], argTypes := #[t] }) (h : kLen tab tm t x k) : Give P nG G0 o tm hp k := by
  unfold kLen at h
  split at h
  · exact h.elim
  rename_i ti ht
  have hti := hP.tab t ti ht
  split at h
  · rename_i hk
    split at h
    · rename_i s hx; exact ⟨_, _, _, fun n0 => snd_len hti ho (by rw [hk]; simp only [ev] at hx; rw [hx]), h⟩
    · exact h.elim
  · rename_i e hk
    split at h
    · rename_i hx; exact ⟨_, _, _, fun n0 => snd_len hti ho (by rw [hk]; simp only [ev] at hx; rw [hx]), h⟩
    · rename_i hx; exact ⟨_, _, _, fun n0 => snd_len hti ho (by rw [hk]; simp only [ev] at hx; rw [hx]), h⟩
    · rename_i hx; exact ⟨_, _, _, fun n0 => snd_len (l := 0) hti ho (by rw [hk]; simp only [ev] at hx; rw [hx]), h⟩
    · exact h.elim
  · rename_i hk
    split at h
    · rename_i hx; exact ⟨_, _, _, fun n0 => snd_len hti ho (by rw [hk]; simp only [ev] at hx; rw [hx]), h⟩
    · exact h.elim
  · rename_i hk; exact ⟨_, _, _, fun n0 => snd_len hti ho (by rw [hk]), h⟩
  · exact h.elim

theorem kLookup_snd (hP : ProgOk P tab) {t : TypeId} {x i : Operand} {ok : Bool} (ho : o.op = .lookup t x i ok) (h : kLookup tab tm hp t x i ok k) : Give P nG G0 o tm hp k := by
  unfold kLookup at h
  simp only [condF] at h
  split at h
  · exact h.elim
  rename_i ti ht
  have hti := hP.tab t ti ht
  split at h
  · rename_i kt et hk
    split at h
    · rename_i ki ei hki hei
      split at h
      · rename_i kd c kd' n hkk hec hi
        obtain ⟨h0, h⟩ := h
        simp only [Bool.and_eq_true, beq_iff_eq, Bool.not_eq_true'] at h0
        obtain ⟨rfl, h0⟩ := h0
        split at h
        · rename_i nil es hx
          obtain ⟨v, b, h1, h2⟩ := withCell_ex h
          have key : ∀ n0, OpSnd P nG G0 n0 o (bif ok then .tup [v, .bool b] else v) [] [] (tmF tm) (hpF hp) := fun n0 => snd_lookup hti hk (hP.tab _ _ hki) hkk (hP.tab _ _ hei) h0 hec ho (.inl ⟨_, hx⟩) hi h1
          cases ok
          · exact ⟨_, _, _, key, h2⟩
          · exact ⟨_, _, _, key, h2⟩
        · rename_i id hx
          split at h
          · rename_i es hb
            obtain ⟨v, b, h1, h2⟩ := withCell_ex h
            have key : ∀ n0, OpSnd P nG G0 n0 o (bif ok then .tup [v, .bool b] else v) [] [id] (tmF tm) (hpF hp) := fun n0 => snd_lookup hti hk (hP.tab _ _ hki) hkk (hP.tab _ _ hei) h0 hec ho (.inr ⟨id, hx, hb, by simp⟩) hi h1
            cases ok
            · exact ⟨_, _, _, key, h2⟩
            · exact ⟨_, _, _, key, h2⟩
          · exact h.elim
        · exact h.elim
      · exact h.elim
    · exact h.elim
  · exact h.elim

theorem kMapSet_snd (hP : ProgOk P tab) {t : TypeId} {m i x : Operand} (ho : o.op = .mapUpdate t m i x ∨ o.op = .insert t m i x) (h : kMapSet tab tm hp t m i x k) : Give P nG G0 o tm hp k := by
  unfold kMapSet at h
  simp only [condF] at h
  split at h
  · exact h.elim
  rename_i ti ht
  have hti := hP.tab t ti ht
  split at h
  · rename_i kt et hk
    split at h
    · rename_i ki hki
      split at h
      · rename_i kd id kd' n hkk hm hi
        split at h
        · rename_i es hb
          obtain ⟨h0, es', h1, h2⟩ := h
          simp only [Bool.and_eq_true, beq_iff_eq] at h0
          obtain ⟨rfl, h0⟩ := h0
          exact ⟨_, _, _, fun n0 => snd_mapUpdate hti hk (hP.tab _ _ hki) hkk ho hm hb (by simp) hi h0 h1, h2⟩
        · exact h.elim
      · exact h.elim
    · exact h.elim
  · exact h.elim

theorem kRange_snd (hP : ProgOk P tab) {t : TypeId} {x : Operand} (ho : o.op = .range t x) (h : kRange tab tm hp t x k) : Give P nG G0 o tm hp k := by
  unfold kRange at h
  split at h
  · exact h.elim
  rename_i ti ht
  split at h
  · rename_i kt et hk
    split at h
    · rename_i nil es hx
      exact ⟨_, _, _, fun n0 => snd_range (hP.tab t ti ht) hk ho hx (by simp), h⟩
    · exact h.elim
  · exact h.elim

theorem kEntry_snd {x : Operand} (ho : o.op = .entry x) (h : kEntry tm hp x k) : Give P nG G0 o tm hp k := by
  unfold kEntry at h
  split at h
  · rename_i id hx
    split at h
    · rename_i es p hb
      exact ⟨_, _, _, fun n0 => snd_entry ho hx hb (by simp), h⟩
    · exact h.elim
  · exact h.elim

theorem kMakeSlice_snd (hP : ProgOk P tab) {t : TypeId} {l c : Operand} (ho : o.op = .makeSlice t l c) (h : kMakeSlice tab tm hp t l c k) : Give P nG G0 o tm hp k := by
  unfold kMakeSlice at h
  simp only [condF, forceL_eq] at h
  split at h
  · exact h.elim
  rename_i ti ht
  split at h
  · rename_i e hk
    split at h
    · exact h.elim
    rename_i ei he
    split at h
    · rename_i kl n kc n' hl hc
      obtain ⟨rfl, h1, h2, h3, h4, h5⟩ := h
      simp only [Bool.and_eq_true, bne_iff_ne, ne_eq] at h4
      exact ⟨_, _, _, fun n0 => snd_makeSlice (hP.tab t ti ht) hk (hP.tab e ei he) h4.2 ho hl hc h1 h2 h3 h4.1 (by simp), h5⟩
    · exact h.elim
  · exact h.elim

theorem arr1 {α : Type} {a : Array α} {x : α} (h : a.toList = [x]) : a = #[x] := by rw [← Array.toArray_toList (xs := a), h]
theorem arr2 {α : Type} {a : Array α} {x y : α} (h : a.toList = [x, y]) : a = #[x, y] := by rw [← Array.toArray_toList (xs := a), h]

theorem kAppend_snd (hP : ProgOk P tab) {t : TypeId} {x y : Operand} (ho : o.op = .call { callee := .builtin .append, args := #[x, y], argTypes := #[t, t] }) (h : kAppend tab tm hp t x y k) : Give P nG G0 o tm hp k := by
  unfold kAppend at h
  simp only [condF] at h
  split at h
  · exact h.elim
  rename_i ti ht
  have hti := hP.tab t ti ht
  split at h
  · rename_i e hk
    split at h
    · exact h.elim
    rename_i ei he
    have hei := hP.tab e ei he
    obtain ⟨h0, h⟩ := h
    simp only [Bool.and_eq_true, bne_iff_ne, ne_eq] at h0
    split at h
    · rename_i sz2 nil2 tok2 ys hy
      obtain ⟨h1, h⟩ := h
      have e1 : sz2 = ei.size := by simpa using h1
      subst e1
      split at h
      · rename_i sz nil tok xs hx
        obtain ⟨h2, h⟩ := h
        have e2 : sz = ei.size := by simpa using h2
        subst e2
        split at h
        · rename_i τ
          split at h
          · rename_i sz' m hb
            obtain ⟨h3, h4, h5, h6⟩ := h
            have e3 : sz' = ei.size := by simpa using h3
            subst e3
            exact ⟨_, _, _, fun n0 => snd_append_tok hti hk hei h0.1 h0.2 ho h4 hx hy hb h5 (by simp), h6⟩
          · exact h.elim
        · split at h
          · exact ⟨_, _, _, fun n0 => snd_append_nil hti hk hei h0.1 h0.2 ho h.1 (.inr ⟨_, hx⟩) hy (by simp), h.2⟩
          · exact h.elim
      · rename_i hx
        exact ⟨_, _, _, fun n0 => snd_append_nil hti hk hei h0.1 h0.2 ho h.1 (.inl hx) hy (by simp), h.2⟩
      · exact h.elim
    · exact h.elim
  · exact h.elim
end
end Go.Ab

namespace Go.Ab
section
variable {P : Program} {tab : Tab} {nG : Nat} {G0 : Nat → Option Obj} {tm : List AV} {hp : List (Option Blk)} {o : Oper} {k : OK}

theorem fixCs_len : ∀ (cks : List CK) (cs : List AV), (fixCs cks cs).length = cs.length
  | [], _ => rfl
  | _ :: _, [] => rfl
  | c :: r, v :: s => by simp [fixCs, fixCs_len r s]

theorem fixCs_get : ∀ (cks : List CK) (cs : List AV) (j : Nat) (y : AV), (fixCs cks cs)[j]? = some y → ∃ x, cs[j]? = some x ∧ (y = x ∨ ∃ s, y = fixN s x)
  | [], cs, j, y, h => ⟨y, h, .inl rfl⟩
  | _ :: _, [], j, y, h => by simp [fixCs] at h
  | c :: r, v :: s, 0, y, h => by
    simp only [fixCs, List.getElem?_cons_zero, Option.some.injEq] at h
    refine ⟨v, rfl, ?_⟩
    subst h
    cases c <;> first | exact .inl rfl | exact .inr ⟨_, rfl⟩
  | c :: r, v :: s, j + 1, y, h => by
    simp only [fixCs, List.getElem?_cons_succ] at h ⊢
    exact fixCs_get r s j y h

theorem VRc.fixN {K : KM} {S : Stb} {w : World} {y : AV} {u : Value} (h : VRc K S w y u) (s : Option Nat) : VRc K S w (Go.Ab.fixN s y) u := by
  cases s with
  | none => exact h
  | some sz =>
    cases y <;> try exact h
    simp only [VRc, VR0] at h
    cases h
    exact PR.slNil sz

theorem VR.fixCs {K : KM} {S : Stb} {w : World} {cks : List CK} {cs : List AV} {u : Value} (h : VR K S w (.agg cs) u) : VR K S w (.agg (Go.Ab.fixCs cks cs)) u := by
  obtain ⟨vs, h1, h2, h3⟩ := VR_agg h
  simp only [VR, VRa]
  refine ⟨vs, h1, by rw [fixCs_len]; exact h2, fun j y v hy hv => ?_⟩
  obtain ⟨x, hx, rfl | ⟨s, rfl⟩⟩ := fixCs_get _ _ _ _ hy
  · exact h3 j _ v hx hv
  · exact (h3 j x v hx hv).fixN s

theorem kBuild_snd (hP : ProgOk P tab) {t : TypeId} {parts : Array (Nat × Operand)} (ho : o.op = .build t parts) (h : kBuild tab tm t parts.toList k) : Give P nG G0 o tm hp k := by
  unfold kBuild at h
  simp only [condF, forceL_eq] at h
  split at h
  · exact h.elim
  rename_i ti ht
  have hti := hP.tab t ti ht
  split at h
  · rename_i fs hk
    obtain ⟨h0, h⟩ := h
    split at h
    · rename_i res hf
      refine ⟨_, _, _, Snd.conv (fun n0 => snd_build_struct hP.tab hti hk h0 ho hf) ?_, h⟩
      exact fun K S w u hv => hv.fixCs
    · exact h.elim
  · rename_i m e hk
    split at h
    · exact h.elim
    rename_i ei he
    split at h
    · rename_i res hf
      refine ⟨_, _, _, Snd.conv (fun n0 => snd_build_arr hti hk (hP.tab e ei he) ho hf) ?_, h⟩
      exact fun K S w u hv => hv.fixCs
    · exact h.elim
  · exact h.elim

theorem kBuildSlice_snd (hP : ProgOk P tab) {t : TypeId} {len : Nat} {parts : Array (Nat × Operand)} (ho : o.op = .buildSlice t len parts) (h : kBuildSlice tab tm hp t len parts.toList k) : Give P nG G0 o tm hp k := by
  unfold kBuildSlice at h
  simp only [condF, forceL_eq] at h
  split at h
  · exact h.elim
  rename_i ti ht
  have hti := hP.tab t ti ht
  split at h
  · rename_i e hk
    split at h
    · exact h.elim
    rename_i ei he
    split at h
    · rename_i res hf
      obtain ⟨h0, h⟩ := h
      simp only [Bool.and_eq_true, bne_iff_ne, ne_eq, decide_eq_true_eq] at h0
      exact ⟨_, _, _, fun n0 => snd_buildSlice hti hk (hP.tab e ei he) h0.1.2 h0.2 ho hf h0.1.1 (by simp), h⟩
    · exact h.elim
  · exact h.elim

theorem zipWith_map_right {α β γ δ : Type} (f : α → γ → δ) (g : β → γ) : ∀ (xs : List α) (ys : List β), List.zipWith (fun x y => f x (g y)) xs ys = List.zipWith f xs (ys.map g)
  | [], _ => by simp
  | _ :: _, [] => by simp
  | x :: r, y :: s => by simp [zipWith_map_right f g r s]

theorem kCall_snd {g : Operand} {args : Array Operand} {ts : Array TypeId} {ann : Option Ann} (ho : o.op = .call { callee := .value g, args := args, argTypes := ts })
    (h : kCall P tab nG G0 tm hp g args.toList ts.toList ann k) : Give P nG G0 o tm hp k := by
  unfold kCall at h
  split at h
  · rename_i f cap hg
    split at h
    · exact h.elim
    rename_i fn hfn
    split at h
    · simp only [condF, forceL_eq] at h
      obtain ⟨h0, h⟩ := h
      simp only [Bool.and_eq_true, List.isEmpty_iff, beq_iff_eq] at h0
      obtain ⟨⟨rfl, h1⟩, h2⟩ := h0
      obtain ⟨r, hgood, hpl, hk⟩ := withRet_ex h
      refine ⟨r, [], args.toList.flatMap fun x => viewIds (ev tm x), fun n0 => ?_, hk⟩
      rw [zipWith_map_right (fun x s => viewA (hpF hp) (fixN s (ev tm x))) (szOf tab)] at hgood
      refine snd_call_pure ho hg (by simpa using h1) ?_ hgood ?_ ?_
      · rw [List.all_eq_true] at h2 ⊢
        intro x hx
        have := h2 x hx
        simp only [ev] at this
        generalize evA (tmF tm) x = y at this ⊢
        cases y <;> simp_all [notTup]
      · intro x hx id hid
        exact List.mem_flatMap.2 ⟨x, hx, hid⟩
      · rcases Bool.or_eq_true_iff.1 hpl with h3 | h3
        · exact .inl h3
        · right
          intro x hx
          have h3 := List.isEmpty_iff.1 h3
          have h3 := List.flatMap_eq_nil_iff.1 h3
          exact h3 x hx
    · rename_i an
      simp only [condF, forceL_eq] at h
      generalize an.lent.filter (fun id => lendable hp id && (reach hp 3 (addAll [] ((args.toList.flatMap fun x => idsV (ev tm x)) ++ cap.flatMap idsR))).elem id) = lent at h
      obtain ⟨h0, h⟩ := h
      simp only [Bool.and_eq_true, beq_iff_eq] at h0
      obtain ⟨⟨h1, h2⟩, h3⟩ := h0
      obtain ⟨r0, h⟩ := withRet_ex h
      obtain ⟨r, gs, h⟩ := tokRet_ex h
      obtain ⟨HL, hgood, h4, hk⟩ := withBlks_ex h
      simp only [Bool.and_eq_true, beq_iff_eq] at h4
      have hL : ∀ id ∈ lent, id < hp.length ∧ (match hpF hp id with | some (.grow _ _) => False | some _ => True | none => False) := by
        intro id hid
        have := List.all_eq_true.1 h3 id hid
        simp only [lendable, Bool.and_eq_true, Nat.blt_eq] at this
        refine ⟨this.1, ?_⟩
        have h5 := this.2
        generalize hpF hp id = b at h5 ⊢
        cases b with
        | none => simp at h5
        | some b => cases b <;> simp_all
      refine ⟨_, _, lent, fun n0 => ?_, hk⟩
      rw [zipWith_map_right (fun x s => renV (pos lent) (fixN s (ev tm x))) (szOf tab)] at hgood
      refine snd_call_gen ho hg (by simpa using h2) ?_ ?_ (fun id h => h) ?_ (fun id hid => (hL id hid).2) hgood ?_
      · refine List.nodup_append.2 ⟨nodupB_sound h1, List.nodup_range' .., fun a ha b hb e => ?_⟩
        have := (hL a ha).1
        have := (List.mem_range'_1.1 hb).1
        omega
      · simp [h4.1]
      · intro id hid hl
        have := (hL id hl).1
        have := (List.mem_range'_1.1 hid).1
        omega
      · intro id hid i hi he
        have hge := (List.mem_range'_1.1 hid).1
        have hiL : lent.length ≤ i := by
          rcases Nat.lt_or_ge i lent.length with hlt | hge2
          · rw [List.getElem?_append_left hlt] at hi
            have := (hL id (List.mem_of_getElem? hi)).1
            omega
          · exact hge2
        rw [List.getElem?_append_right (by omega)] at he
        have := List.all_eq_true.1 h4.2 none (List.mem_of_getElem? he)
        cases this
  · exact h.elim

theorem opK_snd (hP : ProgOk P tab) {ann : Option Ann} (h : opK P tab nG G0 tm hp o ann k) : ∃ v ws rd, Snd P nG G0 o tm hp v ws rd ∧ (ws.all fun p => rd.elem p.1 || decide (hp.length ≤ p.1)) = true ∧ k v ws rd := by
  unfold opK at h
  simp only [forceK_eq, condF] at h
  suffices hs : Give P nG G0 o tm hp fun v ws rd => (ws.all fun p => rd.elem p.1 || decide (hp.length ≤ p.1)) = true ∧ k (fixN (szOf tab o.type) v) ws rd by
    obtain ⟨v, ws, rd, h1, h2, h3⟩ := hs
    exact ⟨_, ws, rd, h1.conv fun K S w u hv => hv.fixN _, h2, h3⟩
  split at h
  · rename_i x ho; exact ⟨_, _, _, fun n0 => snd_move (.inl ho), h⟩
  · rename_i x ho; exact ⟨_, _, _, fun n0 => snd_move (.inr ho), h⟩
  · rename_i c x y ho
    split at h
    · rename_i t hc
      refine ⟨_, [], [], fun n0 => snd_pick ho hc, ?_⟩
      rw [ifK_iff] at h
      cases t
      · exact h.2 rfl
      · exact h.1 rfl
    · exact h.elim
  · rename_i t ho
    split at h
    · rename_i ti ht; exact ⟨_, _, _, fun n0 => snd_alloc (hP.tab t ti ht) ho (by simp), h⟩
    · exact h.elim
  · rename_i t x ho; exact ⟨_, _, _, fun n0 => snd_box ho h.1 (by simp), h.2⟩
  · rename_i ho; exact kLoad_snd hP ho h
  · rename_i ho; exact kStore_snd hP ho h
  · rename_i x ho
    exact ⟨_, _, _, fun n0 => snd_nilCheck ho (notDead_ne h.1), h.2⟩
  · rename_i ho; exact kFieldAddr_snd hP ho h
  · rename_i ho; exact kIndexAddr_snd hP ho h
  · rename_i ho; exact kIndex_snd hP ho h
  · rename_i ho; exact kSlice_snd hP ho h
  · rename_i ho; exact kField_snd hP ho h
  · rename_i ho; exact kExtract_snd ho h
  · rename_i f first cap ho
    obtain ⟨h0, h⟩ := h
    have h0 : first = #[] := by simpa using h0
    subst h0
    exact kFunc_snd ho h
  · rename_i ho; exact kBin_snd hP ho h
  · rename_i ho; exact kNot_snd ho h
  · rename_i ho; exact kConv_snd hP ho h
  · rename_i ho; exact kBuild_snd hP ho h
  · rename_i ho; exact kBuildSlice_snd hP ho h
  · rename_i ho; exact kLookup_snd hP ho h
  · rename_i ho; exact ⟨_, _, _, fun n0 => snd_makeMap ho (by simp), h⟩
  · rename_i ho; exact kMapSet_snd hP (.inl ho) h
  · rename_i ho; exact kMapSet_snd hP (.inr ho) h
  · rename_i ho; exact kRange_snd hP ho h
  · rename_i ho; exact kEntry_snd ho h
  · rename_i ho; exact kMakeSlice_snd hP ho h
  · rename_i args ts ho
    split at h
    · rename_i x t hx ht
      rw [arr1 hx, arr1 ht] at ho
      exact kLen_snd hP ho h
    · exact h.elim
  · rename_i args ts ho
    split at h
    · rename_i x y hx
      rw [arr2 hx] at ho
      exact kMin_snd (mx := false) ho h
    · exact h.elim
  · rename_i args ts ho
    split at h
    · rename_i x y hx
      rw [arr2 hx] at ho
      exact kMin_snd (mx := true) ho h
    · exact h.elim
  · rename_i args ts ho
    split at h
    · rename_i x y t t' hx ht
      obtain ⟨h0, h⟩ := h
      have h0 : t = t' := by simpa using h0
      subst h0
      rw [arr2 hx, arr2 ht] at ho
      exact kAppend_snd hP ho h
    · exact h.elim
  · rename_i ho; exact kCall_snd ho h
  · exact h.elim
end
end Go.Ab

namespace Go.Ab

def outR (hp : Nat → Option Blk) (ρ : Nat → Option Nat) : AV → AV
  | .ref id off => match ρ id with | some i => .ref i off | none => .dead
  | .eref sz id j off => match ρ id with | some i => .eref sz i j off | none => .dead
  | .rsl sz id off len => match ρ id with | some i => .rsl sz i off len | none => (match hp id with | some (.arr _ xs) => .sl sz false none ((xs.drop off).take len) | _ => .dead)
  | .rmp id => match ρ id with | some i => .rmp i | none => (match hp id with | some (.mp es) => .mp false es | _ => .dead)
  | .iter id => match ρ id with | some i => .iter i | none => .dead
  | .sl sz nil tok xs => match tok with | some τ => .sl sz nil (ρ τ) xs | none => .sl sz nil none xs
  | .func _ _ => .dead
  | .agg _ => .dead
  | .tup _ => .dead
  | v => v

def outC (hp : Nat → Option Blk) (ρ : Nat → Option Nat) : AV → AV
  | .func f cap => .func f (cap.map (outR hp ρ))
  | v => outR hp ρ v

def outA (hp : Nat → Option Blk) (ρ : Nat → Option Nat) : AV → AV
  | .agg cs => .agg (cs.map (outC hp ρ))
  | v => outC hp ρ v

def outV (hp : Nat → Option Blk) (ρ : Nat → Option Nat) : AV → AV
  | .tup vs => .tup (vs.map (outA hp ρ))
  | v => outA hp ρ v

def outB (hp : Nat → Option Blk) (ρ : Nat → Option Nat) : Blk → Blk
  | .var cs => .var (cs.map (outC hp ρ))
  | .iter es _ => .iter es none
  | b => b

/-- The blocks that are left alone have become stable. -/
def outS (K : KM) (S : Stb) (L : List Nat) : Stb := fun b off => S b off ∨ ∃ id, pos L id = none ∧ ∃ ki, K id = some ki ∧ (match ki with | .arr b' _ _ => b' = b | .mp b' => b' = b | _ => False)

def outK (K : KM) (L : List Nat) : KM := fun i => match L[i]? with | some id => K id | none => none

section
variable {nG : Nat} {G0 : Nat → Option Obj} {K : KM} {S : Stb} {hp : Nat → Option Blk} {w : World} {L : List Nat}

theorem outS_kept : Kept S w (outS K S L) w := ⟨fun _ _ h => .inl h, fun _ _ _ => rfl, fun _ _ => rfl⟩

theorem outK_pos {id i : Nat} {ki : KI} (h : pos L id = some i) (hk : K id = some ki) : outK K L i = some ki := by
  simp only [outK, pos_get h]; exact hk

theorem VR0.out (hr : HRel nG G0 K S hp w) {y : AV} {u : Value} (h : VR0 K S w y u) : VR0 (outK K L) (outS K S L) w (outR hp (pos L) y) u := by
  have hkept : Kept S w (outS K S L) w := outS_kept
  cases y <;> simp only [VR0] at h <;> simp only [outR] <;> try (simp only [VR0]; exact h.mono hkept)
  case dead => simp only [VR0]
  case sl sz nil tok xs =>
    cases tok with
    | none => simp only [VR0] at h ⊢; exact h.mono hkept
    | some τ =>
      simp only
      obtain ⟨p, loc, n, hK, hn, hl⟩ := h
      cases hq : pos L τ with
      | none => simp only [VR0]; exact p.mono hkept
      | some i => simp only [VR0]; exact ⟨p.mono hkept, loc, n, outK_pos hq hK, hn, hl⟩
  case ref id off =>
    obtain ⟨b, hK, hu⟩ := h
    cases hq : pos L id with
    | none => simp only [VR0]
    | some i => simp only [VR0]; exact ⟨b, outK_pos hq hK, hu⟩
  case eref sz id j off =>
    obtain ⟨b, n, hK, h1, hu⟩ := h
    cases hq : pos L id with
    | none => simp only [VR0]
    | some i => simp only [VR0]; exact ⟨b, n, outK_pos hq hK, h1, hu⟩
  case iter id =>
    obtain ⟨b, hK, hu⟩ := h
    cases hq : pos L id with
    | none => simp only [VR0]
    | some i => simp only [VR0]; exact ⟨b, outK_pos hq hK, hu⟩
  case rsl sz id off len =>
    obtain ⟨b, n, cap, hK, h1, h2, rfl⟩ := h
    cases hq : pos L id with
    | some i => simp only [VR0]; exact ⟨b, n, cap, outK_pos hq hK, h1, h2, rfl⟩
    | none =>
      simp only
      cases hb : hp id with
      | none => simp only [VR0]
      | some bl =>
        have hbr := hr.blk id bl _ hb hK
        cases bl <;> simp only [BR] at hbr
        rename_i sz2 xs
        obtain ⟨e1, rfl, hxl, arr, e, hheap, hsz, hv⟩ := hbr
        subst e1
        simp only [VR0]
        have hl : ((xs.drop off).take len).length = len := by simp; omega
        have key := PR.sl (S := outS K S L) (w := w) sz2 b (off * sz2) cap ((xs.drop off).take len) (fun i j => arr[(off + i) * sz2 + j]?.getD undef) (by rw [hl]; exact h2) (fun i x hx => ?_) (fun i x j y hx hy => ?_) (fun i x j y hx hy => ?_)
        · rw [hl] at key; exact key
        all_goals
          rw [List.getElem?_take] at hx
          split at hx
          rotate_left
          · cases hx
          rw [List.getElem?_drop] at hx
        · exact hxl _ x hx
        all_goals
          have hj : j < sz2 := by rw [← hxl _ x hx]; exact (List.getElem?_eq_some_iff.1 hy).1
          have hi' : off + i < xs.length := (List.getElem?_eq_some_iff.1 hx).1
          have hlt := idx_lt hi' hj
          have hs : (off + i) * sz2 + j < arr.size := by omega
        · refine ⟨.inr ⟨id, hq, _, hK, rfl⟩, ?_⟩
          rw [cell_arr hheap, show off * sz2 + (i * sz2 + j) = (off + i) * sz2 + j from by rw [Nat.add_mul]; omega]
          simp [hs]
        · exact (hv _ x j y _ hx hy (by simp [hs])).mono hkept
  case rmp id =>
    obtain ⟨b, hK, rfl⟩ := h
    cases hq : pos L id with
    | some i => simp only [VR0]; exact ⟨b, outK_pos hq hK, rfl⟩
    | none =>
      simp only
      cases hb : hp id with
      | none => simp only [VR0]
      | some bl =>
        have hbr := hr.blk id bl _ hb hK
        cases bl <;> simp only [BR] at hbr
        obtain ⟨ents, clock, hheap, hok, hk, hv⟩ := hbr
        simp only [VR0]
        exact .mp b _ ents clock (fun off => .inr ⟨id, hq, _, hK, rfl⟩) hheap hok (fun i p e hp he => (hk i p e hp he).mono hkept) (fun i p e hp he => (hv i p e hp he).mono hkept)

theorem VR0.vrc {y : AV} {u : Value} (h : VR0 K S w y u) : VRc K S w y u := by
  cases y
  case func => simp only [VR0] at h
  all_goals simpa only [VRc] using h

theorem VRc.out (hr : HRel nG G0 K S hp w) {y : AV} {u : Value} (h : VRc K S w y u) : VRc (outK K L) (outS K S L) w (outC hp (pos L) y) u := by
  cases y
  case func f cap =>
    obtain ⟨cs, h1, h2, h3⟩ := h
    simp only [outC, VRc]
    refine ⟨cs, h1, by simpa using h2, fun j y c hy hc => ?_⟩
    rw [List.getElem?_map] at hy
    cases hq : cap[j]? with
    | none => rw [hq] at hy; cases hy
    | some q => rw [hq] at hy; cases hy; exact (h3 j q c hq hc).out hr
  all_goals
    simp only [VRc] at h
    exact (VR0.out hr h).vrc

theorem VRa.out (hr : HRel nG G0 K S hp w) {y : AV} {u : Value} (h : VRa K S w y u) : VRa (outK K L) (outS K S L) w (outA hp (pos L) y) u := by
  cases y
  case agg ys =>
    obtain ⟨vs, h1, h2, h3⟩ := h
    simp only [outA, VRa]
    refine ⟨vs, h1, by simpa using h2, fun j y c hy hc => ?_⟩
    rw [List.getElem?_map] at hy
    cases hq : ys[j]? with
    | none => rw [hq] at hy; cases hy
    | some q => rw [hq] at hy; cases hy; exact (h3 j q c hq hc).out hr
  all_goals
    simp only [VRa] at h
    exact (VRc.out hr h).vra

theorem VR.out (hr : HRel nG G0 K S hp w) {y : AV} {u : Value} (h : VR K S w y u) : VR (outK K L) (outS K S L) w (outV hp (pos L) y) u := by
  cases y
  case tup ys =>
    obtain ⟨vs, h1, h2, h3⟩ := h
    simp only [outV, VR]
    refine ⟨vs, h1, by simpa using h2, fun j y c hy hc => ?_⟩
    rw [List.getElem?_map] at hy
    cases hq : ys[j]? with
    | none => rw [hq] at hy; cases hy
    | some q => rw [hq] at hy; cases hy; exact (h3 j q c hq hc).out hr
  all_goals
    simp only [VR] at h
    exact (VRa.out hr h).vr

theorem BR.out (hr : HRel nG G0 K S hp w) {bl : Blk} {ki : KI} (h : BR K S w bl ki) : BR (outK K L) (outS K S L) w (outB hp (pos L) bl) ki := by
  have hkept : Kept S w (outS K S L) w := outS_kept
  cases bl <;> cases ki <;> simp only [BR, outB] at h ⊢
  case var.var cs b =>
    obtain ⟨arr, e, h1, h2, h3⟩ := h
    refine ⟨arr, e, h1, by simpa using h2, fun j y u hy hu => ?_⟩
    rw [List.getElem?_map] at hy
    cases hq : cs[j]? with
    | none => rw [hq] at hy; cases hy
    | some q => rw [hq] at hy; cases hy; exact (h3 j q u hq hu).out hr
  case arr.arr sz xs b sz' n =>
    obtain ⟨h1, h2, h3, arr, e, h4, h5, h6⟩ := h
    exact ⟨h1, h2, h3, arr, e, h4, h5, fun i x j y u hx hy hu => (h6 i x j y u hx hy hu).mono hkept⟩
  case grow.grow sz n loc sz' n' => exact h
  case mp.mp es b =>
    obtain ⟨ents, clock, h1, h2, h3, h4⟩ := h
    exact ⟨ents, clock, h1, h2, fun i p e hp he => (h3 i p e hp he).mono hkept, fun i p e hp he => (h4 i p e hp he).mono hkept⟩
  case iter.iter es cur b =>
    obtain ⟨m, since, seen, stepped, h1, h2⟩ := h
    refine ⟨m, since, seen, stepped, h1, ?_⟩
    have h3 := h2.mono hkept
    cases m with
    | none => exact ⟨h3.1, rfl⟩
    | some mb =>
      obtain ⟨ents, clock, g1, g2, g3, g4, g5, g6, g7, g8, g9, g10⟩ := h3
      exact ⟨ents, clock, g1, g2, g3, g4, g5, g6, g7, g8, g9, fun p hp => by cases hp⟩

theorem HRel.out {n0 : Nat} (hr : HRel nG G0 K S hp w) (hnd : L.Nodup) (hbase : ∀ i, i < n0 → L[i]? = some i) :
    HRel nG G0 (outK K L) (outS K S L) (hpF (L.map fun id => (hp id).map (outB hp (pos L)))) w ∧ Ext n0 K S w (outK K L) (outS K S L) w := by
  have hK : ∀ i ki, outK K L i = some ki → ∃ id, L[i]? = some id ∧ K id = some ki := by
    intro i ki h
    simp only [outK] at h
    split at h
    · rename_i id hq; exact ⟨id, hq, h⟩
    · cases h
  have hhp : ∀ i, hpF (L.map fun id => (hp id).map (outB hp (pos L))) i = match L[i]? with | some id => (hp id).map (outB hp (pos L)) | none => none := by
    intro i
    simp only [hpF, List.getD_eq_getElem?_getD, List.getElem?_map]
    cases L[i]? <;> simp
  refine ⟨⟨fun i => ?_, fun i bl ki hb hk => ?_, fun i j ki kj b hi hj hbi hbj => ?_, fun b off hs => ?_, fun b off i ki hs hk hbk => ?_, fun i ki b hk hbk => ?_, hr.fix, hr.nG⟩,
    rfl, rfl, rfl, Nat.le_refl _, fun _ _ _ => rfl, fun i ki b hk hb => ?_, outS_kept, fun b off hs => ?_, fun id ki hid hk => ?_⟩
  · rw [hhp]
    simp only [outK]
    cases hq : L[i]? with
    | none => rfl
    | some id => simpa using hr.dom id
  · rw [hhp] at hb
    obtain ⟨id, h1, h2⟩ := hK i ki hk
    rw [h1] at hb
    simp only [Option.map_eq_some_iff] at hb
    obtain ⟨bl0, h3, rfl⟩ := hb
    exact (hr.blk id bl0 ki h3 h2).out hr
  · obtain ⟨id, h1, h2⟩ := hK i ki hi
    obtain ⟨id', h3, h4⟩ := hK j kj hj
    have := hr.inj id id' ki kj b h2 h4 hbi hbj
    subst this
    have e1 := get_pos hnd h1
    have e2 := get_pos hnd h3
    rw [e1] at e2; cases e2; rfl
  · rcases hs with hs | ⟨id, _, ki, hk, hb⟩
    · exact hr.lt b off hs
    · refine hr.klt hk (b := b) ?_
      cases ki <;> simp at hb <;> simp [KI.blk, hb]
  · obtain ⟨id, h1, h2⟩ := hK i ki hk
    rcases hs with hs | ⟨id', hn, ki', hk', hb'⟩
    · exact hr.apart b off id ki hs h2 hbk
    · exfalso
      have hb2 : ki'.blk = some b := by cases ki' <;> simp at hb' <;> simp [KI.blk, hb']
      have := hr.inj id id' ki ki' b h2 hk' hbk hb2
      subst this
      rw [get_pos hnd h1] at hn; cases hn
  · obtain ⟨id, h1, h2⟩ := hK i ki hk
    exact hr.glob id ki b h2 hbk
  · obtain ⟨id, h1, h2⟩ := hK i ki hk
    exact .inl ⟨id, ki, h2, hb⟩
  · rcases hs with hs | ⟨id, _, ki, hk, hb⟩
    · exact .inl hs
    · refine .inr (.inr ⟨id, ki, hk, ?_⟩)
      cases ki <;> simp at hb <;> simp [KI.blk, hb]
  · exact ⟨ki, by simp only [outK, hbase id hid]; exact hk, kle.refl ki⟩
end
end Go.Ab

namespace Go.Ab

structure FAnn where
  calls : List (Nat × Nat × Ann)
  loops : List (Nat × List Nat × List Nat)
  out : Option (List Nat)
  frz : List (Nat × List Nat) := []

def FAnn.call (an : FAnn) (rid i : Nat) : Option Ann := go an.calls
  where go : List (Nat × Nat × Ann) → Option Ann
  | [] => none
  | (r, j, a) :: l => bif r == rid && j == i then some a else go l

def FAnn.loop (an : FAnn) (id : Nat) : List Nat × List Nat := go an.loops
  where go : List (Nat × List Nat × List Nat) → List Nat × List Nat
  | [] => ([], [])
  | (r, a) :: l => bif r == id then a else go l

def FAnn.frzAt (an : FAnn) (id : Nat) : List Nat := go an.frz
  where go : List (Nat × List Nat) → List Nat
  | [] => []
  | (r, a) :: l => bif r == id then a else go l

section
variable (P : Program) (tab : Tab) (nG : Nat) (G0 : Nat → Option Obj)

def putK (tm : List AV) (d : Option Tmp) (v : AV) (k : List AV → Prop) : Prop :=
  match d with
  | none => k tm
  | some d => setK tm d v k

/-- One operation, and then. -/
def oneK (tm : List AV) (hp : List (Option Blk)) (o : Oper) (ann : Option Ann) (k : List AV → List (Option Blk) → Prop) : Prop :=
  opK P tab nG G0 tm hp o ann fun v ws _ => putK tm o.dst v fun tm' => writeK ws hp fun hp' => k tm' hp'

/-- All keys are numbers, all values texts. -/
def mapIS (es : List (AV × AV)) : Prop := ∀ (i : Nat) (p : AV × AV), es[i]? = some p → ∃ (n : Int) (s : List UInt8), p = (.int .i64 n, .str s)

/-- A step of a walk over a map; else what else. -/
def nextK (tm : List AV) (hp : List (Option Blk)) (o : Oper) (els : Prop) (k : List AV → List (Option Blk) → Prop) : Prop :=
  match o.op with
  | .next x false =>
    match tmF tm (match x with | .tmp t => t | _ => tm.length) with
    | .iter id =>
      match hpF hp id with
      | some (.iter es _) =>
        mapIS es ∧ (es = [] → putK tm o.dst (.tup [.bool false]) fun tm' => k tm' hp) ∧
          (∀ (i : Nat) (n : Int) (s : List UInt8), es[i]? = some (.int .i64 n, .str s) → putK tm o.dst (.tup [.bool true, .int .i64 n, .str s]) fun tm' => hputK hp id (.iter (es.eraseIdx i) (some (.int .i64 n, .str s))) fun hp' => k tm' hp')
      | _ => False
    | _ => False
  | _ => els

def opsK (an : FAnn) (rid : Nat) (all : List Oper) : List Oper → Nat → List AV → List (Option Blk) → (List AV → List (Option Blk) → Prop) → Prop
  | [], _, tm, hp, k => k tm hp
  | o :: r, i, tm, hp, k =>
    match o.guard with
    | none => nextK tm hp o (oneK P tab nG G0 tm hp o (an.call rid i) fun tm' hp' => opsK an rid all r (i + 1) tm' hp' k) fun tm' hp' => opsK an rid all r (i + 1) tm' hp' k
    | some (j, b) =>
      match (all[j]?).bind (·.dst) with
      | none => False
      | some d =>
        match tmF tm d with
        | .bool c =>
          ifK c
            (setK tm d (.bool true) fun tm1 =>
              match b with
              | true => oneK P tab nG G0 tm1 hp o (an.call rid i) fun tm' hp' => opsK an rid all r (i + 1) tm' hp' k
              | false => putK tm1 o.dst (.tup []) fun tm' => opsK an rid all r (i + 1) tm' hp k)
            (setK tm d (.bool false) fun tm1 =>
              match b with
              | false => oneK P tab nG G0 tm1 hp o (an.call rid i) fun tm' hp' => opsK an rid all r (i + 1) tm' hp' k
              | true => putK tm1 o.dst (.tup []) fun tm' => opsK an rid all r (i + 1) tm' hp k)
        | .tup [] => putK tm o.dst (.tup []) fun tm' => opsK an rid all r (i + 1) tm' hp k
        | _ => False
end

def putL (tm : List AV) (d : Option Tmp) (v : AV) : List AV :=
  match d with
  | none => tm
  | some d => tm.set d v

theorem putK_eq (tm : List AV) (d : Option Tmp) (v : AV) (k : List AV → Prop) : putK tm d v k = k (putL tm d v) := by
  cases d <;> simp only [putK, putL, setK_eq]

theorem putL_len (tm : List AV) (d : Option Tmp) (v : AV) : (putL tm d v).length = tm.length := by cases d <;> simp [putL]

theorem putL_get (tm : List AV) (d : Option Tmp) (v : AV) : tmF (putL tm d v) = upd tm.length (tmF tm) d v := by
  funext t
  cases d with
  | none => rfl
  | some d =>
    simp only [tmF, putL, upd, List.getD_eq_getElem?_getD, List.getElem?_set]
    by_cases h : d = t
    · subst h
      by_cases h2 : d < tm.length
      · simp [h2]
      · simp [h2]
    · have : ¬ t = d := fun e => h e.symm
      simp [h, this]

section
variable {P : Program} {tab : Tab} {nG : Nat} {G0 : Nat → Option Obj} {n : Nat} {K K' : KM} {S S' : Stb} {tm : Nat → AV} {hp hp' : Nat → Option Blk} {a : Act} {w w' : World}

theorem RelF.put (h : RelF nG G0 n K S tm hp a w) (hk : KLe K K') (he : Kept S w S' w') {v : AV} {u : Value} (hv : VR K' S' w' v u) (hh : HRel nG G0 K' S' hp' w') (d : Option Tmp) :
    RelF nG G0 n K' S' (upd n tm d v) hp' (a.put d u) w' := by
  refine ⟨?_, ?_, fun t => ?_, hh⟩
  · cases d <;> exact h.defers
  · cases d <;> simp [Act.put, h.size]
  · have ht := (h.tmp t).mono hk he
    cases d with
    | none => exact ht
    | some d =>
      simp only [upd, Act.put]
      split
      · rename_i hc
        obtain ⟨rfl, hlt⟩ := hc
        have : t < a.tmps.size := by rw [h.size]; exact hlt
        simpa [Array.getD_eq_getD_getElem?, this] using hv
      · rename_i hc
        have : (a.tmps.setIfInBounds d u).getD t undef = a.tmps.getD t undef := by
          simp only [Array.getD_eq_getD_getElem?, Array.getElem?_setIfInBounds]
          by_cases hd : d = t
          · subst hd
            have : ¬ d < n := fun hlt => hc ⟨rfl, hlt⟩
            have : ¬ d < a.tmps.size := by rw [h.size]; exact this
            simp [this]
          · simp [hd]
        rw [this]; exact ht
end

/-- The rest of a function's code comes to its return. -/
def Ends (P : Program) (its : List Item) (Q : Act → World → Prop) (a : Act) (w : World) : Prop :=
  ∀ (b : Frame) (cs : List Frame), ∃ a' w' todo, Q a' w' ∧ Steps P (lone (b.at a its) cs w) (lone { b.at a' todo with mode := .returning } cs w')

section
variable {P : Program} {its its' : List Item} {Q Q' : Act → World → Prop} {a a' : Act} {w w' : World}

theorem Ends.mono (h : Ends P its Q a w) (hq : ∀ a w, Q a w → Q' a w) : Ends P its Q' a w := fun b cs => let ⟨a', w', t, q, s⟩ := h b cs; ⟨a', w', t, hq _ _ q, s⟩

theorem Ends.step (hs : ∀ (b : Frame) (cs : List Frame), Go.step P (lone (b.at a its) cs w) = .next (lone (b.at a' its') cs w')) (h : Ends P its' Q a' w') : Ends P its Q a w :=
  fun b cs => let ⟨a', w', t, q, s⟩ := h b cs; ⟨a', w', t, q, .head (hs b cs) s⟩

theorem Ends.nil (h : Q a w) : Ends P [] Q a w := fun _ _ => ⟨a, w, [], h, .one step_end⟩
theorem Ends.ret {k : List Item} (h : Q a w) : Ends P (.code .ret :: k) Q a w := fun _ _ => ⟨a, w, _, h, .one step_ret⟩

theorem Ends.code {c : Code} {k : List Item} (h : c.wp P (fun e a w => e = .normal ∧ Ends P k Q a w) a w) : Ends P (.code c :: k) Q a w := by
  intro b cs
  obtain ⟨e, a', w', ⟨rfl, hq⟩, harr⟩ := h b k cs
  obtain ⟨a2, w2, t, q, s⟩ := hq b cs
  exact ⟨a2, w2, t, q, Steps.trans harr s⟩
end

section
variable {P : Program} {tab : Tab} {nG : Nat} {G0 : Nat → Option Obj} {an : FAnn} {n0 : Nat}

theorem tmF_setBool {tm : List AV} {d : Nat} {c : Bool} (h : tmF tm d = .bool c) : tmF (tm.set d (.bool c)) = tmF tm := by
  funext t
  simp only [tmF, List.getD_eq_getElem?_getD, List.getElem?_set] at h ⊢
  split
  · rename_i e
    subst e
    split
    · rw [← h]; simp
    · rename_i hlt
      simp [List.getElem?_eq_none (Nat.le_of_not_lt hlt)]
  · rfl

theorem yielded_of {ops : Array Oper} {a : Act} {j d n : Nat} {c : Bool} {K : KM} {S : Stb} {tm : Nat → AV} {hp : Nat → Option Blk} {w : World} (h : RelF nG G0 n K S tm hp a w)
    (hd : (ops.toList[j]?).bind (·.dst) = some d) (hc : tm d = .bool c) : yielded ops a.tmps j = some c := by
  have hv := h.tmp d
  rw [hc] at hv
  have hv : a.tmps.getD d undef = .bool c := VR_bool hv
  have hlt : d < a.tmps.size := by
    rcases Nat.lt_or_ge d a.tmps.size with h | h
    · exact h
    · rw [Array.getD_eq_getD_getElem?, Array.getElem?_eq_none h] at hv
      simp [undef] at hv
  have h2 : a.tmps[d]? = some (.bool c) := by
    rw [Array.getElem?_eq_getElem hlt]
    rw [Array.getD_eq_getD_getElem?, Array.getElem?_eq_getElem hlt] at hv
    simpa using hv
  have hd' : (ops[j]?).bind (·.dst) = some d := by simpa using hd
  unfold yielded
  rw [hd']
  simp [h2]

theorem yielded_off {ops : Array Oper} {a : Act} {j d n : Nat} {K : KM} {S : Stb} {tm : Nat → AV} {hp : Nat → Option Blk} {w : World} (h : RelF nG G0 n K S tm hp a w)
    (hd : (ops.toList[j]?).bind (·.dst) = some d) (hc : tm d = .tup []) : yielded ops a.tmps j = none := by
  have hv := h.tmp d
  rw [hc] at hv
  obtain ⟨vs, hv, _, _⟩ := hv
  have hd' : (ops[j]?).bind (·.dst) = some d := by simpa using hd
  unfold yielded
  rw [hd']
  rw [Array.getD_eq_getD_getElem?] at hv
  cases hg : a.tmps[d]? with
  | none => simp [hg]
  | some u => rw [hg] at hv; simp only [Option.getD_some] at hv; subst hv; simp [hg]

theorem oneK_snd (hP : ProgOk P tab) {tm : List AV} {hp : List (Option Blk)} {o : Oper} {ann : Option Ann} {k : List AV → List (Option Blk) → Prop} (h : oneK P tab nG G0 tm hp o ann k)
    {K : KM} {S : Stb} {a : Act} {w : World} (hr : RelF nG G0 tm.length K S (tmF tm) (hpF hp) a w) (hn0 : n0 ≤ hp.length) {next : Act → World → Prop} {QC : Exit → Act → World → Prop}
    (hn : ∀ tm' hp' a' w' K' S', k tm' hp' → tm'.length = tm.length → hp.length ≤ hp'.length → RelF nG G0 tm'.length K' S' (tmF tm') (hpF hp') a' w' → Ext n0 K S w K' S' w' → next a' w') :
    o.wp P a w next QC := by
  unfold oneK at h
  simp only [putK_eq, writeK_eq] at h
  obtain ⟨v, ws, rd, hs, hws, hk⟩ := opK_snd hP h
  refine hs n0 tm.length K S (tmF tm) (hpF hp) a w hr (fun _ _ => rfl) (fun _ _ => rfl) ?_ next QC fun u w' K' S' hv hh he hkl => ?_
  · intro p hp'
    have := List.all_eq_true.1 hws p hp'
    simp only [Bool.or_eq_true, List.elem_eq_mem, decide_eq_true_eq] at this
    rcases this with h | h
    · exact .inl h
    · refine .inr ⟨?_, Nat.le_trans hn0 h⟩
      simp [hpF, List.getElem?_eq_none h]
  · refine hn _ _ _ w' K' S' hk (putL_len _ _ _) (write_len _ _) ?_ he
    rw [putL_len, putL_get, write_get]
    exact hr.put hkl he.kept hv hh o.dst

theorem nextK_snd {tm : List AV} {hp : List (Option Blk)} {o : Oper} {els : Prop} {k : List AV → List (Option Blk) → Prop} (h : nextK tm hp o els k) {next : Act → World → Prop} {QC : Exit → Act → World → Prop}
    {K : KM} {S : Stb} {a : Act} {w : World} (hr : RelF nG G0 tm.length K S (tmF tm) (hpF hp) a w) (hels : els → o.wp P a w next QC)
    (hn : ∀ tm' hp' a' w' K' S', k tm' hp' → tm'.length = tm.length → hp.length ≤ hp'.length → RelF nG G0 tm'.length K' S' (tmF tm') (hpF hp') a' w' → Ext n0 K S w K' S' w' → next a' w') :
    o.wp P a w next QC := by
  unfold nextK at h
  split at h
  · rename_i x ho
    split at h
    · rename_i id hx
      split at h
      · rename_i es cur hb
        obtain ⟨h1, h2, h3⟩ := h
        simp only [putK_eq, hputK_eq] at h2 h3
        have hxe : evA (tmF tm) x = .iter id := by
          cases x with
          | tmp t => exact hx
          | const v => simp [tmF] at hx
          | global g => simp [tmF] at hx
          | func f => simp [tmF] at hx
        refine wp_next (n0 := n0) ho hr hxe hb (fun he u hu => ?_) (fun i p hp' u w' K' S' hu hh hxt hkl => ?_)
        · refine hn _ hp _ w K S (h2 he) (putL_len _ _ _) (Nat.le_refl _) ?_ (Ext.refl _ _ _ _)
          rw [putL_len, putL_get]
          exact hr.put (KLe.refl K) (Kept.refl S w) hu hr.heap o.dst
        · obtain ⟨n, s, rfl⟩ := h1 i p hp'
          refine hn _ _ _ w' K' S' (h3 i n s hp') (putL_len _ _ _) (hput_len _ _ _) ?_ hxt
          rw [putL_len, putL_get]
          refine hr.put hkl hxt.kept hu ?_ o.dst
          have : hpF (hput hp id (.iter (es.eraseIdx i) (some (.int .i64 n, .str s)))) = updH (hpF hp) [(id, .iter (es.eraseIdx i) (some (.int .i64 n, .str s)))] := by
            funext j; exact hput_get hp id _ j
          rw [this]; exact hh
      · exact h.elim
    · exact h.elim
  · exact hels h

theorem opsK_snd (hP : ProgOk P tab) {rid : Nat} {ops : Array Oper} {Q : Exit → Act → World → Prop} : ∀ (r : List Oper) (i : Nat) (tm : List AV) (hp : List (Option Blk)) (k : List AV → List (Option Blk) → Prop),
    opsK P tab nG G0 an rid ops.toList r i tm hp k → ops.toList.drop i = r → n0 ≤ hp.length →
    ∀ (K : KM) (S : Stb) (a : Act) (w : World), RelF nG G0 tm.length K S (tmF tm) (hpF hp) a w →
      (∀ tm' hp' a' w' K' S', k tm' hp' → tm'.length = tm.length → n0 ≤ hp'.length → RelF nG G0 tm'.length K' S' (tmF tm') (hpF hp') a' w' → Ext n0 K S w K' S' w' → Q .normal a' w') →
      wpOps P ops Q (List.range' i r.length) a w
  | [], i, tm, hp, k, h, _, hn0, K, S, a, w, hr, hq => by
    simp only [List.length_nil, List.range'_zero, wpOps]
    exact hq tm hp a w K S h rfl hn0 hr (Ext.refl _ _ _ _)
  | o :: r, i, tm, hp, k, h, hd, hn0, K, S, a, w, hr, hq => by
    have ho : ops.toList[i]? = some o := by
      have h1 : (ops.toList.drop i)[0]? = some o := by rw [hd]; rfl
      simpa using h1
    have ho' : ops[i]? = some o := by simpa using ho
    have hd' : ops.toList.drop (i + 1) = r := by
      have : ops.toList.drop (i + 1) = (ops.toList.drop i).tail := by simp
      rw [this, hd]; rfl
    rw [List.length_cons, List.range'_succ]
    simp only [wpOps, ho']
    have exec : ∀ (tm1 : List AV), tm1.length = tm.length → tmF tm1 = tmF tm → (oneK P tab nG G0 tm1 hp o (an.call rid i) fun tm' hp' => opsK P tab nG G0 an rid ops.toList r (i + 1) tm' hp' k) →
        o.wp P a w (wpOps P ops Q (List.range' (i + 1) r.length)) Q := by
      intro tm1 hl he hone
      refine oneK_snd hP hone (n0 := n0) (K := K) (S := S) (by rw [hl, he]; exact hr) hn0 fun tm' hp' a' w' K' S' hk hl' hh' hr' hx => ?_
      refine opsK_snd hP r (i + 1) tm' hp' k hk hd' (Nat.le_trans hn0 hh') K' S' a' w' hr' fun tm2 hp2 a2 w2 K2 S2 hk2 hl2 hn2 hr2 hx2 => ?_
      exact hq tm2 hp2 a2 w2 K2 S2 hk2 (by rw [hl2, hl', hl]) hn2 hr2 (hx.trans hx2)
    have skip : ∀ (tm1 : List AV), tm1.length = tm.length → tmF tm1 = tmF tm → opsK P tab nG G0 an rid ops.toList r (i + 1) (putL tm1 o.dst (.tup [])) hp k →
        wpOps P ops Q (List.range' (i + 1) r.length) (a.put o.dst undef) w := by
      intro tm1 hl he hsk
      refine opsK_snd hP r (i + 1) _ hp k hsk hd' hn0 K S _ w ?_ fun tm2 hp2 a2 w2 K2 S2 hk2 hl2 hn2 hr2 hx2 => ?_
      · rw [putL_len, putL_get, hl, he]
        refine hr.put (KLe.refl K) (Kept.refl S w) ?_ hr.heap o.dst
        exact ⟨#[], rfl, rfl, fun j y v hy => by simp at hy⟩
      · exact hq tm2 hp2 a2 w2 K2 S2 hk2 (by rw [hl2, putL_len, hl]) hn2 hr2 hx2
    unfold opsK at h
    split at h
    · rename_i hg
      have hw : Region.wanted o (yielded ops a.tmps) = true := by simp [Region.wanted, hg]
      rw [if_pos hw]
      refine .inl (nextK_snd (n0 := n0) h hr (fun h => exec tm rfl rfl h) fun tm' hp' a' w' K' S' hk hl' hh' hr' hx => ?_)
      refine opsK_snd hP r (i + 1) tm' hp' k hk hd' (Nat.le_trans hn0 hh') K' S' a' w' hr' fun tm2 hp2 a2 w2 K2 S2 hk2 hl2 hn2 hr2 hx2 => ?_
      exact hq tm2 hp2 a2 w2 K2 S2 hk2 (by rw [hl2, hl']) hn2 hr2 (hx.trans hx2)
    · rename_i j b hg
      split at h
      · exact h.elim
      rename_i d hjd
      split at h
      · rename_i c hc
        have hy := yielded_of hr hjd hc
        rw [ifK_iff] at h
        simp only [setK_eq, putK_eq] at h
        have hwant : Region.wanted o (yielded ops a.tmps) = (c == b) := by
          simp only [Region.wanted, hg, hy]
          cases c <;> cases b <;> rfl
        cases c with
        | true =>
          have h1 := h.1 rfl
          have hl : (tm.set d (.bool true)).length = tm.length := by simp
          have he := tmF_setBool hc
          cases b with
          | true => rw [if_pos (by rw [hwant]; rfl)]; exact .inl (exec _ hl he h1)
          | false => rw [if_neg (by rw [hwant]; simp)]; exact skip _ hl he h1
        | false =>
          have h1 := h.2 rfl
          have hl : (tm.set d (.bool false)).length = tm.length := by simp
          have he := tmF_setBool hc
          cases b with
          | false => rw [if_pos (by rw [hwant]; rfl)]; exact .inl (exec _ hl he h1)
          | true => rw [if_neg (by rw [hwant]; simp)]; exact skip _ hl he h1
      · rename_i hc
        have hy := yielded_off hr hjd hc
        simp only [putK_eq] at h
        have hwant : Region.wanted o (yielded ops a.tmps) = false := by
          simp only [Region.wanted, hg, hy]
          cases b <;> rfl
        rw [if_neg (by rw [hwant]; simp)]
        exact skip _ rfl rfl h
      · exact h.elim
end
end Go.Ab

namespace Go.Ab

section
variable (tab : Tab) (tm : List AV) (hp : List (Option Blk))

def resK : List ResultVar → (List AV → Prop) → Prop
  | [], k => k []
  | .tmp t :: r, k => forceK (tmF tm t) fun v => bif notTup v then resK r fun vs => k (v :: vs) else False
  | .cell a t :: r, k =>
    match tab t with
    | none => False
    | some ti =>
      match tmF tm a with
      | .ref id off =>
        match hpF hp id with
        | some (.var cs) => forceL ((cs.drop off).take ti.size) fun c => bif c.length == ti.size && flatCs c then loadK ti c fun v => bif notTup v then resK r fun vs => k (v :: vs) else False else False
        | _ => False
      | _ => False
end

def retV : List AV → AV
  | [v] => v
  | vs => .tup vs

theorem notTup_ne {v : AV} (h : notTup v = true) (zs : List AV) : v ≠ .tup zs := by rintro rfl; cases h

theorem VR.vra {K : KM} {S : Stb} {w : World} {y : AV} {u : Value} (h : VR K S w y u) (ht : notTup y = true) : VRa K S w y u := by
  cases y
  case tup => cases ht
  all_goals simpa only [VR] using h

section
variable {P : Program} {tab : Tab} {nG : Nat} {G0 : Nat → Option Obj} {n n0 : Nat} {K : KM} {S : Stb} {tm : List AV} {hp : List (Option Blk)} {a : Act} {w : World}

theorem load_cells {t : TypeId} {ti : TI} (ht : TIok P t ti) {id off : Nat} {cs : List AV} {u : Value} {hp : Nat → Option Blk} (hr : HRel nG G0 K S hp w) (hu : VR K S w (.ref id off) u) (hb : hp id = some (.var cs))
    (hl : ((cs.drop off).take ti.size).length = ti.size) (hs : ((cs.drop off).take ti.size).all (fun y => match y with | .agg _ => false | .tup _ => false | _ => true) = true) :
    ∃ v, (do loadVar t (← asAddr u)).run P w = .ok v w ∧ VR K S w (loaded ti ((cs.drop off).take ti.size)) v := by
  obtain ⟨b, hK, rfl⟩ := VR_ref hu
  have hbl := hr.blk id (.var cs) (.var b) hb hK
  obtain ⟨arr, e, hheap, hsz, hv⟩ := hbl
  have hcell : ∀ j, j < ti.size → w.cell? (ad b (off + j)) = some (arr[off + j]?.getD undef) := by
    intro j hj
    have : off + j < arr.size := by
      rw [hsz]
      simp [List.length_take, List.length_drop] at hl
      omega
    simp [World.cell?, ad, hheap, this]
  refine ⟨_, ?_, VR_loaded ht (f := fun j => arr[off + j]?.getD undef) hl (fun j y hy => ?_) (fun y hy zs => ?_)⟩
  · simp [asAddr, run_loadVar' ht w b off _ hcell]
  · have hj : j < ti.size := hl ▸ (List.getElem?_eq_some_iff.1 hy).1
    rw [List.getElem?_take, if_pos hj, List.getElem?_drop] at hy
    have h2 : off + j < arr.size := by rw [hsz]; exact (List.getElem?_eq_some_iff.1 hy).1
    exact hv (off + j) y _ hy (by simp [h2])
  · have := List.all_eq_true.1 hs y hy
    cases y <;> simp_all

theorem resK_snd (hP : ProgOk P tab) (hr : RelF nG G0 n K S (tmF tm) (hpF hp) a w) : ∀ (rs : List ResultVar) (k : List AV → Prop), resK tab tm hp rs k →
    ∃ vs us, k vs ∧ (rs.mapM fun | .tmp t => pure (a.tmps.getD t undef) | .cell b t => do loadVar t (← asAddr (a.tmps.getD b undef)) : Sem (List Value)).run P w = .ok us w ∧ us.length = vs.length ∧
      ∀ (j : Nat) (y : AV) (u : Value), vs[j]? = some y → us[j]? = some u → VRa K S w y u
  | [], k, h => ⟨[], [], h, by simp, rfl, fun j y u hy => by simp at hy⟩
  | .tmp t :: r, k, h => by
    simp only [resK, forceK_eq, condF] at h
    obtain ⟨h1, h2⟩ := h
    obtain ⟨vs, us, h3, h4, h5, h6⟩ := resK_snd hP hr r _ h2
    refine ⟨_, a.tmps.getD t undef :: us, h3, by simp only [List.mapM_cons, Sem.run_bind, Sem.run_pure, Result.andThen_ok, h4], by simp [h5], fun j y u hy hu => ?_⟩
    cases j with
    | zero => cases hy; cases hu; exact (hr.tmp t).vra h1
    | succ j => exact h6 j y u (by simpa using hy) (by simpa using hu)
  | .cell b t :: r, k, h => by
    simp only [resK, forceL_eq, loadK_eq, condF] at h
    split at h
    · exact h.elim
    rename_i ti ht
    split at h
    · rename_i id off he
      split at h
      · rename_i cs hb
        obtain ⟨h0, h1, h2⟩ := h
        simp only [Bool.and_eq_true, beq_iff_eq] at h0
        obtain ⟨vs, us, h3, h4, h5, h6⟩ := resK_snd hP hr r _ h2
        obtain ⟨v, hv, hvr⟩ := load_cells (hP.tab t ti ht) hr.heap (he ▸ hr.tmp b) hb h0.1 (flatCs_eq h0.2)
        refine ⟨_, v :: us, h3, by rw [List.mapM_cons, Sem.run_bind, hv]; simp only [Sem.run_bind, Sem.run_pure, Result.andThen_ok, h4], by simp [h5], fun j y u hy hu => ?_⟩
        cases j with
        | zero => cases hy; cases hu; exact hvr.vra h1
        | succ j => exact h6 j y u (by simpa using hy) (by simpa using hu)
      · exact h.elim
    · exact h.elim

theorem resK_results (hP : ProgOk P tab) (hr : RelF nG G0 n K S (tmF tm) (hpF hp) a w) {fn : Func} {k : List AV → Prop} (h : resK tab tm hp fn.results.toList k) :
    ∃ vs u, k vs ∧ (results fn a.tmps).run P w = .ok u w ∧ VR K S w (retV vs) u := by
  obtain ⟨vs, us, h1, h2, h3, h4⟩ := resK_snd hP hr _ _ h
  have hrun : (results fn a.tmps).run P w = .ok (if h : us.toArray.size = 1 then us.toArray[0] else .tuple us.toArray) w := by
    unfold results
    rw [Array.mapM_eq_mapM_toList]
    simp only [map_eq_pure_bind, bind_assoc, pure_bind, Sem.run_bind, Sem.run_pure]
    exact congrArg (fun r => Result.andThen r fun (l : List Value) w' => Result.ok (if h : l.toArray.size = 1 then l.toArray[0] else Value.tuple l.toArray) w') h2
  refine ⟨vs, _, h1, hrun, ?_⟩
  match vs, us, h3, h4 with
  | [v], [u], _, h4 => simpa [retV] using (h4 0 v u rfl rfl).vr
  | [], [], _, h4 =>
    simp only [retV, VR]
    exact ⟨#[], by simp, rfl, fun j y v hy => by simp at hy⟩
  | v :: v' :: vs, u :: u' :: us, h3, h4 =>
    have : ¬ (u :: u' :: us).toArray.size = 1 := by simp
    rw [dif_neg this]
    simp only [retV, VR]
    exact ⟨_, rfl, by simpa using h3, fun j y v hy hv => h4 j y v hy (by simpa using hv)⟩
end

def baseB (n0 : Nat) (L : List Nat) : Bool := L.take n0 == List.range n0

theorem baseB_sound {n0 : Nat} {L : List Nat} (h : baseB n0 L = true) : (∀ i, i < n0 → L[i]? = some i) ∧ n0 ≤ L.length := by
  have h : L.take n0 = List.range n0 := by simpa [baseB] using h
  constructor
  · intro i hi
    have : (L.take n0)[i]? = some i := by rw [h]; simp [hi]
    simpa [List.getElem?_take, hi] using this
  · have := congrArg List.length h
    simp at this
    omega

def relT (keep : List Nat) (f : AV → AV) : List AV → Nat → List AV
  | [], _ => []
  | x :: r, i => (bif keep.elem i then f x else .dead) :: relT keep f r (i + 1)

theorem relT_len (keep : List Nat) (f : AV → AV) : ∀ (tm : List AV) (i : Nat), (relT keep f tm i).length = tm.length
  | [], _ => rfl
  | x :: r, i => by simp [relT, relT_len keep f r]

theorem relT_get (keep : List Nat) (f : AV → AV) : ∀ (tm : List AV) (i t : Nat), tmF (relT keep f tm i) t = .dead ∨ tmF (relT keep f tm i) t = f (tmF tm t)
  | [], i, t => .inl (by simp [relT, tmF])
  | x :: r, i, 0 => by
    simp only [relT, tmF, List.getD_cons_zero]
    cases keep.elem i
    · exact .inl rfl
    · exact .inr rfl
  | x :: r, i, t + 1 => by
    have := relT_get keep f r (i + 1) t
    simpa only [relT, tmF, List.getD_cons_succ] using this

def forceH : List (Option Blk) → (List (Option Blk) → Prop) → Prop
  | [], k => k []
  | x :: r, k => match x with
    | none => forceH r fun r' => k (none :: r')
    | some b => forceB b fun b' => forceH r fun r' => k (some b' :: r')

theorem forceH_eq : ∀ (l : List (Option Blk)) (k : List (Option Blk) → Prop), forceH l k = k l
  | [], _ => rfl
  | none :: r, k => by simp only [forceH, forceH_eq r]
  | some b :: r, k => by simp only [forceH, forceB_eq, forceH_eq r]

def tokK : List Nat → List AV → List (Option Blk) → (List AV → List (Option Blk) → Prop) → Prop
  | [], tm, hp, k => k tm hp
  | t :: r, tm, hp, k =>
    match tmF tm t with
    | .sl sz nil tok xs =>
      match tok with
      | some _ => tokK r tm hp k
      | none => match nil, xs with
        | true, [] => setK tm t (.sl sz true (some hp.length) []) fun tm' => hputK hp hp.length (.grow sz 0) fun hp' => tokK r tm' hp' k
        | _, _ => tokK r tm hp k
    | _ => tokK r tm hp k

def relK (n0 : Nat) (keep : List Nat) (tm : List AV) (hp : List (Option Blk)) (k : List AV → List (Option Blk) → Prop) : Prop :=
  let L := reach hp 3 (addAll (List.range n0) ((keep.map (tmF tm)).flatMap idsV))
  bif nodupB L && baseB n0 L then
    forceL (relT keep (outV (hpF hp) (pos L)) tm 0) fun tm' => forceH (L.map fun id => (hpF hp id).map (outB (hpF hp) (pos L))) fun hp' => k tm' hp'
  else False

def relayK (n0 : Nat) (keep tok : List Nat) (tm : List AV) (hp : List (Option Blk)) (k : List AV → List (Option Blk) → Prop) : Prop :=
  tokK tok tm hp fun tm hp => relK n0 keep tm hp k

def frzable (hp : List (Option Blk)) (id : Nat) : Bool :=
  match hpF hp id with
  | some (.arr _ _) => true
  | some (.mp _) => true
  | some (.iter _ _) => true
  | _ => false

/-- Blocks come to be seen by what they hold, from here on. -/
def frzK (n0 : Nat) (ids : List Nat) (tm : List AV) (hp : List (Option Blk)) (k : List AV → List (Option Blk) → Prop) : Prop :=
  match ids with
  | [] => k tm hp
  | ids =>
    let L := (List.range hp.length).filter fun id => !(ids.elem id && frzable hp id)
    bif nodupB L && baseB n0 L then
      forceL (tm.map (outV (hpF hp) (pos L))) fun tm' => forceH (L.map fun id => (hpF hp id).map (outB (hpF hp) (pos L))) fun hp' => k tm' hp'
    else False

section
variable {P : Program} {tab : Tab} {nG : Nat} {G0 : Nat → Option Obj} {n n0 : Nat}

theorem frzK_snd {ids : List Nat} {tm : List AV} {hp : List (Option Blk)} {k : List AV → List (Option Blk) → Prop} (h : frzK n0 ids tm hp k) {K : KM} {S : Stb} {a : Act} {w : World}
    (hn : n0 ≤ hp.length) (hr : RelF nG G0 tm.length K S (tmF tm) (hpF hp) a w) : ∃ tm' hp' K' S', k tm' hp' ∧ RelF nG G0 tm'.length K' S' (tmF tm') (hpF hp') a w ∧ Ext n0 K S w K' S' w ∧ n0 ≤ hp'.length := by
  unfold frzK at h
  split at h
  · exact ⟨tm, hp, K, S, h, hr, Ext.refl _ _ _ _, hn⟩
  · simp only [condF, forceL_eq, forceH_eq, Bool.and_eq_true] at h
    generalize (List.range hp.length).filter (fun id => !(ids.elem id && frzable hp id)) = L at h
    obtain ⟨⟨h1, h2⟩, h3⟩ := h
    have hb := baseB_sound h2
    obtain ⟨g1, g2⟩ := hr.heap.out (n0 := n0) (nodupB_sound h1) hb.1
    refine ⟨_, _, _, _, h3, ⟨hr.defers, by rw [List.length_map]; exact hr.size, fun t => ?_, g1⟩, g2, by simpa using hb.2⟩
    have ht := (hr.tmp t).out (L := L) hr.heap
    have e : tmF (tm.map (outV (hpF hp) (pos L))) t = outV (hpF hp) (pos L) (tmF tm t) := by
      simp only [tmF, List.getD_eq_getElem?_getD, List.getElem?_map]
      cases tm[t]? <;> rfl
    rw [e]; exact ht

theorem tokK_snd : ∀ (ts : List Nat) (tm : List AV) (hp : List (Option Blk)) (k : List AV → List (Option Blk) → Prop), tokK ts tm hp k → ∀ (K : KM) (S : Stb) (a : Act) (w : World),
    n0 ≤ hp.length → RelF nG G0 tm.length K S (tmF tm) (hpF hp) a w → ∃ tm' hp' K', k tm' hp' ∧ RelF nG G0 tm'.length K' S (tmF tm') (hpF hp') a w ∧ Ext n0 K S w K' S w ∧ n0 ≤ hp'.length
  | [], tm, hp, k, h, K, S, a, w, hn, hr => ⟨tm, hp, K, h, hr, Ext.refl _ _ _ _, hn⟩
  | t :: r, tm, hp, k, h, K, S, a, w, hn, hr => by
    unfold tokK at h
    split at h
    · rename_i sz nil tok xs ht
      split at h
      · exact tokK_snd r tm hp k h K S a w hn hr
      · split at h
        · simp only [setK_eq, hputK_eq] at h
          have hfresh : hpF hp hp.length = none := by simp [hpF]
          have hKn : K hp.length = none := hr.heap.dom_none hfresh
          have hkl : KLe K (updK K hp.length (.grow none sz 0)) := KLe.new hKn
          have hrel : HRel nG G0 (updK K hp.length (.grow none sz 0)) S (hpF (hput hp hp.length (.grow sz 0))) w := by
            refine ⟨fun id => ?_, fun id bl ki hb hk => ?_, fun id id' ki ki' b hi hj hbi hbj => ?_, hr.heap.lt, fun b off id ki hs hk hbk => ?_, fun id ki b hk hbk => ?_, hr.heap.fix, hr.heap.nG⟩
            · rw [hput_get]; simp only [updK]; split
              · rfl
              · exact hr.heap.dom id
            · rw [hput_get] at hb
              simp only [updK] at hk
              split at hb
              · rename_i e
                rw [if_pos e] at hk
                cases hb; cases hk
                exact ⟨rfl, rfl, rfl⟩
              · rename_i e
                rw [if_neg e] at hk
                exact (hr.heap.blk id bl ki hb hk).mono hkl (Kept.refl S w) fun b _ => rfl
            · simp only [updK] at hi hj
              split at hi
              · cases hi; simp [KI.blk] at hbi
              · split at hj
                · cases hj; simp [KI.blk] at hbj
                · exact hr.heap.inj id id' ki ki' b hi hj hbi hbj
            · simp only [updK] at hk
              split at hk
              · cases hk; simp [KI.blk] at hbk
              · exact hr.heap.apart b off id ki hs hk hbk
            · simp only [updK] at hk
              split at hk
              · cases hk; simp [KI.blk] at hbk
              · exact hr.heap.glob id ki b hk hbk
          have hext : Ext n0 K S w (updK K hp.length (.grow none sz 0)) S w := by
            refine ⟨rfl, rfl, rfl, Nat.le_refl _, fun _ _ _ => rfl, fun id ki b hk hb => ?_, Kept.refl S w, fun _ _ h => .inl h, fun id ki _ hk => hkl id ki hk⟩
            simp only [updK] at hk
            split at hk
            · cases hk; simp [KI.blk] at hb
            · exact .inl ⟨id, ki, hk, hb⟩
          have hf : RelF nG G0 (tm.set t (.sl sz true (some hp.length) [])).length (updK K hp.length (.grow none sz 0)) S (tmF (tm.set t (.sl sz true (some hp.length) []))) (hpF (hput hp hp.length (.grow sz 0))) a w := by
            refine ⟨hr.defers, by simp [hr.size], fun s => ?_, hrel⟩
            have hs := (hr.tmp s).mono hkl (Kept.refl S w)
            simp only [tmF, List.getD_eq_getElem?_getD, List.getElem?_set] at hs ⊢
            split
            · rename_i e
              subst e
              split
              · have := hr.tmp t
                rw [ht] at this
                have hp := VR_sl this
                simp only [Option.getD_some, VR, VRa, VRc, VR0]
                refine ⟨hp, none, 0, by simp [updK], Nat.le_refl _, fun _ => ?_⟩
                generalize a.tmps.getD t undef = u at hp
                cases hp; trivial
              · exact VR_dead _ _ _ _
            · exact hs
          obtain ⟨tm', hp', K', h1, h2, h3, h4⟩ := tokK_snd r _ _ k h _ S a w (Nat.le_trans hn (hput_len _ _ _)) hf
          exact ⟨tm', hp', K', h1, h2, hext.trans h3, h4⟩
        · exact tokK_snd r tm hp k h K S a w hn hr
    · exact tokK_snd r tm hp k h K S a w hn hr

theorem relK_snd {keep : List Nat} {tm : List AV} {hp : List (Option Blk)} {k : List AV → List (Option Blk) → Prop} (h : relK n0 keep tm hp k) {K : KM} {S : Stb} {a : Act} {w : World}
    (hr : RelF nG G0 tm.length K S (tmF tm) (hpF hp) a w) : ∃ tm' hp' K' S', k tm' hp' ∧ RelF nG G0 tm'.length K' S' (tmF tm') (hpF hp') a w ∧ Ext n0 K S w K' S' w ∧ n0 ≤ hp'.length := by
  unfold relK at h
  simp only [condF, forceL_eq, forceH_eq, Bool.and_eq_true] at h
  generalize reach hp 3 (addAll (List.range n0) ((keep.map (tmF tm)).flatMap idsV)) = L at h
  obtain ⟨⟨h1, h2⟩, h3⟩ := h
  have hb := baseB_sound h2
  obtain ⟨g1, g2⟩ := hr.heap.out (n0 := n0) (nodupB_sound h1) hb.1
  refine ⟨_, _, _, _, h3, ⟨hr.defers, by rw [relT_len]; exact hr.size, fun t => ?_, g1⟩, g2, by simpa using hb.2⟩
  rcases relT_get keep (outV (hpF hp) (pos L)) tm 0 t with e | e
  · rw [e]; exact VR_dead _ _ _ _
  · rw [e]; exact (hr.tmp t).out hr.heap

theorem relayK_snd {keep tok : List Nat} {tm : List AV} {hp : List (Option Blk)} {k : List AV → List (Option Blk) → Prop} (h : relayK n0 keep tok tm hp k) {K : KM} {S : Stb} {a : Act} {w : World}
    (hn : n0 ≤ hp.length) (hr : RelF nG G0 tm.length K S (tmF tm) (hpF hp) a w) : ∃ tm' hp' K' S', k tm' hp' ∧ RelF nG G0 tm'.length K' S' (tmF tm') (hpF hp') a w ∧ Ext n0 K S w K' S' w ∧ n0 ≤ hp'.length := by
  obtain ⟨tm1, hp1, K1, h1, h2, h3, h4⟩ := tokK_snd tok tm hp _ h K S a w hn hr
  obtain ⟨tm2, hp2, K2, S2, g1, g2, g3, g4⟩ := relK_snd h1 h2
  exact ⟨tm2, hp2, K2, S2, g1, g2, h3.trans g3, g4⟩
end
end Go.Ab

namespace Go.Ab

section
variable {X V : Type}

def fld (D : Nat → Bool) : List (X → Option V) → Nat → (X → V) → X → V
  | [], _, f => f
  | g :: r, i, f => fld D r (i + 1) (if D i = true then fun x => (g x).getD (f x) else f)

theorem fld_congr {D D' : Nat → Bool} {x : X} : ∀ (T : List (X → Option V)) (i : Nat) (f f' : X → V), f x = f' x → (∀ (j : Nat) (g : X → Option V), T[j]? = some g → (g x).isSome = true → D (i + j) = D' (i + j)) → fld D T i f x = fld D' T i f' x
  | [], _, _, _, h, _ => h
  | g :: r, i, f, f', h, hd => by
    simp only [fld]
    refine fld_congr r (i + 1) _ _ ?_ (fun j g' hj hs => by
      have := hd (j + 1) g' (by simpa using hj) hs
      rwa [show i + 1 + j = i + (j + 1) from by omega])
    cases hg : (g x).isSome with
    | true =>
      have := hd 0 g rfl hg
      simp only [Nat.add_zero] at this
      rw [this]
      split
      · obtain ⟨v, hv⟩ := Option.isSome_iff_exists.1 hg
        simp [hv]
      · exact h
    | false =>
      have hn : g x = none := by simpa using hg
      split <;> split <;> simp [hn, h]

theorem fld_base {D : Nat → Bool} {x : X} (T : List (X → Option V)) (i : Nat) (f : X → V) (h : ∀ (j : Nat) (g : X → Option V), T[j]? = some g → D (i + j) = true → g x = none) : fld D T i f x = f x := by
  have := fld_congr (D := D) (D' := fun _ => false) T i f f (x := x) rfl fun j g hj hs => by
    cases hd : D (i + j) with
    | false => rfl
    | true => rw [h j g hj hd] at hs; cases hs
  rw [this]
  clear this h
  induction T generalizing i with
  | nil => rfl
  | cons g r ih => simp only [fld]; exact ih (i + 1)

theorem fld_last {D : Nat → Bool} {x : X} {v : V} : ∀ (T : List (X → Option V)) (i j : Nat) (f : X → V) (g : X → Option V), T[j]? = some g → g x = some v → D (i + j) = true →
    (∀ (k : Nat) (g' : X → Option V), j < k → T[k]? = some g' → D (i + k) = true → g' x = none) → fld D T i f x = v
  | [], _, _, _, _, h, _, _, _ => by simp at h
  | g0 :: r, i, 0, f, g, h, hv, hd, hl => by
    simp at h
    subst h
    simp only [fld, Nat.add_zero] at hd ⊢
    rw [if_pos hd, fld_base]
    · simp [hv]
    · intro k g' hk hdk
      exact hl (k + 1) g' (by omega) (by simpa using hk) (by rwa [show i + (k + 1) = i + 1 + k from by omega])
  | g0 :: r, i, j + 1, f, g, h, hv, hd, hl => by
    simp only [fld]
    refine fld_last r (i + 1) j _ g (by simpa using h) hv (by rwa [show i + 1 + j = i + (j + 1) from by omega]) fun k g' hk hg hdk => ?_
    exact hl (k + 1) g' (by omega) (by simpa using hg) (by rwa [show i + (k + 1) = i + 1 + k from by omega])
end

/-- What an operation touched. -/
structure Foot where
  dst : Option Nat
  ops : List Nat
  ws : List Nat
  rd : List Nat

def apart (a b : Foot) : Bool :=
  (match a.dst with
   | none => true
   | some d => !b.ops.elem d && (match b.dst with | some e => !(d == e) | none => true)) &&
  (match b.dst with
   | none => true
   | some e => !a.ops.elem e) &&
  (a.ws.all fun i => !b.rd.elem i && !b.ws.elem i) && (b.ws.all fun i => !a.rd.elem i)

def befAt (B : List Nat) : List Nat → Nat
  | [] => 0
  | on :: r => (2 ^ on ||| B.getD on 0) ||| befAt B r

theorem befAt_ex {B : List Nat} {j : Nat} : ∀ {es : List Nat}, (befAt B es).testBit j = true → ∃ on ∈ es, j = on ∨ (B.getD on 0).testBit j = true
  | [], h => by simp [befAt] at h
  | on :: r, h => by
    simp only [befAt, Nat.testBit_or, Bool.or_eq_true] at h
    rcases h with (h | h) | h
    · rw [Nat.testBit_two_pow] at h
      exact ⟨on, by simp, .inl (by simpa using h : on = j).symm⟩
    · exact ⟨on, by simp, .inr h⟩
    · obtain ⟨on', h1, h2⟩ := befAt_ex h
      exact ⟨on', by simp [h1], h2⟩

def befs : List (List Nat) → List Nat → List Nat
  | [], B => B
  | es :: r, B => befs r (B ++ [befAt B es])

def edgesOf (o : Oper) : List Nat := (o.after.toList.filter (Region.binds .any)).map (·.on)

def rowOk (B : List Nat) (T : List Foot) (i : Nat) (es : List Nat) (a : Foot) : Bool :=
  es.all (fun on => Nat.blt on i) && (B.getD i 0 == befAt B es) && go (B.getD i 0) a T i 0
  where
  /-- The ones before it, in the text, that it isn't behind of are apart. -/
  go (m : Nat) (a : Foot) : List Foot → Nat → Nat → Bool
  | [], _, _ => true
  | _ :: _, 0, _ => true
  | b :: r, n + 1, j => (m.testBit j || apart a b && apart b a) && a.ws.all (fun id => a.rd.elem id || !b.ws.elem id) && go m a r n (j + 1)

theorem go_sound {m : Nat} {a : Foot} : ∀ (T : List Foot) (n j : Nat), rowOk.go m a T n j = true → ∀ (k : Nat) (b : Foot), k < n → T[k]? = some b →
    (m.testBit (j + k) = true ∨ (apart a b = true ∧ apart b a = true)) ∧ (a.ws.all fun id => a.rd.elem id || !b.ws.elem id) = true
  | [], _, _, _, _, _, _, h => by simp at h
  | _ :: _, 0, _, _, _, _, h, _ => by omega
  | b0 :: r, n + 1, j, h, 0, b, _, hb => by
    simp only [rowOk.go, Bool.and_eq_true, Bool.or_eq_true] at h
    simp at hb; subst hb
    exact ⟨by simpa using h.1.1, h.1.2⟩
  | b0 :: r, n + 1, j, h, k + 1, b, hk, hb => by
    simp only [rowOk.go, Bool.and_eq_true, Bool.or_eq_true] at h
    have := go_sound r n (j + 1) h.2 k b (by omega) (by simpa using hb)
    rwa [show j + 1 + k = j + (k + 1) from by omega] at this

def rowsOk (B : List Nat) (T : List Foot) : List (List Nat) → List Foot → Nat → Bool
  | es :: r, a :: s, i => rowOk B T i es a && rowsOk B T r s (i + 1)
  | [], [], _ => true
  | _, _, _ => false

theorem rowsOk_get {B : List Nat} {T : List Foot} : ∀ {E : List (List Nat)} {A : List Foot} {i0 : Nat}, rowsOk B T E A i0 = true → E.length = A.length ∧ ∀ (i : Nat) (es : List Nat) (a : Foot), E[i]? = some es → A[i]? = some a → rowOk B T (i0 + i) es a = true
  | [], [], _, _ => ⟨rfl, fun i es a h => by simp at h⟩
  | es0 :: r, a0 :: s, i0, h => by
    simp only [rowsOk, Bool.and_eq_true] at h
    obtain ⟨h1, h2⟩ := rowsOk_get h.2
    refine ⟨by simp [h1], fun i es a he ha => ?_⟩
    cases i with
    | zero => simp at he ha; subst he; subst ha; exact h.1
    | succ i =>
      have := h2 i es a (by simpa using he) (by simpa using ha)
      rwa [show i0 + 1 + i = i0 + (i + 1) from by omega] at this
  | [], _ :: _, _, h => by simp [rowsOk] at h
  | _ :: _, [], _, h => by simp [rowsOk] at h

def drawOk (ops : List Oper) (T : List Foot) : Bool :=
  let E := ops.map edgesOf
  rowsOk (befs E []) T E T 0

/-- An order that keeps to the edges. -/
def Topo (E : List (List Nat)) : (Nat → Bool) → List Nat → Prop
  | D, [] => ∀ i, i < E.length → D i = true
  | D, i :: l => i < E.length ∧ D i = false ∧ (∀ es, E[i]? = some es → ∀ on ∈ es, D on = true) ∧ Topo E (fun j => D j || j == i) l

theorem filter_lt {p p' : Nat → Bool} (h : ∀ x, p' x = true → p x = true) {i : Nat} (hp : p i = true) (hp' : p' i = false) : ∀ {l : List Nat}, i ∈ l → (l.filter p').length < (l.filter p).length
  | x :: r, hm => by
    have key : (r.filter p').length ≤ (r.filter p).length := by
      clear hm
      induction r with
      | nil => exact Nat.le_refl _
      | cons y s ih =>
        simp only [List.filter_cons]
        cases h1 : p' y with
        | true => rw [h y h1]; simpa using ih
        | false => cases p y <;> simp <;> omega
    by_cases hx : x = i
    · subst hx
      simp only [List.filter_cons, hp, hp', if_true]
      simp
      omega
    · have hm' : i ∈ r := by simpa [Ne.symm hx] using hm
      have := filter_lt h hp hp' hm'
      simp only [List.filter_cons]
      cases h1 : p' x with
      | true => rw [h x h1]; simpa using this
      | false => cases p x <;> simp <;> omega

theorem topo_go {ops : Array Oper} (hE : ∀ (i : Nat) (o : Oper), ops[i]? = some o → ∀ on ∈ edgesOf o, on < i) : ∀ (fuel t : Nat) (listed : Array Bool) (acc : List Nat), listed.size = ops.size →
    ((List.range ops.size).filter fun i => !listed.getD i true).length ≤ fuel →
    ∃ l, Region.linearise.go .any ops fuel t listed acc = acc.reverse ++ l ∧ Topo (ops.toList.map edgesOf) (fun i => listed.getD i false) l := by
  have hgd : ∀ (listed : Array Bool) (i : Nat), listed.size = ops.size → i < ops.size → listed.getD i true = listed.getD i false := by
    intro listed i hs hi
    have : i < listed.size := by omega
    simp [Array.getD_eq_getD_getElem?, this]
  intro fuel
  induction fuel with
  | zero =>
    intro t listed acc hs hf
    refine ⟨[], by simp [Region.linearise.go], fun i hi => ?_⟩
    have hi : i < ops.size := by simpa using hi
    have h0 := List.eq_nil_of_length_eq_zero (Nat.le_zero.1 hf)
    have := List.filter_eq_nil_iff.1 h0 i (by simpa using hi)
    show listed.getD i false = true
    rw [← hgd listed i hs hi]
    simpa using this
  | succ fuel ih =>
    intro t listed acc hs hf
    simp only [Region.linearise.go]
    generalize hrs : ((List.range ops.size).filter fun i => !listed.getD i true && ((ops[i]?).map (·.after.all fun e => !Region.binds .any e || listed.getD e.on false)).getD false) = rs
    have hmem : ∀ i, i ∈ rs ↔ i < ops.size ∧ listed.getD i true = false ∧ ∀ o, ops[i]? = some o → ∀ on ∈ edgesOf o, listed.getD on false = true := by
      intro i
      rw [← hrs]
      simp only [List.mem_filter, List.mem_range, Bool.and_eq_true, Bool.not_eq_true']
      constructor
      · rintro ⟨h1, h2, h3⟩
        refine ⟨h1, h2, fun o ho on hon => ?_⟩
        rw [ho] at h3
        simp only [Option.map_some, Option.getD_some, Array.all_eq_true'] at h3
        simp only [edgesOf, List.mem_map, List.mem_filter] at hon
        obtain ⟨e, ⟨he, hb⟩, rfl⟩ := hon
        have := h3 e (by simpa using he)
        simpa [hb] using this
      · rintro ⟨h1, h2, h3⟩
        refine ⟨h1, h2, ?_⟩
        obtain ⟨o, ho⟩ : ∃ o, ops[i]? = some o := ⟨_, Array.getElem?_eq_getElem h1⟩
        rw [ho]
        simp only [Option.map_some, Option.getD_some, Array.all_eq_true']
        intro e he
        cases hb : Region.binds .any e with
        | false => simp
        | true =>
          have := h3 o ho e.on (by simp only [edgesOf, List.mem_map, List.mem_filter]; exact ⟨e, ⟨by simpa using he, hb⟩, rfl⟩)
          simp [this]
    cases hget : rs[t % rs.length]? with
    | none =>
      -- nothing stands ready: all are listed
      have hnil : rs = [] := by
        cases rs with
        | nil => rfl
        | cons x r =>
          have h1 := List.getElem?_eq_none_iff.1 hget
          have h2 := Nat.mod_lt t (show 0 < (x :: r).length by simp)
          omega
      refine ⟨[], by simp, fun i hi => ?_⟩
      have hi : i < ops.size := by simpa using hi
      have key : ∀ i, i < ops.size → listed.getD i true = true := by
        intro i
        induction i using Nat.strongRecOn with
        | _ i ihi =>
          intro hi
          cases hc : listed.getD i true with
          | true => rfl
          | false =>
            exfalso
            have : i ∈ rs := (hmem i).2 ⟨hi, hc, fun o ho on hon => by
              have hlt := hE i o ho on hon
              rw [← hgd listed on hs (by omega)]
              exact ihi on hlt (by omega)⟩
            rw [hnil] at this
            cases this
      show listed.getD i false = true
      rw [← hgd listed i hs hi]
      exact key i hi
    | some i =>
      have him := (hmem i).1 (List.mem_of_getElem? hget)
      have hi := him.1
      have hset : ∀ (j : Nat) (d : Bool), (listed.setIfInBounds i true).getD j d = (listed.getD j d || j == i) := by
        intro j d
        simp only [Array.getD_eq_getD_getElem?, Array.getElem?_setIfInBounds]
        by_cases hj : i = j
        · subst hj
          have : i < listed.size := by omega
          simp [this]
        · have hj' : (j == i) = false := by simp; exact fun e => hj e.symm
          simp [hj, hj']
      obtain ⟨l, h1, h2⟩ := ih (t / rs.length) (listed.setIfInBounds i true) (i :: acc) (by simpa using hs) (by
        have := filter_lt (p := fun j => !listed.getD j true) (p' := fun j => !(listed.setIfInBounds i true).getD j true) (i := i) (fun j hj => by rw [hset] at hj; simp at hj; simp [hj.1])
          (by simpa using him.2.1) (by simp only [hset]; simp) (l := List.range ops.size) (by simpa using hi)
        omega)
      refine ⟨i :: l, by simp [h1], by simpa using hi, ?_, fun es he on hon => ?_, ?_⟩
      · show listed.getD i false = false
        rw [← hgd listed i hs hi]; exact him.2.1
      · simp only [List.getElem?_map, Option.map_eq_some_iff] at he
        obtain ⟨o, ho, rfl⟩ := he
        exact him.2.2 o (by simpa using ho) on hon
      · have : (fun j => (listed.setIfInBounds i true).getD j false) = fun j => listed.getD j false || j == i := funext fun j => hset j false
        rw [this] at h2
        exact h2

theorem topo_linearise {ops : Array Oper} (hE : ∀ (i : Nat) (o : Oper), ops[i]? = some o → ∀ on ∈ edgesOf o, on < i) (t : Nat) : Topo (ops.toList.map edgesOf) (fun _ => false) (Region.linearise .any ops t) := by
  obtain ⟨l, h1, h2⟩ := topo_go hE ops.size t (Array.replicate ops.size false) [] (by simp) (by
    have := List.length_filter_le (fun i => !(Array.replicate ops.size false).getD i true) (List.range ops.size)
    simpa using this)
  unfold Region.linearise
  rw [h1]
  have : (fun i => (Array.replicate ops.size false).getD i false) = fun _ => false := by
    funext i
    simp only [Array.getD_eq_getD_getElem?, Array.getElem?_replicate]
    split <;> rfl
  rw [this] at h2
  simpa using h2
end Go.Ab

namespace Go.Ab

def opSlots (o : Oper) : List Nat := o.op.operands.toList.filterMap fun | .tmp t => some t | _ => none

def slots (all : List Oper) (o : Oper) : List Nat :=
  opSlots o ++ (match o.guard with
    | some (j, _) => (match (all[j]?).bind (·.dst) with | some d => [d] | none => [])
    | none => [])

def dstOk (n : Nat) (d : Option Nat) : Bool :=
  match d with
  | some d => Nat.blt d n
  | none => true

section
variable (P : Program) (tab : Tab) (nG : Nat) (G0 : Nat → Option Obj)

def stepK (all : List Oper) (o : Oper) (ann : Option Ann) (tm : List AV) (hp : List (Option Blk)) (k : List AV → List (Option Blk) → Foot → Prop) : Prop :=
  opK P tab nG G0 tm hp o ann fun v ws rd => bif dstOk tm.length o.dst then putK tm o.dst v fun tm' => writeK ws hp fun hp' => k tm' hp' ⟨o.dst, slots all o, ws.map (·.1), rd⟩ else False

def skipK (all : List Oper) (o : Oper) (tm : List AV) (hp : List (Option Blk)) (k : List AV → List (Option Blk) → Foot → Prop) : Prop :=
  bif dstOk tm.length o.dst then putK tm o.dst (.tup []) fun tm' => k tm' hp ⟨o.dst, slots all o, [], []⟩ else False

def trK (an : FAnn) (rid : Nat) (all : List Oper) : List Oper → Nat → List AV → List (Option Blk) → (List AV → List (Option Blk) → List Foot → Prop) → Prop
  | [], _, tm, hp, k => k tm hp []
  | o :: r, i, tm, hp, k =>
    match o.guard with
    | none => stepK P tab nG G0 all o (an.call rid i) tm hp fun tm' hp' f => trK an rid all r (i + 1) tm' hp' fun tm hp T => k tm hp (f :: T)
    | some (j, b) =>
      match (all[j]?).bind (·.dst) with
      | none => False
      | some d =>
        match tmF tm d with
        | .bool c =>
          ifK c
            (setK tm d (.bool true) fun tm1 =>
              match b with
              | true => stepK P tab nG G0 all o (an.call rid i) tm1 hp fun tm' hp' f => trK an rid all r (i + 1) tm' hp' fun tm hp T => k tm hp (f :: T)
              | false => skipK all o tm1 hp fun tm' hp' f => trK an rid all r (i + 1) tm' hp' fun tm hp T => k tm hp (f :: T))
            (setK tm d (.bool false) fun tm1 =>
              match b with
              | false => stepK P tab nG G0 all o (an.call rid i) tm1 hp fun tm' hp' f => trK an rid all r (i + 1) tm' hp' fun tm hp T => k tm hp (f :: T)
              | true => skipK all o tm1 hp fun tm' hp' f => trK an rid all r (i + 1) tm' hp' fun tm hp T => k tm hp (f :: T))
        | .tup [] => skipK all o tm hp fun tm' hp' f => trK an rid all r (i + 1) tm' hp' fun tm hp T => k tm hp (f :: T)
        | _ => False
end

structure TStep where
  foot : Foot
  val : AV
  ws : List (Nat × Blk)
  exec : Bool
  tm : List AV
  hp : List (Option Blk)

def guardIs (all : List Oper) (o : Oper) (tm : Nat → AV) (want : Bool) : Prop :=
  match o.guard with
  | none => want = true
  | some (j, b) => ∃ d, (all[j]?).bind (·.dst) = some d ∧ ((∃ c, tm d = .bool c ∧ (c == b) = want) ∨ (tm d = .tup [] ∧ want = false))

structure TFact (P : Program) (nG : Nat) (G0 : Nat → Option Obj) (all : List Oper) (n h0 : Nat) (o : Oper) (s : TStep) : Prop where
  dst : s.foot.dst = o.dst
  ops : s.foot.ops = slots all o
  ws : s.foot.ws = s.ws.map (·.1)
  guard : guardIs all o (tmF s.tm) s.exec
  snd : s.exec = true → Snd P nG G0 o s.tm s.hp s.val s.ws s.foot.rd
  skip : s.exec = false → s.val = .tup [] ∧ s.ws = []
  fresh : ∀ p ∈ s.ws, p.1 ∈ s.foot.rd ∨ s.hp.length ≤ p.1
  small : dstOk n o.dst = true
  hlen : h0 ≤ s.hp.length

def gT (s : TStep) : Nat → Option AV := fun t => if s.foot.dst = some t then some s.val else none
def gH (s : TStep) : Nat → Option (Option Blk) := fun id => if id ∈ s.foot.ws then some (updH (fun _ => none) s.ws id) else none

theorem updH_eq : ∀ (ws : List (Nat × Blk)) (f : Nat → Option Blk) (id : Nat), updH f ws id = if id ∈ ws.map (·.1) then updH (fun _ => none) ws id else f id
  | [], _, _ => by simp [updH]
  | (i, b) :: r, f, id => by
    simp only [updH, List.map_cons, List.mem_cons]
    rw [updH_eq r, updH_eq r (fun i_1 => if i_1 = i then some b else none)]
    by_cases h1 : id ∈ r.map (·.1)
    · simp [h1]
    · by_cases h2 : id = i
      · simp [h2]
      · simp [h1, h2]

section
variable {P : Program} {tab : Tab} {nG : Nat} {G0 : Nat → Option Obj} {all : List Oper}

/-- The trace of a region, in the text's order. -/
inductive Tr (P : Program) (nG : Nat) (G0 : Nat → Option Obj) (all : List Oper) (n h0 : Nat) : List Oper → (Nat → AV) → (Nat → Option Blk) → List TStep → List AV → List (Option Blk) → Prop
  | nil (tm : List AV) (hp : List (Option Blk)) : Tr P nG G0 all n h0 [] (tmF tm) (hpF hp) [] tm hp
  | cons {o : Oper} {r : List Oper} {s : TStep} {ss : List TStep} {tm0 : Nat → AV} {hp0 : Nat → Option Blk} {tm' : List AV} {hp' : List (Option Blk)} (ht : tmF s.tm = tm0) (hh : hpF s.hp = hp0) (hf : TFact P nG G0 all n h0 o s)
      (h : Tr P nG G0 all n h0 r (upd n tm0 o.dst s.val) (updH hp0 s.ws) ss tm' hp') : Tr P nG G0 all n h0 (o :: r) tm0 hp0 (s :: ss) tm' hp'

theorem gT_upd {n : Nat} {o : Oper} {s : TStep} {h0 : Nat} (hf : TFact P nG G0 all n h0 o s) (f : Nat → AV) : (fun x => (gT s x).getD (f x)) = upd n f o.dst s.val := by
  funext x
  simp only [gT, hf.dst]
  have hs := hf.small
  cases hd : o.dst with
  | none => simp [upd]
  | some d =>
    rw [hd] at hs
    have hs : d < n := by simpa [dstOk] using hs
    simp only [upd, Option.some.injEq]
    by_cases h : d = x
    · subst h; simp [hs]
    · have : ¬ x = d := fun e => h e.symm
      simp [h, this]

theorem gH_upd {n : Nat} {o : Oper} {s : TStep} {h0 : Nat} (hf : TFact P nG G0 all n h0 o s) (f : Nat → Option Blk) : (fun x => (gH s x).getD (f x)) = updH f s.ws := by
  funext x
  rw [updH_eq]
  simp only [gH, hf.ws]
  split <;> simp

theorem fld_lt_base {X V : Type} (T : List (X → Option V)) (i : Nat) (f : X → V) : fld (fun j => decide (j < i + 0)) T i f = f := by
  funext x
  exact fld_base T i f fun j g _ hd => by simp at hd; omega

theorem Tr.get {n h0 : Nat} {l : List Oper} {tm0 : Nat → AV} {hp0 : Nat → Option Blk} {ss : List TStep} {tm' : List AV} {hp' : List (Option Blk)} (h : Tr P nG G0 all n h0 l tm0 hp0 ss tm' hp') :
    l.length = ss.length ∧ ∀ (i0 : Nat), (∀ (i : Nat) (o : Oper) (s : TStep), l[i]? = some o → ss[i]? = some s → TFact P nG G0 all n h0 o s ∧ tmF s.tm = fld (fun j => decide (j < i0 + i)) (ss.map gT) i0 tm0 ∧ hpF s.hp = fld (fun j => decide (j < i0 + i)) (ss.map gH) i0 hp0) ∧
      tmF tm' = fld (fun _ => true) (ss.map gT) i0 tm0 ∧ hpF hp' = fld (fun _ => true) (ss.map gH) i0 hp0 := by
  induction h with
  | nil tm hp => exact ⟨rfl, fun i0 => ⟨fun i o s h => by simp at h, rfl, rfl⟩⟩
  | @cons o r s ss tm0 hp0 tm' hp' ht hh hf h ih =>
    refine ⟨by simp [ih.1], fun i0 => ⟨fun i o' s' ho hs => ?_, ?_, ?_⟩⟩
    · cases i with
      | zero =>
        simp at ho hs
        subst ho; subst hs
        exact ⟨hf, by rw [fld_lt_base]; exact ht, by rw [fld_lt_base]; exact hh⟩
      | succ i =>
        obtain ⟨g1, g2, g3⟩ := (ih.2 (i0 + 1)).1 i o' s' (by simpa using ho) (by simpa using hs)
        have hD : (fun j => decide (j < i0 + (i + 1))) = fun j => decide (j < i0 + 1 + i) := by funext j; congr 1; simp only [eq_iff_iff]; omega
        refine ⟨g1, ?_, ?_⟩
        · rw [g2, List.map_cons, fld, hD, if_pos (by simp), gT_upd hf]
        · rw [g3, List.map_cons, fld, hD, if_pos (by simp), gH_upd hf]
    · rw [(ih.2 (i0 + 1)).2.1, List.map_cons, fld, if_pos rfl, gT_upd hf]
    · rw [(ih.2 (i0 + 1)).2.2, List.map_cons, fld, if_pos rfl, gH_upd hf]

theorem trK_snd (hP : ProgOk P tab) {an : FAnn} {rid : Nat} {n h0 : Nat} : ∀ (r : List Oper) (i : Nat) (tm : List AV) (hp : List (Option Blk)) (k : List AV → List (Option Blk) → List Foot → Prop),
    trK P tab nG G0 an rid all r i tm hp k → tm.length = n → h0 ≤ hp.length → ∃ ss tm' hp', Tr P nG G0 all n h0 r (tmF tm) (hpF hp) ss tm' hp' ∧ k tm' hp' (ss.map (·.foot)) ∧ tm'.length = n ∧ h0 ≤ hp'.length
  | [], i, tm, hp, k, h, hn, hh => ⟨[], tm, hp, .nil tm hp, h, hn, hh⟩
  | o :: r, i, tm, hp, k, h, hn, hh => by
    have exec : ∀ (tm1 : List AV), tm1.length = tm.length → tmF tm1 = tmF tm → guardIs all o (tmF tm) true →
        (stepK P tab nG G0 all o (an.call rid i) tm1 hp fun tm' hp' f => trK P tab nG G0 an rid all r (i + 1) tm' hp' fun tm hp T => k tm hp (f :: T)) →
        ∃ ss tm' hp', Tr P nG G0 all n h0 (o :: r) (tmF tm) (hpF hp) ss tm' hp' ∧ k tm' hp' (ss.map (·.foot)) ∧ tm'.length = n ∧ h0 ≤ hp'.length := by
      intro tm1 hl he hg hs
      unfold stepK at hs
      simp only [putK_eq, writeK_eq, condF] at hs
      obtain ⟨v, ws, rd, h1, h2, h3, h4⟩ := opK_snd hP hs
      obtain ⟨ss, tm', hp', g1, g2, g3⟩ := trK_snd hP r (i + 1) _ _ _ h4 (by rw [putL_len, hl, hn]) (Nat.le_trans hh (write_len _ _))
      rw [putL_get, write_get, hl, hn, he] at g1
      refine ⟨⟨⟨o.dst, slots all o, ws.map (fun p : Nat × Blk => p.1), rd⟩, v, ws, true, tm1, hp⟩ :: ss, tm', hp', .cons he rfl ⟨rfl, rfl, rfl, by rw [he]; exact hg, fun _ => h1, fun e => (by cases e), fun p hp' => ?_, by rw [hl, hn] at h3; exact h3, hh⟩ g1, g2, g3⟩
      have := List.all_eq_true.1 h2 p hp'
      simpa using this
    have skip : ∀ (tm1 : List AV), tm1.length = tm.length → tmF tm1 = tmF tm → guardIs all o (tmF tm) false →
        (skipK all o tm1 hp fun tm' hp' f => trK P tab nG G0 an rid all r (i + 1) tm' hp' fun tm hp T => k tm hp (f :: T)) →
        ∃ ss tm' hp', Tr P nG G0 all n h0 (o :: r) (tmF tm) (hpF hp) ss tm' hp' ∧ k tm' hp' (ss.map (·.foot)) ∧ tm'.length = n ∧ h0 ≤ hp'.length := by
      intro tm1 hl he hg hs
      unfold skipK at hs
      simp only [putK_eq, condF] at hs
      obtain ⟨h3, h4⟩ := hs
      obtain ⟨ss, tm', hp', g1, g2, g3⟩ := trK_snd hP r (i + 1) _ _ _ h4 (by rw [putL_len, hl, hn]) hh
      rw [putL_get, hl, hn, he] at g1
      exact ⟨⟨⟨o.dst, slots all o, [], []⟩, .tup [], [], false, tm1, hp⟩ :: ss, tm', hp', .cons he rfl ⟨rfl, rfl, rfl, by rw [he]; exact hg, fun e => (by cases e), fun _ => ⟨rfl, rfl⟩, fun p hp' => (by cases hp'), by rw [hl, hn] at h3; exact h3, hh⟩ g1, g2, g3⟩
    unfold trK at h
    split at h
    · rename_i hg
      exact exec tm rfl rfl (by simp [guardIs, hg]) h
    · rename_i j b hg
      split at h
      · exact h.elim
      rename_i d hjd
      split at h
      · rename_i c hc
        rw [ifK_iff] at h
        simp only [setK_eq] at h
        cases c with
        | true =>
          have h1 := h.1 rfl
          have hl : (tm.set d (.bool true)).length = tm.length := by simp
          have he := tmF_setBool hc
          cases b with
          | true => exact exec _ hl he (by simp only [guardIs, hg]; exact ⟨d, hjd, .inl ⟨true, hc, rfl⟩⟩) h1
          | false => exact skip _ hl he (by simp only [guardIs, hg]; exact ⟨d, hjd, .inl ⟨true, hc, rfl⟩⟩) h1
        | false =>
          have h1 := h.2 rfl
          have hl : (tm.set d (.bool false)).length = tm.length := by simp
          have he := tmF_setBool hc
          cases b with
          | false => exact exec _ hl he (by simp only [guardIs, hg]; exact ⟨d, hjd, .inl ⟨false, hc, rfl⟩⟩) h1
          | true => exact skip _ hl he (by simp only [guardIs, hg]; exact ⟨d, hjd, .inl ⟨false, hc, rfl⟩⟩) h1
      · rename_i hc
        exact skip _ rfl rfl (by simp only [guardIs, hg]; exact ⟨d, hjd, .inr ⟨hc, trivial⟩⟩) h
      · exact h.elim
end
end Go.Ab

namespace Go.Ab

theorem apart_dst {a b : Foot} (h : apart a b = true) {d : Nat} (hd : a.dst = some d) : d ∉ b.ops ∧ b.dst ≠ some d := by
  simp only [apart, Bool.and_eq_true] at h
  have h1 := h.1.1.1
  rw [hd] at h1
  simp only [Bool.and_eq_true, Bool.not_eq_true', List.elem_eq_mem, decide_eq_false_iff_not] at h1
  refine ⟨h1.1, fun e => ?_⟩
  have h2 := h1.2
  rw [e] at h2
  simp at h2

theorem apart_ws {a b : Foot} (h : apart a b = true) {i : Nat} (hi : i ∈ a.ws) : i ∉ b.rd ∧ i ∉ b.ws := by
  simp only [apart, Bool.and_eq_true] at h
  have h1 := List.all_eq_true.1 h.1.2 i hi
  simpa using h1

section
variable {P : Program} {tab : Tab} {nG : Nat} {G0 : Nat → Option Obj} {n0 : Nat}

theorem RelF.fns {n : Nat} {K : KM} {S : Stb} {tm tm' : Nat → AV} {hp hp' : Nat → Option Blk} {a : Act} {w : World} (h : RelF nG G0 n K S tm hp a w) (e1 : tm = tm') (e2 : hp = hp') : RelF nG G0 n K S tm' hp' a w := e1 ▸ e2 ▸ h

theorem yielded_fn {ops : Array Oper} {a : Act} {j d n : Nat} {c : Bool} {K : KM} {S : Stb} {tm : Nat → AV} {hp : Nat → Option Blk} {w : World} (h : RelF nG G0 n K S tm hp a w)
    (hd : (ops.toList[j]?).bind (·.dst) = some d) (hc : tm d = .bool c) : yielded ops a.tmps j = some c := yielded_of h hd hc

theorem draw_snd {ops : Array Oper} {n h0 : Nat} {tm0 : Nat → AV} {hp0 : Nat → Option Blk} {ss : List TStep} {tmN : List AV} {hpN : List (Option Blk)} {Q : Exit → Act → World → Prop} {K0 : KM} {S0 : Stb} {w0 : World}
    (ht : Tr P nG G0 ops.toList n h0 ops.toList tm0 hp0 ss tmN hpN) (hok : drawOk ops.toList (ss.map (·.foot)) = true) (hn0 : n0 ≤ h0) (hfr : ∀ id, h0 ≤ id → hp0 id = none)
    (hq : ∀ a w K S, RelF nG G0 n K S (tmF tmN) (hpF hpN) a w → Ext n0 K0 S0 w0 K S w → Q .normal a w) :
    ∀ (l : List Nat) (D : Nat → Bool), Topo (ops.toList.map edgesOf) D l → (∀ m, D m = true → ∀ j, ((befs (ops.toList.map edgesOf) []).getD m 0).testBit j = true → D j = true) →
      ∀ (K : KM) (S : Stb) (a : Act) (w : World), RelF nG G0 n K S (fld D (ss.map gT) 0 tm0) (fld D (ss.map gH) 0 hp0) a w → Ext n0 K0 S0 w0 K S w → wpOps P ops Q l a w := by
  obtain ⟨hlen, hget⟩ := ht.get
  obtain ⟨hstep, hfinT, hfinH⟩ := hget 0
  simp only [drawOk] at hok
  generalize hB : befs (ops.toList.map edgesOf) [] = B at hok
  obtain ⟨hl2, hrow⟩ := rowsOk_get hok
  have hlenE : (ops.toList.map edgesOf).length = ss.length := by simpa using hl2
  intro l
  induction l with
  | nil =>
    intro D hD _ K S a w hr hx
    simp only [Topo] at hD
    simp only [wpOps]
    refine hq a w K S (hr.fns ?_ ?_) hx
    · rw [hfinT]; funext x
      refine fld_congr _ _ _ _ rfl fun j g hj _ => ?_
      have : j < (ss.map gT).length := (List.getElem?_eq_some_iff.1 hj).1
      rw [Nat.zero_add]
      exact hD j (by rw [hlenE]; simpa using this)
    · rw [hfinH]; funext x
      refine fld_congr _ _ _ _ rfl fun j g hj _ => ?_
      have : j < (ss.map gH).length := (List.getElem?_eq_some_iff.1 hj).1
      rw [Nat.zero_add]
      exact hD j (by rw [hlenE]; simpa using this)
  | cons i l ih =>
    intro D hD hcl K S a w hr hx
    obtain ⟨hi, hDi, hpre, htopo⟩ := hD
    have hiS : i < ss.length := by rw [← hlenE]; exact hi
    have hio : i < ops.toList.length := by rw [hlen]; exact hiS
    obtain ⟨o, ho⟩ : ∃ o, ops.toList[i]? = some o := ⟨_, List.getElem?_eq_getElem hio⟩
    obtain ⟨s, hs⟩ : ∃ s, ss[i]? = some s := ⟨_, List.getElem?_eq_getElem hiS⟩
    have ho' : ops[i]? = some o := by simpa using ho
    obtain ⟨hf, htm, hhp⟩ := hstep i o s ho hs
    simp only [Nat.zero_add] at htm hhp
    have hE : ∀ j es, (ops.toList.map edgesOf)[j]? = some es → (B.getD j 0) = befAt B es := by
      intro j es hes
      have hj : j < ss.length := by rw [← hlenE]; exact (List.getElem?_eq_some_iff.1 hes).1
      have := hrow j es (ss[j].foot) hes (by rw [List.getElem?_map, List.getElem?_eq_getElem hj]; rfl)
      simp only [rowOk, Bool.and_eq_true, beq_iff_eq, Nat.zero_add] at this
      exact this.1.2
    have hes : (ops.toList.map edgesOf)[i]? = some (edgesOf o) := by rw [List.getElem?_map, ho]; rfl
    -- what comes before it has been done
    have hbef : ∀ j, (B.getD i 0).testBit j = true → D j = true := by
      intro j hj
      rw [hE i _ hes] at hj
      obtain ⟨on, h1, h2⟩ := befAt_ex hj
      have hon := hpre _ hes on h1
      rcases h2 with rfl | h2
      · exact hon
      · exact hcl on hon j h2
    -- a pair: told off in the text's order
    have hpair : ∀ j k (sj sk : TStep), j < k → ss[j]? = some sj → ss[k]? = some sk →
        ((B.getD k 0).testBit j = true ∨ (apart sk.foot sj.foot = true ∧ apart sj.foot sk.foot = true)) ∧ (sk.foot.ws.all fun id => sk.foot.rd.elem id || !sj.foot.ws.elem id) = true := by
      intro j k sj sk hjk hj hk
      have hkl : k < ss.length := (List.getElem?_eq_some_iff.1 hk).1
      obtain ⟨es, hes'⟩ : ∃ es, (ops.toList.map edgesOf)[k]? = some es := ⟨_, List.getElem?_eq_getElem (by rw [hlenE]; exact hkl)⟩
      have := hrow k es sk.foot hes' (by rw [List.getElem?_map, hk]; rfl)
      simp only [rowOk, Bool.and_eq_true, Nat.zero_add] at this
      have := go_sound _ _ _ this.2 j sj.foot hjk (by rw [List.getElem?_map, hj]; rfl)
      simpa using this
    -- whoever is done and stands behind it in the text is apart; whoever isn't done and stands before it too
    have hapart : ∀ j sj, j ≠ i → ss[j]? = some sj → D j ≠ decide (j < i) → apart s.foot sj.foot = true ∧ apart sj.foot s.foot = true := by
      intro j sj hne hj hd
      rcases Nat.lt_or_ge j i with hlt | hge
      · rcases (hpair j i sj s hlt hj hs).1 with h1 | h1
        · exact absurd (by rw [hbef j h1]; simp [hlt]) hd
        · exact h1
      · have hlt : i < j := by omega
        rcases (hpair i j s sj hlt hs hj).1 with h1 | h1
        · exfalso
          have hDj : D j = true := by
            cases hDj : D j with
            | true => rfl
            | false => rw [hDj] at hd; simp at hd; omega
          have := hcl j hDj i h1
          rw [hDi] at this
          cases this
        · exact ⟨h1.2, h1.1⟩
    have agreeT : ∀ t, t ∈ s.foot.ops → fld D (ss.map gT) 0 tm0 t = tmF s.tm t := by
      intro t htm'
      rw [htm]
      refine fld_congr _ _ _ _ rfl fun j g hj hg => ?_
      rw [Nat.zero_add]
      rw [List.getElem?_map, Option.map_eq_some_iff] at hj
      obtain ⟨sj, hsj, rfl⟩ := hj
      by_cases hji : j = i
      · subst hji; rw [hDi]; simp
      · apply Classical.byContradiction
        intro hne
        have h1 := hapart j sj hji hsj hne
        have : sj.foot.dst = some t := by
          simp only [gT] at hg
          split at hg
          · assumption
          · cases hg
        exact (apart_dst h1.2 this).1 htm'
    have agreeH : ∀ id, id ∈ s.foot.rd → fld D (ss.map gH) 0 hp0 id = hpF s.hp id := by
      intro id hid
      rw [hhp]
      refine fld_congr _ _ _ _ rfl fun j g hj hg => ?_
      rw [Nat.zero_add]
      rw [List.getElem?_map, Option.map_eq_some_iff] at hj
      obtain ⟨sj, hsj, rfl⟩ := hj
      by_cases hji : j = i
      · subst hji; rw [hDi]; simp
      · apply Classical.byContradiction
        intro hne
        have h1 := hapart j sj hji hsj hne
        have : id ∈ sj.foot.ws := by
          simp only [gH] at hg
          split at hg
          · assumption
          · cases hg
        exact (apart_ws h1.2 this).1 hid
    have freshH : ∀ p ∈ s.ws, p.1 ∉ s.foot.rd → fld D (ss.map gH) 0 hp0 p.1 = none ∧ n0 ≤ p.1 := by
      intro p hp hnr
      have hge : s.hp.length ≤ p.1 := (hf.fresh p hp).resolve_left hnr
      have hpw : p.1 ∈ s.foot.ws := by rw [hf.ws]; exact List.mem_map.2 ⟨p, hp, rfl⟩
      refine ⟨?_, Nat.le_trans hn0 (Nat.le_trans hf.hlen hge)⟩
      rw [fld_base]
      · exact hfr _ (Nat.le_trans hf.hlen hge)
      · intro j g hj hDj
        rw [Nat.zero_add] at hDj
        rw [List.getElem?_map, Option.map_eq_some_iff] at hj
        obtain ⟨sj, hsj, rfl⟩ := hj
        have hji : j ≠ i := by rintro rfl; rw [hDi] at hDj; cases hDj
        have : p.1 ∉ sj.foot.ws := by
          rcases Nat.lt_or_ge j i with hlt | hge2
          · have := List.all_eq_true.1 (hpair j i sj s hlt hsj hs).2 p.1 hpw
            simp only [Bool.or_eq_true, List.elem_eq_mem, decide_eq_true_eq, Bool.not_eq_true', decide_eq_false_iff_not] at this
            exact this.resolve_left hnr
          · have h1 := hapart j sj hji hsj (by rw [hDj]; simp; omega)
            exact (apart_ws h1.1 hpw).2
        simp [gH, this]
    -- the state behind it
    have nextT : fld (fun j => D j || j == i) (ss.map gT) 0 tm0 = upd n (fld D (ss.map gT) 0 tm0) o.dst s.val := by
      funext x
      by_cases hd : o.dst = some x
      · have hlt : x < n := by have := hf.small; rw [hd] at this; simpa [dstOk] using this
        rw [fld_last (ss.map gT) 0 i tm0 (gT s) (v := s.val) (by rw [List.getElem?_map, hs]; rfl) (by simp [gT, hf.dst, hd]) (by simp)]
        · simp [upd, hd, hlt]
        · intro k g hk hg hdk
          rw [List.getElem?_map, Option.map_eq_some_iff] at hg
          obtain ⟨sk, hsk, rfl⟩ := hg
          have hki : k ≠ i := by omega
          have hDk : D k = true := by simpa [hki] using hdk
          have h1 := hapart k sk hki hsk (by rw [hDk]; simp; omega)
          have := (apart_dst h1.1 (hf.dst.trans hd)).2
          simp [gT, this]
      · have : upd n (fld D (ss.map gT) 0 tm0) o.dst s.val x = fld D (ss.map gT) 0 tm0 x := by
          cases hd2 : o.dst with
          | none => rfl
          | some d =>
            have : ¬ x = d := fun e => hd (by rw [hd2, e])
            simp [upd, this]
        rw [this]
        refine fld_congr _ _ _ _ rfl fun j g hj hg => ?_
        rw [Nat.zero_add]
        rw [List.getElem?_map, Option.map_eq_some_iff] at hj
        obtain ⟨sj, hsj, rfl⟩ := hj
        have hji : j ≠ i := by
          rintro rfl
          rw [hs] at hsj; cases hsj
          simp only [gT, hf.dst] at hg
          split at hg
          · exact hd (by assumption)
          · cases hg
        simp [hji]
    have nextH : fld (fun j => D j || j == i) (ss.map gH) 0 hp0 = updH (fld D (ss.map gH) 0 hp0) s.ws := by
      funext x
      rw [updH_eq]
      by_cases hd : x ∈ s.ws.map (·.1)
      · rw [if_pos hd]
        have hw : x ∈ s.foot.ws := by rw [hf.ws]; exact hd
        rw [fld_last (ss.map gH) 0 i hp0 (gH s) (v := updH (fun _ => none) s.ws x) (by rw [List.getElem?_map, hs]; rfl) (by simp only [gH]; rw [if_pos hw]) (by simp)]
        intro k g hk hg hdk
        rw [List.getElem?_map, Option.map_eq_some_iff] at hg
        obtain ⟨sk, hsk, rfl⟩ := hg
        have hki : k ≠ i := by omega
        have hDk : D k = true := by simpa [hki] using hdk
        have h1 := hapart k sk hki hsk (by rw [hDk]; simp; omega)
        have := (apart_ws h1.1 hw).2
        simp only [gH]; rw [if_neg this]
      · rw [if_neg hd]
        have hw : x ∉ s.foot.ws := by rw [hf.ws]; exact hd
        refine fld_congr _ _ _ _ rfl fun j g hj hg => ?_
        rw [Nat.zero_add]
        rw [List.getElem?_map, Option.map_eq_some_iff] at hj
        obtain ⟨sj, hsj, rfl⟩ := hj
        have hji : j ≠ i := by
          rintro rfl
          rw [hs] at hsj; cases hsj
          simp only [gH] at hg
          rw [if_neg hw] at hg
          cases hg
        simp [hji]
    have hcl' : ∀ m, (D m || m == i) = true → ∀ j, (B.getD m 0).testBit j = true → (D j || j == i) = true := by
      intro m hm j hj
      rw [Bool.or_eq_true] at hm ⊢
      rcases hm with hm | hm
      · exact .inl (hcl m hm j hj)
      · have : m = i := by simpa using hm
        subst this
        exact .inl (hbef j hj)
    -- whether it is done at all
    have hwant : Region.wanted o (yielded ops a.tmps) = s.exec := by
      have hg := hf.guard
      unfold guardIs at hg
      unfold Region.wanted
      cases hgo : o.guard with
      | none => rw [hgo] at hg; exact hg.symm
      | some jb =>
        obtain ⟨j, b⟩ := jb
        rw [hgo] at hg
        obtain ⟨d, h1, hg⟩ := hg
        have hd : d ∈ s.foot.ops := by
          rw [hf.ops]
          simp only [slots, hgo, h1]
          simp
        rcases hg with ⟨c, h2, h3⟩ | ⟨h2, h3⟩
        · have hc : fld D (ss.map gT) 0 tm0 d = .bool c := (agreeT d hd).trans h2
          have := yielded_fn hr h1 hc
          simp only [this, ← h3]
          cases c <;> cases b <;> rfl
        · have hc : fld D (ss.map gT) 0 tm0 d = .tup [] := (agreeT d hd).trans h2
          have := yielded_off hr h1 hc
          simp only [this, h3]
          cases b <;> rfl
    simp only [wpOps, ho']
    cases he : s.exec with
    | true =>
      rw [if_pos (by rw [hwant]; exact he)]
      refine .inl ?_
      refine hf.snd he n0 n K S _ _ a w hr (fun x hxm => ?_) agreeH (fun p hp => ?_) _ Q fun u w' K' S' hv hh hxe hkl => ?_
      · cases x with
        | tmp t =>
          refine agreeT t ?_
          rw [hf.ops]
          refine List.mem_append_left _ (List.mem_filterMap.2 ⟨.tmp t, by simpa using hxm, rfl⟩)
        | const v => rfl
        | global g => rfl
        | func f => rfl
      · by_cases h1 : p.1 ∈ s.foot.rd
        · exact .inl h1
        · exact .inr (freshH p hp h1)
      · refine ih _ htopo hcl' K' S' _ w' ?_ (hx.trans hxe)
        rw [nextT, nextH]
        exact hr.put hkl hxe.kept hv hh o.dst
    | false =>
      rw [if_neg (by rw [hwant, he]; simp)]
      obtain ⟨h1, h2⟩ := hf.skip he
      refine ih _ htopo hcl' K S _ w ?_ hx
      rw [nextT, nextH, h1, h2]
      exact hr.put (KLe.refl K) (Kept.refl S w) (show VR K S w (.tup []) undef from ⟨#[], rfl, rfl, fun j y v hy => by simp at hy⟩) hr.heap o.dst
end
end Go.Ab

namespace Go.Ab

section
variable (P : Program) (tab : Tab) (nG : Nat) (G0 : Nat → Option Obj) (fn : Func) (n0 : Nat)

/-- A rest of a function's code, from the frame tm over the heap hp, ends with a result and a heap as R says. -/
structure Does (its : List Item) (tm : List AV) (hp : List (Option Blk)) (R : AV → List (Option Blk) → Prop) : Prop where
  ends : n0 ≤ hp.length → ∀ (K : KM) (S : Stb) (a : Act) (w : World), RelF nG G0 tm.length K S (tmF tm) (hpF hp) a w →
    Ends P its (fun a' w' => a'.defers = [] ∧ ∃ v, (results fn a'.tmps).run P w' = .ok v w' ∧ ∃ r H' K' S', R r H' ∧ HRel nG G0 K' S' (hpF H') w' ∧ VR K' S' w' r v ∧ Ext n0 K S w K' S' w') a w

def finK (an : FAnn) (tm : List AV) (hp : List (Option Blk)) (R : AV → List (Option Blk) → Prop) : Prop :=
  tokK (an.out.getD []) tm hp fun tm hp => resK tab tm hp fn.results.toList fun vs =>
    let L := reach hp 3 (addAll (List.range n0) (bif an.out.isSome then idsV (retV vs) else []))
    bif nodupB L && baseB n0 L then forceK (outV (hpF hp) (pos L) (retV vs)) fun r => forceH (L.map fun id => (hpF hp id).map (outB (hpF hp) (pos L))) fun H' => R r H' else False

abbrev RunT := List Item → List AV → List (Option Blk) → (AV → List (Option Blk) → Prop) → Prop

def runS (an : FAnn) (rec : RunT) (its : List Item) (tm : List AV) (hp : List (Option Blk)) (R : AV → List (Option Blk) → Prop) : Prop :=
    match its with
    | [] => finK tab fn n0 an tm hp R
    | .inBlock _ :: k => rec k tm hp R
    | .inLoop c :: k =>
      match k with
      | .inBlock id :: _ => relayK n0 (an.loop id).1 (an.loop id).2 tm hp fun tm' hp' => Does P nG G0 fn n0 (.code c :: .inLoop c :: k) tm' hp' R
      | _ => False
    | .code c :: k =>
      match c with
      | .ret => finK tab fn n0 an tm hp R
      | .skip => rec k tm hp R
      | .seq x y => rec (.code x :: .code y :: k) tm hp R
      | .cond c x y => match ev tm c with | .bool t => ifK t (rec (.code x :: k) tm hp R) (rec (.code y :: k) tm hp R) | _ => False
      | .block id c => rec (.code c :: .inBlock id :: k) tm hp R
      | .exit id => match exitTo id k with | some k' => rec k' tm hp R | none => False
      | .loop c =>
        match k with
        | .inBlock id :: _ => relayK n0 (an.loop id).1 (an.loop id).2 tm hp fun tm' hp' => Does P nG G0 fn n0 (.code c :: .inLoop c :: k) tm' hp' R
        | _ => False
      | .region id ops draw => frzK n0 (an.frzAt id) tm hp fun tm hp => bif draw then trK P tab nG G0 an id ops.toList ops.toList 0 tm hp fun tm' hp' T => bif drawOk ops.toList T then rec k tm' hp' R else False else opsK P tab nG G0 an id ops.toList ops.toList 0 tm hp fun tm' hp' => rec k tm' hp' R
      | _ => False
    | _ => False

def runI (an : FAnn) (n : Nat) : RunT := Nat.rec (motive := fun _ => RunT) (fun _ _ _ _ => False) (fun _ ih => runS P tab nG G0 fn n0 an ih) n
end

section
variable {P : Program} {tab : Tab} {nG : Nat} {G0 : Nat → Option Obj} {fn : Func} {n0 : Nat} {an : FAnn}

theorem Does.step {its its' : List Item} {tm : List AV} {hp : List (Option Blk)} {R : AV → List (Option Blk) → Prop}
    (hs : ∀ (a : Act) (w : World) (b : Frame) (cs : List Frame), Go.step P (lone (b.at a its) cs w) = .next (lone (b.at a its') cs w)) (h : Does P nG G0 fn n0 its' tm hp R) : Does P nG G0 fn n0 its tm hp R :=
  ⟨fun hn K S a w hr => Ends.step (hs a w) (h.ends hn K S a w hr)⟩

/-- Behind a change of the heap's reading. -/
theorem Does.via {its : List Item} {tm' : List AV} {hp' : List (Option Blk)} {R : AV → List (Option Blk) → Prop} {K K' : KM} {S S' : Stb} {a : Act} {w w' : World}
    (h : Does P nG G0 fn n0 its tm' hp' R) (hn : n0 ≤ hp'.length) (hr : RelF nG G0 tm'.length K' S' (tmF tm') (hpF hp') a w') (hx : Ext n0 K S w K' S' w') :
    Ends P its (fun a' w' => a'.defers = [] ∧ ∃ v, (results fn a'.tmps).run P w' = .ok v w' ∧ ∃ r H' K' S', R r H' ∧ HRel nG G0 K' S' (hpF H') w' ∧ VR K' S' w' r v ∧ Ext n0 K S w K' S' w') a w' :=
  (h.ends hn K' S' a w' hr).mono fun _ _ ⟨h1, v, h2, r, H', K2, S2, h3, h4, h5, h6⟩ => ⟨h1, v, h2, r, H', K2, S2, h3, h4, h5, hx.trans h6⟩

theorem kept_drawn (S : Stb) (w : World) (d : Nat) : Kept S w S { w with drawn := d } := ⟨fun _ _ h => h, fun _ _ _ => rfl, fun _ _ => rfl⟩

theorem Ext.drawn (n0 : Nat) (K : KM) (S : Stb) (w : World) {d : Nat} : Ext n0 K S w K S { w with drawn := d } :=
  ⟨rfl, rfl, rfl, Nat.le_refl _, fun _ _ _ => rfl, fun id ki _ h hb => .inl ⟨id, ki, h, hb⟩, kept_drawn S w d, fun _ _ h => .inl h, fun _ ki _ h => ⟨ki, h, kle.refl ki⟩⟩

theorem HRel.drawn {nG : Nat} {G0 : Nat → Option Obj} {K : KM} {S : Stb} {hp : Nat → Option Blk} {w : World} {d : Nat} (h : HRel nG G0 K S hp w) : HRel nG G0 K S hp { w with drawn := d } :=
  ⟨h.dom, fun id bl ki hb hk => (h.blk id bl ki hb hk).mono (KLe.refl K) (kept_drawn S w d) fun _ _ => rfl, h.inj, h.lt, h.apart, h.glob, h.fix, h.nG⟩

theorem RelF.drawn {nG : Nat} {G0 : Nat → Option Obj} {n : Nat} {K : KM} {S : Stb} {tm : Nat → AV} {hp : Nat → Option Blk} {a : Act} {w : World} {d : Nat} (h : RelF nG G0 n K S tm hp a w) : RelF nG G0 n K S tm hp a { w with drawn := d } :=
  ⟨h.defers, h.size, fun t => (h.tmp t).mono (KLe.refl K) (kept_drawn S w d), h.heap.drawn⟩

theorem finK_snd (hP : ProgOk P tab) {its : List Item} {tm : List AV} {hp : List (Option Blk)} {R : AV → List (Option Blk) → Prop} (he : ∀ (Q : Act → World → Prop) a w, Q a w → Ends P its Q a w) (h : finK tab fn n0 an tm hp R) : Does P nG G0 fn n0 its tm hp R := by
  refine ⟨fun hn K S a w hr => ?_⟩
  unfold finK at h
  obtain ⟨tm, hp, K1, h, hr, hx0, _⟩ := tokK_snd _ _ _ _ h K S a w hn hr
  obtain ⟨vs, u, h1, h2, h3⟩ := resK_results hP hr h
  refine he _ a w ⟨hr.defers, u, h2, ?_⟩
  simp only [condF, forceK_eq, forceH_eq, Bool.and_eq_true] at h1
  generalize reach hp 3 (addAll (List.range n0) (bif an.out.isSome then idsV (retV vs) else [])) = L at h1
  obtain ⟨⟨h4, h5⟩, h6⟩ := h1
  have hb := baseB_sound h5
  obtain ⟨g1, g2⟩ := hr.heap.out (n0 := n0) (nodupB_sound h4) hb.1
  exact ⟨_, _, _, _, h6, g1, h3.out hr.heap, hx0.trans g2⟩

theorem relay_sem {its : List Item} {keep tok : List Nat} {tm : List AV} {hp : List (Option Blk)} {R : AV → List (Option Blk) → Prop}
    (h : relayK n0 keep tok tm hp fun tm' hp' => Does P nG G0 fn n0 its tm' hp' R) : Does P nG G0 fn n0 its tm hp R := by
  refine ⟨fun hn K S a w hr => ?_⟩
  obtain ⟨tm', hp', K', S', h1, h2, h3, h4⟩ := relayK_snd h hn hr
  exact h1.via h4 h2 h3

theorem runI_snd (hP : ProgOk P tab) : ∀ (n : Nat) (its : List Item) (tm : List AV) (hp : List (Option Blk)) (R : AV → List (Option Blk) → Prop), runI P tab nG G0 fn n0 an n its tm hp R → Does P nG G0 fn n0 its tm hp R
  | 0, _, _, _, _, h => h.elim
  | n + 1, its, tm, hp, R, h => by
    have ih := runI_snd hP n
    change runS P tab nG G0 fn n0 an (runI P tab nG G0 fn n0 an n) its tm hp R at h
    unfold runS at h
    split at h
    · exact finK_snd hP (fun Q a w hq => Ends.nil hq) h
    · exact Does.step (fun a w b cs => step_inBlock) (ih _ _ _ _ h)
    · split at h
      · exact Does.step (fun a w b cs => step_inLoop) (relay_sem h)
      · exact h.elim
    · split at h
      · exact finK_snd hP (fun Q a w hq => Ends.ret hq) h
      · exact Does.step (fun a w b cs => step_skip) (ih _ _ _ _ h)
      · exact Does.step (fun a w b cs => step_seq) (ih _ _ _ _ h)
      · rename_i k _ c x y
        split at h
        · rename_i t hc
          rw [ifK_iff] at h
          refine ⟨fun hn K S a w hr => ?_⟩
          have hv : a.eval c = .bool t := VR_bool (by have := hr.ev c; rw [show evA (tmF tm) c = .bool t from hc] at this; exact this)
          have hst : ∀ (b : Frame) (cs : List Frame), Go.step P (lone (b.at a (.code (.cond c x y) :: k)) cs w) = .next (lone (b.at a (.code (if t then x else y) :: k)) cs w) := fun b cs => step_cond hv
          refine Ends.step hst ?_
          cases t
          · exact (ih _ _ _ _ (h.2 rfl)).ends hn K S a w hr
          · exact (ih _ _ _ _ (h.1 rfl)).ends hn K S a w hr
        · exact h.elim
      · exact Does.step (fun a w b cs => step_block) (ih _ _ _ _ h)
      · split at h
        · rename_i k' hk
          exact Does.step (fun a w b cs => step_exit hk) (ih _ _ _ _ h)
        · exact h.elim
      · split at h
        · exact Does.step (fun a w b cs => step_loop) (relay_sem h)
        · exact h.elim
      · rename_i k _ id ops draw
        refine ⟨fun hn K S a w hr => ?_⟩
        obtain ⟨tm, hp, K1, S1, h, hr, hx1, hn⟩ := frzK_snd h hn hr
        refine Does.via (K := K) (S := S) (w := w) ?_ hn hr hx1
        clear hx1 hr hn
        cases draw with
        | true =>
          refine ⟨fun hn K S a w hr => ?_⟩
          rw [cond_true] at h
          obtain ⟨ss, tm', hp', g1, g2, g3, g4⟩ := trK_snd (n := tm.length) (h0 := hp.length) hP ops.toList 0 tm hp _ h rfl (Nat.le_refl _)
          rw [condF] at g2
          refine Ends.code (wp_region_draw fun t => ?_)
          have hsch : Region.schedule (P.follows .mixedOrders) ops t = Region.linearise .any ops t := by simp [Region.schedule, hP.mixed]
          rw [hsch]
          have hE : ∀ (i : Nat) (o : Oper), ops[i]? = some o → ∀ on ∈ edgesOf o, on < i := by
            intro i o ho on hon
            have h1 := g2.1
            simp only [drawOk] at h1
            have hlen := g1.get.1
            have hi : i < ss.length := by rw [← hlen]; simpa using (Array.getElem?_eq_some_iff.1 ho).1
            have h2 := (rowsOk_get h1).2 i (edgesOf o) ss[i].foot (by rw [List.getElem?_map]; simp [ho]) (by rw [List.getElem?_map, List.getElem?_eq_getElem hi]; rfl)
            simp only [rowOk, Bool.and_eq_true, Nat.zero_add] at h2
            have := List.all_eq_true.1 h2.1.1 on hon
            simpa using this
          have hr' : RelF nG G0 tm.length K S (tmF tm) (hpF hp) a { w with drawn := w.drawn + 1 } := hr.drawn
          have hx' : Ext n0 K S w K S { w with drawn := w.drawn + 1 } := Ext.drawn n0 K S w
          refine draw_snd (n0 := n0) (K0 := K) (S0 := S) (w0 := w) g1 g2.1 hn (fun id hid => by simp [hpF, List.getElem?_eq_none hid]) (fun a' w' K' S' hr2 hx2 => ⟨rfl, (ih _ _ _ _ g2.2).via (Nat.le_trans hn g4) (by rw [g3]; exact hr2) hx2⟩) _ _ (topo_linearise hE t) (fun m hm => by cases hm) K S a _ (hr'.fns ?_ ?_) hx'
          · exact (funext fun x => fld_base _ 0 (tmF tm) fun j g _ hd => by cases hd).symm
          · exact (funext fun x => fld_base _ 0 (hpF hp) fun j g _ hd => by cases hd).symm
        | false =>
          refine ⟨fun hn K S a w hr => ?_⟩
          refine Ends.code (wp_region ?_)
          have := opsK_snd (G0 := G0) (n0 := n0) hP (rid := id) (ops := ops)
            (Q := fun e a' w' => e = .normal ∧ Ends P k (fun a' w' => a'.defers = [] ∧ ∃ v, (results fn a'.tmps).run P w' = .ok v w' ∧ ∃ r H' K' S', R r H' ∧ HRel nG G0 K' S' (hpF H') w' ∧ VR K' S' w' r v ∧ Ext n0 K S w K' S' w') a' w')
            ops.toList 0 tm hp _ h rfl hn K S a w hr fun tm' hp' a' w' K' S' hk _ hn' hr' hx => ⟨rfl, (ih _ _ _ _ hk).via hn' hr' hx⟩
          rw [Array.length_toList, ← List.range_eq_range'] at this
          exact this
      · exact h.elim
    · exact h.elim
end

/-- The frame at a function's beginning. -/
def frame0 (n : Nat) (args : List AV) : List AV := args ++ List.replicate (n - args.length) .dead

section
variable {P : Program} {tab : Tab} {nG : Nat} {G0 : Nat → Option Obj} {fn : Func} {n0 : Nat} {an : FAnn}

theorem good_of_sem {f : FuncId} {c : Code} {args : List AV} {H H' : List (Option Blk)} {r : AV} (hf : P.funcs[f]? = some fn) (hb : fn.body = some c) (hn : (fn.name == "runtime.NumGoroutine") = false)
    (h : Does P nG G0 fn H.length [.code c] (frame0 fn.ntmps args) H fun r' H'' => r' = r ∧ H'' = H') : Good P nG G0 f args H r H' := by
  refine ⟨⟨fn, hf, by simp [hb], hn⟩, fun w K S us hrel hus cs => ?_⟩
  have hus1 : us.length = args.length := hus.1
  let a0 : Act := { tmps := us.toArray ++ Array.replicate (fn.ntmps - us.toArray.size) undef, defers := [] }
  have hr : RelF nG G0 (frame0 fn.ntmps args).length K S (tmF (frame0 fn.ntmps args)) (hpF H) a0 w := by
    refine ⟨rfl, by simp [a0, frame0, hus1], fun t => ?_, hrel⟩
    simp only [tmF, frame0, List.getD_eq_getElem?_getD, List.getElem?_append, a0, Array.getD_eq_getD_getElem?, Array.getElem?_append, List.size_toArray, hus1]
    split
    · rename_i hlt
      have h1 : args[t]? = some args[t] := List.getElem?_eq_getElem hlt
      have h2 : us[t]? = some us[t] := List.getElem?_eq_getElem (by omega)
      have := hus.2 t _ _ h1 h2
      simpa [h1, h2] using this
    · have : ((List.replicate (fn.ntmps - args.length) AV.dead)[t - args.length]?).getD .dead = .dead := by
        rw [List.getElem?_replicate]; split <;> rfl
      rw [this]
      exact VR_dead _ _ _ _
  let b : Frame := { (default : Frame) with fn := f, kind := .normal }
  have henter : Frame.enter P f us.toArray .normal = b.at a0 [.code c] := by
    simp [Frame.enter, Frame.at, hf, hb, b, a0]
  obtain ⟨a', w', todo, ⟨hd, v, hv, r', H'', K', S', ⟨rfl, rfl⟩, h1, h2, h3⟩, hs⟩ := h.ends (Nat.le_refl _) K S a0 w hr b cs
  rw [← henter] at hs
  exact ⟨.returned v, w', _, ⟨v, K', S', rfl, h1, h2, h3⟩, hs, rfl, rfl, hd, rfl, fn, hf, hv⟩
end
end Go.Ab

namespace Go.Ab

/-- What is laid out anew, closed by the kernel. -/
structure Hold (A : Prop) : Prop where
  it : A

theorem kshow {A B : Prop} (h : A) (e : B = A) : Hold B := ⟨e ▸ h⟩

def zeroCB : CK → Value → Bool
  | .bool, .bool b => !b
  | .int k, .int k' n => k == k' && n == 0
  | .str, .string s => s.data.size == 0
  | .sl _, .slice none l c => l == 0 && c == 0
  | .mp, .map none => true
  | .func, .nilFunc => true
  | .iface, .nilIface => true
  | .ptr, .pointer none => true
  | _, _ => false

theorem zeroCB_sound {c : CK} {v : Value} (h : zeroCB c v = true) : v = zeroC c := by
  unfold zeroCB at h
  split at h <;> simp_all [zeroC]

def zerosB : List CK → List Value → Bool
  | [], [] => true
  | c :: r, v :: s => zeroCB c v && zerosB r s
  | _, _ => false

theorem zerosB_sound : ∀ {cs : List CK} {vs : List Value}, zerosB cs vs = true → vs = cs.map zeroC
  | [], [], _ => rfl
  | c :: r, v :: s, h => by
    simp only [zerosB, Bool.and_eq_true] at h
    simp [zeroCB_sound h.1, zerosB_sound h.2]
  | [], _ :: _, h => by simp [zerosB] at h
  | _ :: _, [], h => by simp [zerosB] at h

def scalarB : CK → TypeDesc → Bool
  | .bool, .bool => true
  | .int k, .int k' => k == k'
  | .str, .string => true
  | .func, .func _ _ _ => true
  | .iface, .interface _ => true
  | .ptr, .pointer _ => true
  | _, _ => false

theorem scalarB_sound {c : CK} {d : TypeDesc} (h : scalarB c d = true) : scalarDesc c d := by
  cases c <;> cases d <;> simp_all [scalarB, scalarDesc]

def kindB (P : Program) (t : TypeId) (tk : TK) : Bool :=
  match P.underlying t with
  | none => false
  | some d =>
    match tk with
    | .scalar c => scalarB c d
    | .slice e => match d with | .slice e' => e == e' | _ => false
    | .arr n e => match d with | .array n' e' => n == n' && e == e' | _ => false
    | .struct fs => match d with | .struct fields => (fields.toList.map fun f => (f.offset, f.type)) == fs && (fields.toList.all fun f => f.name != "_") && !P.stoodInHeld t | _ => false
    | .map k e => match d with | .map k' e' => k == k' && e == e' | _ => false

theorem kindB_sound {P : Program} {t : TypeId} {tk : TK} (h : kindB P t tk = true) : kindOk P t tk := by
  unfold kindB at h
  split at h
  · cases h
  rename_i d hd
  cases tk with
  | scalar c => exact ⟨d, hd, scalarB_sound h⟩
  | slice e => simp only at h; split at h <;> simp_all [kindOk]
  | arr n e => simp only at h; split at h <;> simp_all [kindOk]
  | map k e => simp only at h; split at h <;> simp_all [kindOk]
  | struct fs =>
    simp only at h
    split at h
    · rename_i fields
      simp only [Bool.and_eq_true, beq_iff_eq, List.all_eq_true, bne_iff_ne, ne_eq, Bool.not_eq_true'] at h
      exact ⟨fields, hd, h.1.1, fun f hf => h.1.2 f (by simpa using hf), h.2⟩
    · cases h

def tiB (P : Program) (t : TypeId) (ti : TI) : Bool :=
  match P.info? t with
  | none => false
  | some i =>
    i.size == ti.size && i.bytes == ti.bytes &&
    (match i.zero with
     | none => false
     | some z => match ti.kind.isAgg with
       | true => (match z with | .agg a => zerosB ti.cells a.toList | _ => false)
       | false => zeroCB (ti.cells.headD .bool) z) &&
    kindB P t ti.kind && ti.cells.length == ti.size && (ti.kind.isAgg || ti.size == 1)

theorem tiB_sound {P : Program} {t : TypeId} {ti : TI} (h : tiB P t ti = true) : TIok P t ti := by
  unfold tiB at h
  split at h
  · cases h
  rename_i i hi
  simp only [Bool.and_eq_true, beq_iff_eq, Bool.or_eq_true] at h
  obtain ⟨⟨⟨⟨⟨h1, h2⟩, h3⟩, h4⟩, h5⟩, h6⟩ := h
  refine ⟨⟨i, hi, h1, h2, ?_⟩, kindB_sound h4, h5, fun hk => ?_⟩
  · split at h3
    · cases h3
    rename_i z hz
    rw [hz]
    unfold TI.zeroV
    split at h3
    · rename_i hk
      rw [if_pos hk]
      split at h3
      · rename_i a
        have := zerosB_sound h3
        rw [← this]
      · cases h3
    · rename_i hk
      rw [if_neg (by simp [hk]), zeroCB_sound h3]
  · simpa [hk] using h6

def tabOfL (L : List (Option TI)) : Tab := fun t => match L[t]? with | some x => x | none => none

def tabB (P : Program) : Nat → List (Option TI) → Bool
  | _, [] => true
  | t, none :: r => tabB P (t + 1) r
  | t, some ti :: r => tiB P t ti && tabB P (t + 1) r

theorem tabB_sound {P : Program} : ∀ (L : List (Option TI)) (t0 : Nat), tabB P t0 L = true → ∀ (i : Nat) (ti : TI), L[i]? = some (some ti) → TIok P (t0 + i) ti
  | [], _, _, i, ti, hi => by simp at hi
  | none :: r, t0, h, 0, ti, hi => by simp at hi
  | none :: r, t0, h, i + 1, ti, hi => by
    have := tabB_sound r (t0 + 1) h i ti (by simpa using hi)
    rwa [Nat.add_right_comm] at this
  | some ti' :: r, t0, h, 0, ti, hi => by
    simp only [tabB, Bool.and_eq_true] at h
    simp at hi
    subst hi
    exact tiB_sound h.1
  | some ti' :: r, t0, h, i + 1, ti, hi => by
    simp only [tabB, Bool.and_eq_true] at h
    have := tabB_sound r (t0 + 1) h.2 i ti (by simpa using hi)
    rwa [Nat.add_right_comm] at this

theorem tabOk_of {P : Program} {L : List (Option TI)} (h : tabB P 0 L = true) : TabOk P (tabOfL L) := by
  intro t ti ht
  have : L[t]? = some (some ti) := by
    unfold tabOfL at ht
    split at ht
    · rename_i x hx; rw [hx, ht]
    · cases ht
  have := tabB_sound L 0 h t ti this
  rwa [Nat.zero_add] at this

theorem progOk_of {P : Program} {L : List (Option TI)} (h : tabB P 0 L = true) (hd : Nat.ble 20 P.depth = true) (hm : P.follows .mixedOrders = true) : ProgOk P (tabOfL L) := ⟨tabOk_of h, Nat.le_of_ble_eq_true hd, hm⟩

/-- The places in a function's code where its loops' bodies begin. -/
def loopsOf : Code → List Item → List (List Item)
  | .seq a b, k => loopsOf a (.code b :: k) ++ loopsOf b k
  | .cond _ a b, k => loopsOf a k ++ loopsOf b k
  | .block id c, k => loopsOf c (.inBlock id :: k)
  | .loop c, k => (.code c :: .inLoop c :: k) :: loopsOf c (.inLoop c :: k)
  | _, _ => []

def fnOf (P : Program) (f : Nat) : Func := P.funcs.getD f default
def bodyOf (P : Program) (f : Nat) : Code := (fnOf P f).body.getD default
def lp (P : Program) (f i : Nat) : List Item := (loopsOf (bodyOf P f) []).getD i []

def lookT : List (Nat × AV) → Nat → AV
  | [], _ => .dead
  | (j, v) :: r, i => bif j == i then v else lookT r i

/-- A frame, told by what it bears. -/
def mkT (n : Nat) (l : List (Nat × AV)) : List AV := (List.range n).map (lookT l)

/-- What is to be shown of a function. -/
def runF (P : Program) (tab : Tab) (nG : Nat) (G0 : Nat → Option Obj) (an : FAnn) (f : Nat) (args : List AV) (H : List (Option Blk)) (R : AV → List (Option Blk) → Prop) : Prop :=
  runI P tab nG G0 (fnOf P f) H.length an 1000 [.code (bodyOf P f)] (frame0 (fnOf P f).ntmps args) H R

/-- What is to be shown of a loop. -/
def runL (P : Program) (tab : Tab) (nG : Nat) (G0 : Nat → Option Obj) (an : FAnn) (f i n0 : Nat) (tm : List AV) (hp : List (Option Blk)) (R : AV → List (Option Blk) → Prop) : Prop :=
  runI P tab nG G0 (fnOf P f) n0 an 1000 (lp P f i) tm hp R

def hasB (P : Program) (f : Nat) : Bool :=
  match P.funcs[f]? with
  | some fn => fn.body.isSome && !(fn.name == "runtime.NumGoroutine")
  | none => false

theorem good_of_run {P : Program} {tab : Tab} {nG : Nat} {G0 : Nat → Option Obj} {an : FAnn} {f : Nat} {args : List AV} {H H' : List (Option Blk)} {r : AV} (hP : ProgOk P tab) (hb : hasB P f = true)
    (h : Hold (runF P tab nG G0 an f args H fun r' H'' => r' = r ∧ H'' = H')) : Good P nG G0 f args H r H' := by
  have h := h.it
  unfold hasB at hb
  split at hb
  · rename_i fn hf
    simp only [Bool.and_eq_true, Bool.not_eq_true'] at hb
    obtain ⟨c, hc⟩ := Option.isSome_iff_exists.1 hb.1
    have h1 : fnOf P f = fn := by simp only [fnOf, Array.getD_eq_getD_getElem?, hf, Option.getD_some]
    have h2 : bodyOf P f = c := by simp [bodyOf, h1, hc]
    unfold runF at h
    rw [h1, h2] at h
    exact good_of_sem hf hc hb.2 (runI_snd hP _ _ _ _ _ h)
  · cases hb

theorem does_of_run {P : Program} {tab : Tab} {nG : Nat} {G0 : Nat → Option Obj} {an : FAnn} {f i n0 : Nat} {tm : List AV} {hp : List (Option Blk)} {R : AV → List (Option Blk) → Prop} (hP : ProgOk P tab)
    (h : Hold (runL P tab nG G0 an f i n0 tm hp R)) : Does P nG G0 (fnOf P f) n0 (lp P f i) tm hp R := runI_snd hP _ _ _ _ _ h.it
end Go.Ab
