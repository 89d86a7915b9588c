/- Appending, copying, converting, comparing. -/
import Derived.Test.YtfddiediieblhaaAbsF
set_option linter.unusedVariables false
set_option linter.unusedSimpArgs false
namespace Go.Abs

section
variable {P : Program} {n₀ : Nat} {w₀ : World} {S₀ S : SM} {m : BM} {h : AHeap} {w : World}

theorem len_sound {x : AV} {v : Value} {n : Nat} (hn : lenA x = some n) (hx : VR S m x v) : (Builtin.lenOf v).run P w = .ok n w := by
  cases x <;> simp only [lenA] at hn <;> first | (cases hn; done) | skip
  · cases hn; unfold VR at hx; subst hx; simp [Builtin.lenOf, str_size]
  · cases hn; unfold VR at hx; obtain ⟨a, cap, rfl, _⟩ := hx; simp [Builtin.lenOf]
  · cases hn; unfold VR at hx; obtain ⟨B, K, cap, _, rfl, _⟩ := hx; simp [Builtin.lenOf]

theorem bytes_rel (S : SM) (m : BM) : ∀ (l : List UInt8), VRs S m (l.map fun b => .int .u8 b.toNat) (l.map fun b => .int .u8 b.toNat)
  | [] => by unfold VRs; rfl
  | b :: l => by simp only [List.map_cons]; unfold VRs; exact ⟨_, _, rfl, by unfold VR; rfl, bytes_rel S m l⟩

theorem first_sound (s : Sim n₀ w₀ S₀ S m h w) {x : AV} {v : Value} {sz n : Nat} {ys : List AV} (hr : firstA h sz n x = some ys) (hx : VR S m x v) :
    ∃ vs : List Value, (Builtin.firstCells sz n v).run P w = .ok vs.toArray w ∧ VRs S m ys vs := by
  unfold firstA at hr
  split at hr
  · rename_i l
    split at hr
    · cases hr
      unfold VR at hx; subst hx
      refine ⟨(l.take n).map fun b => .int .u8 b.toNat, ?_, bytes_rel S m _⟩
      simp only [Builtin.firstCells, Sem.run_pure, extract_mk]
      simp
    · cases hr
  · rename_i sz' xs c0
    split at hr
    · rename_i hc
      obtain ⟨hn, hsz⟩ := hc
      simp only at hr
      split at hr
      · rename_i hall
        cases hr
        unfold VR at hx
        obtain ⟨a, cap, rfl, _, _, h3⟩ := hx
        by_cases hn0 : n = 0
        · subst hn0
          refine ⟨[], ?_, by simp; unfold VRs; rfl⟩
          cases a with
          | none => simp [Builtin.firstCells]
          | some a => simp [Builtin.firstCells, loadCells, loadCellsFrom]
        · have hsz' := hsz.resolve_right hn0
          subst hsz'
          have hne : xs ≠ [] := fun e => by subst e; simp at hn; omega
          obtain ⟨B, q, rfl, her⟩ := h3 hne
          have hall' : ∀ x ∈ xs.take n, ∃ cs, x.cells? = some cs ∧ cs.length = sz' := fun x hxm => by
            rw [List.all_eq_true] at hall
            have := hall x.cells? (List.mem_map.2 ⟨x, hxm, rfl⟩)
            cases hc : x.cells? with
            | none => simp [hc] at this
            | some cs => simp [hc] at this; exact ⟨cs, rfl, this⟩
          have hflat := ER.flat (her.take n) hall'
          obtain ⟨vs, g1, g2⟩ := (CR.at s hflat).load (P := P)
          have hlen : ((xs.take n).flatMap fun x => x.cells?.getD []).length = n * sz' := by
            have : ∀ (l : List AV), (∀ x ∈ l, ∃ cs, x.cells? = some cs ∧ cs.length = sz') → (l.flatMap fun x => x.cells?.getD []).length = l.length * sz' := by
              intro l
              induction l with
              | nil => simp
              | cons x l ih =>
                intro hl
                obtain ⟨cs, h1, h2⟩ := hl x (by simp)
                simp only [List.flatMap_cons, h1, Option.getD_some, List.length_append, ih (fun y hy => hl y (by simp [hy])), h2, List.length_cons, Nat.add_mul]
                omega
            rw [this _ hall']
            rw [List.length_take, Nat.min_eq_left hn]
          rw [hlen] at g1
          refine ⟨vs, by simpa [Builtin.firstCells] using g1, ?_⟩
          rw [List.flatMap_map]; exact g2
      · cases hr
    · cases hr
  · rename_i sz' b ver o len
    split at hr
    · rename_i hc
      obtain ⟨hn, rfl⟩ := hc
      split at hr
      · rename_i ver' cs frz hb
        split at hr
        · rename_i hc'
          obtain ⟨rfl, hle⟩ := hc'
          cases hr
          obtain ⟨B, K, el₀, vs, fz, h1, h2, h3, h4, h5, h6, h7⟩ := blk_at s hb
          unfold VR at hx
          obtain ⟨B', K', cap, g1, rfl, _⟩ := hx
          rw [h1] at g1; cases g1
          obtain ⟨us, e1, e2⟩ := ((h6.drop o).take (n * sz')).load (P := P)
          have hl : ((cs.drop o).take (n * sz')).length = n * sz' := by simp; omega
          rw [hl] at e1
          exact ⟨us, by simpa [Builtin.firstCells] using e1, e2⟩
        · cases hr
      · cases hr
    · cases hr
  · cases hr

theorem cap_bound {need cap : Nat} (h1 : cap < need) (h2 : need ≤ 1073741824) {b : Nat} (hb : b ≤ 65536) : ¬ Builtin.nextslicecap need cap * b > 2 ^ 48 := by
  have h3 : Builtin.nextslicecap need cap ≤ 4294967296 := by
    unfold Builtin.nextslicecap
    split
    · omega
    · split
      · omega
      · have hg : ∀ r c, c ≤ need + 1024 * 1 + need → Builtin.growBy need r c ≤ 2 * need + 1024 + need + 1024 := by
          intro r
          induction r with
          | zero => intro c hc; simp [Builtin.growBy]; omega
          | succ r ih =>
            intro c hc
            simp only [Builtin.growBy]
            split
            · omega
            · exact ih _ (by omega)
        have := hg 4 cap (by omega)
        omega
  have : Builtin.nextslicecap need cap * b ≤ 4294967296 * 65536 := Nat.mul_le_mul h3 hb
  have e : (2 : Nat) ^ 48 = 4294967296 * 65536 := by decide
  omega

theorem not_int {d : TypeDesc} (h : ∀ k, d ≠ .int k) : (match d with | .int _ => true | _ => false) = false := by
  cases d <;> first | rfl | exact absurd rfl (h _)

theorem run_typeInfo' {t : TypeId} {i : TypeInfo} (h : P.info? t = some i) (w : World) : (typeInfo t).run P w = .ok i w := by simp [typeInfo, h]

/-- An append into a new block. -/
theorem append_grow {t u e ty : TypeId} {du : TypeDesc} {d : TI} (ht : P.underlying t = some (.slice e)) (hu : P.underlying u = some du) (hui : ∀ k, du ≠ .int k) (hd : ti P e = some d) {p : Option Addr} {len cap n : Nat} {b : Value} {os us : List Value}
    (hl : (Builtin.lenOf b).run P w = .ok n w) (ho : (Builtin.firstCells d.size len (.slice p len cap)).run P w.drew = .ok os.toArray w.drew) (hf : (Builtin.firstCells d.size n b).run P w.drew = .ok us.toArray w.drew)
    (hb : d.bytes ≤ 65536) (hlt : cap < len + n) (hbd : len + n ≤ 1073741824) :
    ∃ (nc : Nat) (zs : Array Value), len + n ≤ nc ∧ zs.size = (nc - (len + n)) * d.zero.length ∧ (Builtin.append_ #[t, u] ty #[.slice p len cap, b]).run P w = .ok (.slice (some ⟨w.heap.size, 0, none⟩) (len + n) nc) (w.drew.alloc (.cells (os.toArray ++ (us.toArray ++ zs)) e)) := by
  obtain ⟨ts1, i, z, ts2, ts3, ts4, ts5, ts6⟩ := ti_spec hd
  have hm0 := not_int hui
  have hnc := cap_bound hlt hbd hb
  rw [← ts4] at hnc
  have hnc' : ¬ 281474976710656 < Builtin.nextslicecap (len + n) cap * i.bytes := by
    have : (2 : Nat) ^ 48 = 281474976710656 := by decide
    omega
  have hq : (Question.appendCap (len + n) cap e).forced = false := rfl
  have hzr : (zeroValue e).run P w.drew = .ok z w.drew := by simp [zeroValue, typeInfo, ts2, ts5]
  have hneed : ¬ (len + n ≤ cap) := by omega
  have hneed2 : ¬ ((9223372036854775807 : Int) < (len : Int) + (n : Int) ∧ i.bytes = 0) := by omega
  have hzl : z.cells.size = d.zero.length := by
    have := (ofVs_sound (S := fun _ _ => none) (m := fun _ _ => none) ts6).length
    simpa using this.symm
  refine ⟨(Question.appendCap (len + n) cap e).cut (w.tape w.drawn (Question.appendCap (len + n) cap e)), Builtin.zeroCells z.cells ((Question.appendCap (len + n) cap e).cut (w.tape w.drawn (Question.appendCap (len + n) cap e)) - (len + n)), by simp [Question.cut], by simp [Builtin.zeroCells, hzl], ?_⟩
  simp [Builtin.append_, run_underlying' ht, run_underlying' hu, run_sizeOf' hd, hm0, hl, hneed, run_typeInfo' ts2, hneed2, hnc', hq, ho, hf, hzr, newRow]

/-- An append within the room. -/
theorem append_room {t u e ty : TypeId} {du : TypeDesc} {d : TI} (ht : P.underlying t = some (.slice e)) (hu : P.underlying u = some du) (hui : ∀ k, du ≠ .int k) (hd : ti P e = some d) {p : Option Addr} {len cap n : Nat} {b : Value} {us : List Value} {w' : World}
    (hl : (Builtin.lenOf b).run P w = .ok n w) (hf : (Builtin.firstCells d.size n b).run P w = .ok us.toArray w) (hle : len + n ≤ cap)
    (hst : (match p with | some a => storeCells (a.add (len * d.size)) us | none => pure ()).run P w = .ok () w') :
    (Builtin.append_ #[t, u] ty #[.slice p len cap, b]).run P w = .ok (.slice p (len + n) cap) w' := by
  have hm0 := not_int hui
  cases p with
  | none =>
    simp at hst; subst hst
    simp [Builtin.append_, run_underlying' ht, run_underlying' hu, run_sizeOf' hd, hm0, hl, hle, hf]
  | some a =>
    simp at hst
    simp [Builtin.append_, run_underlying' ht, run_underlying' hu, run_sizeOf' hd, hm0, hl, hle, hf, hst]

theorem first_length {x : AV} {sz n L : Nat} {ys : List AV} (hr : firstA h sz n x = some ys) (hL : lenA x = some L) (hn : n ≤ L) : ys.length = n * sz := by
  unfold firstA at hr
  split at hr
  · rename_i l
    simp only [lenA, Option.some.injEq] at hL
    split at hr
    · rename_i e; subst e
      cases hr; simp; omega
    · cases hr
  · rename_i sz' xs c0
    split at hr
    · rename_i hc
      obtain ⟨hn, hsz⟩ := hc
      simp only at hr
      split at hr
      · rename_i hall
        cases hr
        have hall' : ∀ x ∈ xs.take n, ∃ cs, x.cells? = some cs ∧ cs.length = sz := fun x hxm => by
          rw [List.all_eq_true] at hall
          have := hall x.cells? (List.mem_map.2 ⟨x, hxm, rfl⟩)
          cases hc : x.cells? with
          | none => simp [hc] at this
          | some cs => simp [hc] at this; exact ⟨cs, rfl, this⟩
        have : ∀ (l : List AV), (∀ x ∈ l, ∃ cs, x.cells? = some cs ∧ cs.length = sz) → (l.flatMap fun x => x.cells?.getD []).length = l.length * sz := by
          intro l
          induction l with
          | nil => simp
          | cons x l ih =>
            intro hl
            obtain ⟨cs, h1, h2⟩ := hl x (by simp)
            simp only [List.flatMap_cons, h1, Option.getD_some, List.length_append, ih (fun y hy => hl y (by simp [hy])), h2, List.length_cons, Nat.add_mul]
            omega
        rw [List.flatMap_map, this _ hall', List.length_take, Nat.min_eq_left hn]
      · cases hr
    · cases hr
  · split at hr
    · split at hr
      · split at hr
        · rename_i hc
          cases hr; simp; omega
        · cases hr
      · cases hr
    · cases hr
  · cases hr

theorem append_sound (s : Sim n₀ w₀ S₀ S m h w) {t u e ty : TypeId} {du : TypeDesc} (ht : P.underlying t = some (.slice e)) (hu : P.underlying u = some du) (hui : ∀ k, du ≠ .int k) {x y r : AV} {a b : Value} {oh : Option AHeap}
    (hr : appendA P h e x y = some (r, oh)) (hx : VR S m x a) (hy : VR S m y b) :
    ∃ v w' m', (Builtin.append_ #[t, u] ty #[a, b]).run P w = .ok v w' ∧ m.le m' ∧ VR S m' r v ∧ Sim n₀ w₀ S₀ S m' (oh.getD h) w' := by
  have sd : Sim n₀ w₀ S₀ S m h w.drew := s.heap rfl ⟨rfl, rfl, rfl⟩
  unfold appendA at hr
  split at hr
  · rename_i d n hd hn
    split at hr
    · cases hr
    · rename_i hbz
      have hbytes : d.bytes ≤ 65536 := by omega
      have hsz0 : d.size ≠ 0 := by omega
      split at hr
      · cases hr
      · rename_i ys hys
        split at hr
        · cases hr
        · rename_i hsc
          have hsc' : ys.all AV.scal = true := by simpa using hsc
          obtain ⟨us, f1, f2⟩ := first_sound (P := P) s hys hy
          obtain ⟨us', f1', f2'⟩ := first_sound (P := P) sd hys hy
          have hl := len_sound (P := P) (w := w) hn hy
          split at hr
          · rename_i sz xs
            have hx0 := hx
            unfold VR at hx
            obtain ⟨p, cap, rfl, g1, g2, g3⟩ := hx
            have hcap := (g2 rfl).1
            subst hcap
            split at hr
            · rename_i hn0
              subst hn0
              cases hr
              have hys0 : ys = [] := by
                unfold firstA at hys
                cases y <;> simp only [lenA] at hn hys <;> first | (cases hn; done) | skip
                all_goals
                  (repeat' split at hys) <;> first | (cases hys; done) | (simp at hys; exact hys) | (simp at hys; exact hys.2) | (simp at hys; exact hys.symm)
              subst hys0
              have hus : us = [] := by unfold VRs at f2; exact f2
              subst hus
              refine ⟨.slice p (xs.length + 0) xs.length, w, m, append_room ht hu hui hd hl f1 (by omega) ?_, BM.le_refl _, hx0, s⟩
              cases p <;> simp [storeCells]
            · rename_i hn0
              split at hr
              · rename_i old hold
                split at hr
                · rename_i hbd
                  obtain ⟨hbd, hos⟩ := hbd
                  cases hr
                  obtain ⟨os, o1, o2⟩ := first_sound (P := P) sd hold hx0
                  obtain ⟨nc, zs, q1, q2, q3⟩ := append_grow (ty := ty) ht hu hui hd hl o1 f1' hbytes (by omega) hbd
                  have hzl : d.zero.length = d.size := by omega
                  have hl1 := first_length hold (L := xs.length) rfl (Nat.le_refl _)
                  have hl2 := first_length hys hn (Nat.le_refl _)
                  have hv : VRs S m (old ++ ys) ((os.toArray ++ (us'.toArray ++ zs)).toList.take (old ++ ys).length) := by
                    have := o2.append f2'
                    have e : (os.toArray ++ (us'.toArray ++ zs)).toList.take (old ++ ys).length = os ++ us' := by
                      rw [List.length_append, o2.length, f2'.length]
                      simp [List.take_append, ← List.append_assoc]
                    rw [e]; exact this
                  obtain ⟨k1, k2⟩ := sd.alloc (os.toArray ++ (us'.toArray ++ zs)) e (0, 0) (old ++ ys) (el' := some e) (fun e' he => by cases he; exact ⟨rfl, .inl rfl⟩) hv (by simp)
                  refine ⟨_, _, _, q3, k1, ?_, k2⟩
                  unfold VR
                  refine ⟨_, _, nc, BM.put_eq _ _ _ _, rfl, q1, ?_⟩
                  simp only [Array.size_append, List.size_toArray, ← o2.length, ← f2'.length, hl1, hl2, q2, hzl]
                  have : nc * d.size = xs.length * d.size + (n * d.size + (nc - (xs.length + n)) * d.size) := by
                    rw [← Nat.add_mul, ← Nat.add_mul]; congr 1; omega
                  omega
                · cases hr
              · cases hr
          · rename_i sz b' ver o len
            split at hr
            · rename_i ver' el cs frz hb
              split at hr
              · rename_i hc
                obtain ⟨hel, rfl, rfl, rfl, c1, c2, c3, c4⟩ := hc
                have hx0 := hx
                unfold VR at hx
                obtain ⟨B, K, cap, g1, rfl, g2, g3⟩ := hx
                obtain ⟨B', K', el₀, vs, fz, e1, e2, e3, e4, e5, e6, e7⟩ := blk_at s hb
                rw [g1] at e1; cases e1
                have hl2 := first_length hys hn (Nat.le_refl _)
                split at hr
                · rename_i hn0
                  subst hn0
                  cases hr
                  have hys0 : ys = [] := List.eq_nil_of_length_eq_zero (by omega)
                  subst hys0
                  have hus : us = [] := by unfold VRs at f2; exact f2
                  subst hus
                  exact ⟨_, w, m, append_room ht hu hui hd hl f1 (by omega) (by simp [storeCells]), BM.le_refl _, hx0, s⟩
                · rename_i hn0
                  cases hr
                  by_cases hroom : len + n ≤ cap
                  · have hst := storeCells_sound P B (len * d.size) _ fz us 0 vs w e2 (fun j hj => e7 _ (by omega) (by
                      have : (len + n) * d.size ≤ cap * d.size := Nat.mul_le_mul_right _ hroom
                      rw [Nat.add_mul] at this
                      have := f2.length; omega)) (by
                      have : (len + n) * d.size ≤ cap * d.size := Nat.mul_le_mul_right _ hroom
                      rw [Nat.add_mul] at this
                      have := f2.length; omega) (scals_one hsc' f2)
                    have hadd : (⟨B, 0, none⟩ : Addr).add (len * d.size) = ⟨B, len * d.size, none⟩ := by rw [add_off]; simp
                    have hrow : ∀ (n₁ : Nat), n₁ = len * d.size + us.length → VRs S m (cs ++ ys) ((vs.toList.take (len * d.size + 0) ++ us ++ vs.toList.drop (len * d.size + 0 + us.length)).toArray.toList.take (cs ++ ys).length) := fun n₁ _ => by
                      have := e5.append f2
                      have e : (vs.toList.take (len * d.size + 0) ++ us ++ vs.toList.drop (len * d.size + 0 + us.length)).toArray.toList.take (cs ++ ys).length = vs.toList.take cs.length ++ us := by
                        rw [Nat.add_zero, c1]
                        simp only [List.append_assoc]
                        rw [List.length_append, f2.length]
                        have hl0 : (vs.toList.take cs.length).length = cs.length := by simp; omega
                        conv => lhs; rw [← List.append_assoc, List.take_append_of_le_length (by rw [List.length_append, hl0]; exact Nat.le_refl _)]
                        rw [List.take_of_length_le (by rw [List.length_append, hl0]; exact Nat.le_refl _)]
                      rw [e]; exact this
                    have hsz : (vs.toList.take (len * d.size + 0) ++ us ++ vs.toList.drop (len * d.size + 0 + us.length)).toArray.size = vs.size := by
                      have : (len + n) * d.size ≤ cap * d.size := Nat.mul_le_mul_right _ hroom
                      rw [Nat.add_mul] at this
                      have := f2.length
                      simp; omega
                    obtain ⟨k1, k2⟩ := s.write hb g1 e2 hsz (hrow _ rfl) (ver' := ver' + 1) (Nat.le_succ _)
                    refine ⟨_, _, _, append_room (ty := ty) ht hu hui hd hl f1 hroom (p := some ⟨B, 0, none⟩) (by simp only [hadd]; exact hst), k1, ?_, k2⟩
                    unfold VR
                    exact ⟨B, K, cap, BM.put_eq _ _ _ _, rfl, hroom, g3⟩
                  · have hold : firstA h d.size len (.sl d.size b' ver' 0 len) = some cs := by
                      simp only [firstA, Nat.le_refl, true_and, and_self, if_true, hb, Nat.zero_add, c1, List.drop_zero, List.take_length]
                    obtain ⟨os, o1, o2⟩ := first_sound (P := P) sd hold hx0
                    obtain ⟨nc, zs, q1, q2, q3⟩ := append_grow (ty := ty) ht hu hui hd hl o1 f1' hbytes (by omega) c3
                    have hzl : d.zero.length = d.size := by omega
                    have hv : VRs S m (cs ++ ys) ((os.toArray ++ (us'.toArray ++ zs)).toList.take (cs ++ ys).length) := by
                      have := o2.append f2'
                      have e : (os.toArray ++ (us'.toArray ++ zs)).toList.take (cs ++ ys).length = os ++ us' := by
                        rw [List.length_append, o2.length, f2'.length]
                        simp [List.take_append, ← List.append_assoc]
                      rw [e]; exact this
                    obtain ⟨k1, k2⟩ := sd.move (el := e) (fun e' he => by rcases hel with h' | h' <;> rw [h'] at he <;> cases he; rfl) hb (vs' := os.toArray ++ (us'.toArray ++ zs)) hv
                    refine ⟨_, _, _, q3, k1, ?_, k2⟩
                    unfold VR
                    refine ⟨_, _, nc, BM.put_eq _ _ _ _, rfl, q1, ?_⟩
                    simp only [Array.size_append, List.size_toArray, ← o2.length, ← f2'.length, ← c1, hl2, q2, hzl]
                    have : nc * d.size = len * d.size + (n * d.size + (nc - (len + n)) * d.size) := by
                      rw [← Nat.add_mul, ← Nat.add_mul]; congr 1; omega
                    omega
              · cases hr
            · cases hr
          · cases hr
  · cases hr
end
end Go.Abs
