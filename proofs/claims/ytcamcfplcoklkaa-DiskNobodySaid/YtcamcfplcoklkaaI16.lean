import Derived.Test.YtcamcfplcoklkaaI15
namespace Go.Proofs.Ytcamcfplcoklkaa.Iv
open Go
section
variable {P : Program} {K B : Nat → Prop} {w : World} {S : Nat → Prop} {m : Map} {H : Heap}
set_option linter.unusedVariables false
set_option linter.unusedSimpArgs false

theorem toBytes_cells : ∀ {cs : List V} {l : List UInt8} {xs : List Value}, toBytes cs = some l → All2 (CellR w S m true) cs xs → ∃ ns : List Int, xs = ns.map (Value.int .u8) ∧ l = ns.map (fun n => UInt8.ofNat n.toNat)
  | [], l, [], he, _ => by simp [toBytes] at he; subst he; exact ⟨[], rfl, rfl⟩
  | [], _, _ :: _, _, h => h.elim
  | _ :: _, _, [], _, h => h.elim
  | c :: cs, l, x :: xs, he, h => by
    unfold toBytes at he
    split at he
    · rename_i e; cases e
    · rename_i n r e
      cases e
      split at he
      · rename_i l' hl
        cases he
        obtain ⟨ns, e1, e2⟩ := toBytes_cells hl h.2
        have hx := h.1.2.1.int_inv
        exact ⟨n :: ns, by simp [hx, e1], by simp [e2]⟩
      · cases he
    · cases he
theorem foldl_push (ns : List Int) : ∀ s : ByteArray, ns.foldl (fun r n => r.push (UInt8.ofNat n.toNat)) s = ⟨s.data ++ (ns.map (fun n => UInt8.ofNat n.toNat)).toArray⟩ := by
  induction ns with
  | nil => intro s; simp
  | cons n ns ih =>
    intro s
    simp only [List.foldl_cons, ih, List.map_cons]
    congr 1
    apply Array.ext'
    simp [ByteArray.push]

theorem bytes_flat : ∀ l : List UInt8, (l.map fun b => [V.int .u8 b.toNat]).flatten = l.map fun b => V.int .u8 b.toNat
  | [] => rfl
  | b :: l => by simp [bytes_flat l]
theorem convert_sound (h : SR w S K m H) {s t : Nat} {a : V} {out : Out} (he : evConvert P H s t a = some out) {x : Value} (hx : VR w S B m a x) : Sound P K B w S m H out (convert s t x) := by
  unfold evConvert at he
  split at he
  · rename_i e hs ht
    split at he
    · rename_i hu8
      split at he
      · rename_i cs k fl rd hsrc0
        split at he
        · rename_i l hb
          cases he
          have hsrc : src H 1 a = some (cs, k, fl, rd) ∧ ∀ s, a ≠ .str s := by
            unfold srcS at hsrc0
            split at hsrc0
            · cases hsrc0
            · rename_i q; exact ⟨hsrc0, fun s e => q s e⟩
          obtain ⟨hsrc, hns⟩ := hsrc
          obtain ⟨news, h2, q1, q2, hcl⟩ := src_sound (P := P) h hsrc hx
          have q3 := q2 w rfl k (Nat.le_refl _)
          rw [List.take_of_length_le (by rw [h2.len, hcl]; exact Nat.le_refl _)] at q3
          -- bytes are plain whatever block they lie in
          have h3 : All2 (CellR w S m true) cs news := by
            have : ∀ {cs : List V} {l : List UInt8}, toBytes cs = some l → ∀ c ∈ cs, ∃ n, c = .int .u8 n := by
              intro cs
              induction cs with
              | nil => intro l _ c hc; cases hc
              | cons c cs ih =>
                intro l e c' hc
                unfold toBytes at e
                split at e
                · rename_i q; cases q
                · rename_i n r q
                  cases q
                  split at e
                  · rename_i l' hl
                    rcases List.mem_cons.1 hc with rfl | hc
                    · exact ⟨n, rfl⟩
                    · exact ih hl c' hc
                  · cases e
                · cases e
            refine h2.imp' (fun c x hc r => ⟨r.1, r.2.1, fun _ => ?_⟩)
            obtain ⟨n, rfl⟩ := this hb c hc
            exact r.2.1.plain rfl
          obtain ⟨ns, e1, e2⟩ := toBytes_cells hb h3
          have hxs : ∃ a' n cap, x = .slice a' n cap := by
            unfold src at hsrc
            split at hsrc
            · obtain ⟨a', cap, e, _⟩ := hx.sl_shape; exact ⟨_, _, _, e⟩
            · obtain ⟨_, cap, a', _, e, _⟩ := hx.list_inv; exact ⟨_, _, _, e⟩
            · exact ⟨_, _, _, hx.nils_inv⟩
            · obtain ⟨a', e⟩ := hx.emp_inv; exact ⟨_, _, _, e⟩
            · exact absurd rfl (hns _)
            · cases hsrc
          obtain ⟨a0, n0, cap0, rfl⟩ := hxs
          have hn : n0 = k := by simp [Builtin.lenOf] at q1; exact q1
          subst hn
          refine Sound.pure h (x := .string ⟨l.toArray⟩) ?_ (.fr (.str _))
          rw [run_convert_bytes_string w s t e a0 n0 cap0 hs hu8 ht]
          cases a0 with
          | none =>
            simp only [Builtin.firstCells, Sem.run_pure, Result.ok.injEq, and_true] at q3
            have : news = [] := by simpa using q3.symm
            subst this
            have : ns = [] := by simpa using e1.symm
            subst this
            simp only [List.map_nil] at e2
            subst e2
            rfl
          | some a0 =>
            simp only [Builtin.firstCells, Nat.mul_one] at q3
            rw [e1] at q3
            rw [run_bytesToString w a0 n0 cap0 ns q3, foldl_push, e2]
            have e3 : ByteArray.empty.data ++ (ns.map fun n => UInt8.ofNat n.toNat).toArray = (ns.map fun n => UInt8.ofNat n.toNat).toArray := by
              show (#[] : Array UInt8) ++ _ = _
              simp
            rw [e3]
        · cases he
      · cases he
    · cases he
  · rename_i u k hs ht
    split at he
    · cases he
      have := hx.int_inv; subst this
      exact Sound.pure h (x := .int k (k.wrap _)) (by simp [convert, run_underlying hs, run_underlying ht, Conv.intToInt]) .i
    · cases he
  · rename_i u hs ht
    split at he
    · rename_i l
      cases he
      have := hx.str_inv; subst this
      exact Sound.pure h (x := .string ⟨l.toArray⟩) (by simp [convert, run_underlying hs, run_underlying ht]) (.fr (.str _))
    · cases he
  · rename_i u e hs ht
    split at he
    · rename_i l
      split at he
      · rename_i hu8
        split at he
        · rename_i sz z hsz hz
          cases he
          have := hx.str_inv; subst this
          have hrun := Lib.run_convert_string_bytes (P := P) w s t e ⟨l.toArray⟩ hs ht hu8
          have hbs : (⟨l.toArray⟩ : ByteArray).size = l.length := rfl
          have hold : ∀ k, k < w.heap.size → (Lib.bytesWorld w e ⟨l.toArray⟩).heap[k]? = w.heap[k]? := fun k hk => Lib.bytesWorld_at_old w e _ k hk
          have hS : ∀ rb, S rb → rb < w.heap.size := h.sub
          have st : Step K w S m (Lib.bytesWorld w e ⟨l.toArray⟩) (fun r => S r ∨ r = w.heap.size) m :=
            ⟨by unfold Lib.bytesWorld World.freeze; simp [World.alloc, World.drew, -World.alloc_eq, -World.drew_eq], by unfold Lib.bytesWorld World.freeze; simp [World.alloc, World.drew, -World.alloc_eq, -World.drew_eq],
              by unfold Lib.bytesWorld World.freeze; simp [World.alloc, World.drew, -World.alloc_eq, -World.drew_eq], by rw [Lib.bytesWorld_size]; omega, fun rb hb => .inl hb, fun rb hb => hb.elim .inl (fun e => .inr (fun hk => by have := h.kin rb hk; omega)), fun rb hb => hold rb (hb.elim (h.sub rb) (h.kin rb)), fun i im hm => ⟨im, hm, Nat.le_refl _, fun _ => rfl⟩, ⟨by rw [Lib.bytesWorld_size]; omega, fun k o hk _ => by
                rw [hold k (Array.getElem?_eq_some_iff.1 hk).1]; exact hk⟩⟩
          refine ⟨_, _, _, m, hrun, st, ⟨fun rb hb => (by rw [Lib.bytesWorld_size]; exact hb.elim (fun q => Nat.lt_succ_of_lt (h.sub rb q)) (fun q => q ▸ Nat.lt_succ_self _)), fun rb hb => (by rw [Lib.bytesWorld_size]; exact Nat.lt_succ_of_lt (h.kin rb hb)), fun i b hi => ?_, h.non, h.inj, h.own, fun rb hb => hb.elim (fun q => by rw [hold rb (h.sub rb q)]; exact h.scel rb q) (fun e => by subst e; exact ⟨_, Lib.bytesWorld_at_new w _ _, rfl⟩)⟩, ?_⟩
          · obtain ⟨im, hm, ok⟩ := h.blk i b hi
            exact ⟨im, hm, ok.mono st (hold _ ok.lt) (fun hf hs => hs.elim (ok.thaw hf) (fun e => by have := ok.lt; omega))⟩
          · have hgc := grownCap_ge w (⟨l.toArray⟩ : ByteArray).size 0 e
            have key := VR.list_mk (w := Lib.bytesWorld w e ⟨l.toArray⟩) (S := fun r => S r ∨ r = w.heap.size) (B := B) (m := m) (l := false) (xs := l.map fun b => [V.int .u8 b.toNat]) 1 (grownCap w (⟨l.toArray⟩ : ByteArray).size 0 e) (some ⟨w.heap.size, 0, none⟩)
              (fun j => .int .u8 (l.getD j 0).toNat) (by rw [List.length_map]; rw [hbs] at hgc; exact hgc) (fun x hx => by obtain ⟨b, _, rfl⟩ := List.mem_map.1 hx; rfl)
              (fun _ => ⟨w.heap.size, 0, rfl, .inl (.inr rfl), fun j hj => by
                have hj' : j < l.length := by
                  rw [flatten_len 1 _ (fun x hx => by obtain ⟨b, _, rfl⟩ := List.mem_map.1 hx; rfl)] at hj; simpa using hj
                have := Lib.bytesWorld_cell w e ⟨l.toArray⟩ j hj'
                simpa using this⟩)
              (fun j c hj => by
                rw [bytes_flat, List.getElem?_map] at hj
                cases hb : l[j]? with
                | none => rw [hb] at hj; cases hj
                | some b =>
                  rw [hb] at hj; cases hj
                  simp only [List.getD, hb, Option.getD_some]
                  exact .int _ _)
            rw [List.length_map] at key
            exact key
        · cases he
      · cases he
    · cases he
  · cases he
end
end Go.Proofs.Ytcamcfplcoklkaa.Iv
