/- A clock: Hold. -/
import Derived.Test.YtdndljbagjfkkaaCk4
namespace Go.Proofs.Ytdndljbagjfkkaa
open Go.RowKit Go.Lib

section
variable {w w' : World} {X XH Y : Nat → Prop} {c : Nat} {L : List Int} {n : Nat} {T : ByteArray → Option Int} {mv mp v : Value} {nb : Nat} {f : Nat → Nat} {nm : Nat → ByteArray} {tm : Nat → Int} {N : ByteArray → Option Nat}
set_option maxRecDepth 100000 in
theorem Hold_bad (h : Ck w X c L n T) (s : ByteArray) (t : Int) (ht : isTime t = false) : Calls Try.prog 15 #[.pointer (some ⟨c, 0, none⟩), .string s, .int .i64 t] w fun e w' => e = .returned (.int .i64 2) ∧ w = w' := by
  have HT := Lib.hid (there_any h)
  have htm := time_any t
  rw [ht] at htm
  have HTM := Lib.hid htm
  clear h htm ht
  go_enter Try.func15, Try.ntmps15
  go_wp2_with (first
    | (go_at_call 34; (with_reducible refine HT.out.mono ?_); rintro e wn ⟨rfl, rfl⟩)
    | (go_at_call 37; (with_reducible refine (HTM.out _).mono ?_); rintro e wn ⟨rfl, rfl⟩))
  go_ret
  exact ⟨rfl, rfl⟩
/-- The heap ahead of one more. -/
theorem Hs.named (h : Hs w XH c mv mp v n f nm tm) {b : Nat} (hb : ∀ k, k < n → f k ≠ b) (s : ByteArray) (t : Int) : Hs w XH c mv mp v n f (updF nm b s) (updF tm b t) :=
  ⟨h.blk, h.own, fun k hk => by rw [updF_ne nm s (hb k hk), updF_ne tm t (hb k hk)]; exact h.ent k hk, h.inj, h.xc, h.xv, h.xf⟩
theorem hlt_named {b : Nat} {x y : Nat} (hx : x ≠ b) (hy : y ≠ b) (s : ByteArray) (t : Int) : hlt (updF nm b s) (updF tm b t) x y ↔ hlt nm tm x y := by
  unfold hlt
  rw [updF_ne nm s hx, updF_ne tm t hx, updF_ne nm s hy, updF_ne tm t hy]
theorem heap_named (h : Hp.Heap (hlt nm tm) n f) {b : Nat} (hb : ∀ k, k < n → f k ≠ b) (s : ByteArray) (t : Int) : Hp.Heap (hlt (updF nm b s) (updF tm b t)) n f := fun k h0 h1 => by
  unfold Hp.ok
  rw [hlt_named (hb k h1) (hb _ (by omega))]
  exact h k h0 h1
/-- What holding a new name leaves. -/
theorem CkS.held {w2 w3 : World} {v' : Value} {f' : Nat → Nat} {s : ByteArray} {t : Int} (h : CkS w X XH c L n T mv v nb f nm tm N) (b : Nat) (hb : w.heap.size = b) (hT : T s = none)
    (hg2 : (w.alloc (.cells #[.string s, .int .i64 t, .int .i64 0] 82)).grownBy w2 (some nb)) (hm2 : Nm w2 nb (n + 1) (updN N s (some b)))
    (hh : Hs w3 (Xt (fun k => XH k ∨ k = b) w2 w3) c mv (.map (some nb)) v' (n + 1) f' (updF nm b s) (updF tm b t)) (hS : Hp.Same (n + 1) (pu f n b) f') (hH : Hp.Heap (hlt (updF nm b s) (updF tm b t)) (n + 1) f')
    (ho : Only (fun k => XH k ∨ k = b) w2 w3) :
    CkS w3 (Xt X w w3) (Xt (fun k => XH k ∨ k = b) w2 w3) c L (n + 1) (updT T s (some t)) mv v' nb f' (updF nm b s) (updF tm b t) (updN N s (some b)) ∧ Only X w w3 := by
  have hs1 : (w.alloc (.cells #[.string s, .int .i64 t, .int .i64 0] 82)).heap.size = b + 1 := by rw [← hb]; simp
  have hs2 : b + 1 ≤ w2.heap.size := by have := hg2.size; omega
  have hs3 := ho.size
  have hN := (h.none_iff s).1 hT
  have hfb : ∀ k, k < n → f k ≠ b := fun k hk e => by have := (h.hs.ent k hk).lt; omega
  have hO2 : Only (fun k => k = nb) w w2 := (Only.of_below (X := fun k => k = nb) (below_alloc w _)).then (Only.of_grown hg2 (fun b e => by cases e; exact .inl rfl))
  have hO : Only X w w3 := (hO2.wide (fun k e => by subst e; exact .inl h.px)).trans ho (fun k hk => by rcases hk with h1 | h1; exact .inl (h.sub k h1); exact .inr (by omega))
  have hxb : ∀ k, X k → k < b := fun k hk => by have := h.xl k hk; omega
  refine ⟨⟨hh, fun k hk => ?_, fun r e hk => ?_, fun hk => ?_, hH, own_only (own_only h.mks hO2 (fun r e e2 => by subst e2; exact h.mp.ne_own h.mks e)) ho (fun r e hk => ?_), fun r e => .inl (h.mx r e), ?_, .inl h.px, fun u x => ?_, fun u x => ?_, h.ln, h.lm, fun k hk => ?_⟩, hO⟩
  · rcases hk with (h1 | h1) | ⟨h1, h2⟩
    · exact .inl (h.sub k h1)
    · exact .inr ⟨by omega, by omega⟩
    · exact .inr ⟨by omega, h2⟩
  · have hr := hxb r (h.mx r e)
    rcases hk with (h1 | h1) | ⟨h1, h2⟩
    · exact h.mh r e h1
    · omega
    · omega
  · have hr := hxb nb h.px
    rcases hk with (h1 | h1) | ⟨h1, h2⟩
    · exact h.ph h1
    · omega
    · omega
  · have hr := hxb r (h.mx r e)
    rcases hk with h1 | h1
    · exact h.mh r e h1
    · omega
  · refine hm2.only ho (fun hk => ?_)
    have hr := hxb nb h.px
    rcases hk with h1 | h1
    · exact h.ph h1
    · omega
  · by_cases hus : u = s
    · subst hus
      rw [updN_same]
      constructor
      · intro e
        cases e
        obtain ⟨k, hk, e⟩ := hS.fwd n (by omega)
        rw [pu_n] at e
        exact ⟨k, hk, e, updF_same nm b u⟩
      · rintro ⟨k, hk, e1, e2⟩
        obtain ⟨l, hl, e3⟩ := hS.bwd k hk
        by_cases hln : l = n
        · subst hln; rw [pu_n] at e3; rw [e3, e1]
        · rw [pu_k f b (by omega), e1] at e3
          have hxb2 : x ≠ b := by rw [← e3]; exact hfb l (by omega)
          rw [updF_ne nm u hxb2] at e2
          have := (h.nam u x).2 ⟨l, by omega, e3, e2⟩
          rw [hN] at this; cases this
    · rw [updN_ne N _ hus, h.nam u x]
      constructor
      · rintro ⟨l, hl, e1, e2⟩
        obtain ⟨k, hk, e⟩ := hS.fwd l (by omega)
        rw [pu_k f b hl] at e
        exact ⟨k, hk, by rw [e, e1], by rw [updF_ne nm s (by rw [← e1]; exact hfb l hl)]; exact e2⟩
      · rintro ⟨k, hk, e1, e2⟩
        obtain ⟨l, hl, e3⟩ := hS.bwd k hk
        by_cases hln : l = n
        · subst hln
          rw [pu_n, e1] at e3
          rw [← e3, updF_same] at e2
          exact absurd e2.symm hus
        · rw [pu_k f b (by omega), e1] at e3
          rw [updF_ne nm s (by rw [← e3]; exact hfb l (by omega))] at e2
          exact ⟨l, by omega, e3, e2⟩
  · by_cases hus : u = s
    · subst hus
      rw [updT_same]
      constructor
      · intro e
        cases e
        obtain ⟨k, hk, e⟩ := hS.fwd n (by omega)
        rw [pu_n] at e
        exact ⟨k, hk, by rw [e, updF_same], by rw [e, updF_same]⟩
      · rintro ⟨k, hk, e1, e2⟩
        obtain ⟨l, hl, e3⟩ := hS.bwd k hk
        by_cases hln : l = n
        · subst hln; rw [pu_n] at e3; rw [← e3, updF_same] at e2; rw [e2]
        · rw [pu_k f b (by omega)] at e3
          have hb2 := hfb l (by omega)
          rw [← e3, updF_ne nm u hb2] at e1
          have := (h.tms u (tm (f l))).2 ⟨l, by omega, e1, rfl⟩
          rw [hT] at this; cases this
    · rw [updT_ne T _ hus, h.tms u x]
      constructor
      · rintro ⟨l, hl, e1, e2⟩
        obtain ⟨k, hk, e⟩ := hS.fwd l (by omega)
        rw [pu_k f b hl] at e
        exact ⟨k, hk, by rw [e, updF_ne nm s (hfb l hl)]; exact e1, by rw [e, updF_ne tm t (hfb l hl)]; exact e2⟩
      · rintro ⟨k, hk, e1, e2⟩
        obtain ⟨l, hl, e3⟩ := hS.bwd k hk
        by_cases hln : l = n
        · subst hln
          rw [pu_n] at e3
          rw [← e3, updF_same] at e1
          exact absurd e1.symm hus
        · rw [pu_k f b (by omega)] at e3
          rw [← e3, updF_ne nm s (hfb l (by omega))] at e1
          rw [← e3, updF_ne tm t (hfb l (by omega))] at e2
          exact ⟨l, by omega, e1, e2⟩
  · rcases hk with h1 | ⟨h1, h2⟩
    · have := hxb k h1; omega
    · exact h2
set_option maxRecDepth 100000 in
set_option maxHeartbeats 1000000 in
theorem Hold_new_m (h : Ck w X c L n T) (s : ByteArray) (t : Int) (hs : s.size ≤ maxLen) (hT : T s = none) (ht : isTime t = true) (hn : n ≤ 4398046511103) : Calls Try.prog 15 #[.pointer (some ⟨c, 0, none⟩), .string s, .int .i64 t] w fun e w' => e = .returned (.int .i64 0) ∧ Ck w' (Xt X w w') c L (n + 1) (updT T s (some t)) ∧ Only X w w' ∧ w'.cell? ⟨c, 2, none⟩ = w.cell? ⟨c, 2, none⟩ := by
  have HT := Lib.hid (there_any h)
  have htm := time_any t
  rw [ht] at htm
  have HTM := Lib.hid htm
  obtain ⟨XH, mv, v, nb, f, nm, tm, N, hh⟩ := h
  have HCC : Hid (w.cell? ⟨c, 2, none⟩ = some (.map (some nb))) := hh.hs.blk.cell 2
  have x2 : w.cell? ⟨c, 2, none⟩ = some (.map (some nb)) := hh.hs.blk.cell 2
  have hN := (hh.none_iff s).1 hT
  have hl := hh.mp.none_ hs hN
  have HH := Lib.hid hh
  have HN := Lib.hid hN
  have HS := Lib.hid hs
  have HTT := Lib.hid hT
  obtain ⟨w1, hw1⟩ : ∃ w1, w1 = w.alloc (.cells #[.string s, .int .i64 t, .int .i64 0] 82) := ⟨_, rfl⟩
  have hal : Below w.heap.size w w1 := by rw [hw1]; exact below_alloc _ _
  have hb1 : Bk w1 w.heap.size 82 #[.string s, .int .i64 t, .int .i64 0] := by rw [hw1]; exact Bk.new _ _ _
  have hm1 := hh.mp.below hal
  have hh1 := hh.hs.below hal
  obtain ⟨D, hD⟩ := hm1
  have HD := Lib.hid hD
  have HB1 := Lib.hid hb1
  have HH1 := Lib.hid hh1
  have HW1 : Hid (w.alloc (.cells #[.string s, .int .i64 t, .int .i64 0] 82) = w1) := hw1.symm
  have y2 : (w.alloc (.cells #[.string s, .int .i64 t, .int .i64 0] 82)).cell? ⟨c, 2, none⟩ = some (.map (some nb)) := by rw [← hw1]; exact hh1.blk.cell 2
  have hnlt : n < maxLen := by simp only [maxLen]; omega
  have HFB : Hid (∀ k, k < n → f k ≠ w.heap.size) := fun k hk e => by have := (hh.hs.ent k hk).lt; omega
  clear hh hT hN hs htm ht hal hb1 hh1 hD
  go_enter Try.func15, Try.ntmps15
  go_wp2_with (first
    | (go_at_call 34; (with_reducible refine HT.out.mono ?_); rintro e wn ⟨rfl, rfl⟩)
    | (go_at_call 37; (with_reducible refine (HTM.out _).mono ?_); rintro e wn ⟨rfl, rfl⟩)
    | (at_mapUpdate; rw [HW1.out]; refine wpList_mapUpdate_own _ rfl (.tmp 35) (.tmp 36) (.tmp 37) 68 rfl 9 77 kKeyed Try.underlying68 Rh nb n D rfl HD.out.1 hnlt _ _ (kn s) rfl rfl (kn_key HS.out) (.lit (.int .u64 (w.heap.size : Int))) [] rfl ?_; intro w2 ho2 hg2
       have HN2 := Lib.hid (Nm.stored ⟨D, HD.out⟩ HS.out HN.out HD.out ho2)
       have hO2 : Only (fun k => k = nb) w1 w2 := Only.of_grown hg2 (fun b e => by cases e; exact .inl rfl)
       have hb2 := HB1.out.only hO2 (fun e => HD.out.1.lt |> fun _ => Nm.ne ⟨D, HD.out⟩ HB1.out e.symm)
       have hh2 := ((HH1.out.keep hO2 (fun k hk e => by subst e; exact HH.out.ph hk)).wide (Y := fun k => XH k ∨ k = w.heap.size) (fun k hk => .inl hk)).named HFB.out s t
       have z1 : w2.cell? ⟨c, 1, none⟩ = some v := hh2.blk.cell 1
       have hbk : Bk w2 w.heap.size 82 #[.string (updF nm w.heap.size s w.heap.size), .int .i64 (updF tm w.heap.size t w.heap.size), .int .i64 0] := by rw [updF_same, updF_same]; exact hb2
       have HP := Lib.hid (heapPush_any w.heap.size 0 hh2 hbk (.inr rfl) HFB.out hn (heap_named HH.out.hp HFB.out s t))
       rw [← HW1.out] at hg2
       have HG2 := Lib.hid hg2
       clear ho2 hg2 hO2 hb2 hh2 hbk)
    | (go_at_call 39; (with_reducible refine HP.out.mono ?_); rintro e w3 ⟨rfl, ⟨v', f', hh3, hs3, hp3⟩, ho3⟩
       have HH3 := Lib.hid hh3; have HS3 := Lib.hid hs3; have HP3 := Lib.hid hp3; have HO3 := Lib.hid ho3; clear hh3 hs3 hp3 ho3))
  go_ret
  obtain ⟨k1, k2⟩ := HH.out.held _ rfl HTT.out HG2.out HN2.out HH3.out HS3.out HP3.out HO3.out
  exact ⟨rfl, ⟨_, _, _, _, _, _, _, _, k1⟩, k2, by rw [HCC.out]; exact k1.hs.blk.cell 2⟩
theorem Hold_new (h : Ck w X c L n T) (s : ByteArray) (t : Int) (hs : s.size ≤ maxLen) (hT : T s = none) (ht : isTime t = true) (hn : n ≤ 4398046511103) : Calls Try.prog 15 #[.pointer (some ⟨c, 0, none⟩), .string s, .int .i64 t] w fun e w' => e = .returned (.int .i64 0) ∧ Ck w' (Xt X w w') c L (n + 1) (updT T s (some t)) ∧ Only X w w' :=
  (Hold_new_m h s t hs hT ht hn).mono fun _ _ ⟨a, b, c, _⟩ => ⟨a, b, c⟩
/-- The heap where one hold's time has turned. -/
theorem heap_timed (h : Hp.Heap (hlt nm tm) n f) (hi : ∀ k l, k < n → l < n → f k = f l → k = l) {k0 : Nat} (hk0 : k0 < n) (t : Int) : Hp.Fl (hlt nm (updF tm (f k0) t)) n f k0 := by
  have same : ∀ x y, x ≠ f k0 → y ≠ f k0 → (hlt nm (updF tm (f k0) t) x y ↔ hlt nm tm x y) := fun x y hx hy => by
    unfold hlt
    rw [updF_ne tm t hx, updF_ne tm t hy]
  have ne : ∀ k, k < n → k ≠ k0 → f k ≠ f k0 := fun k hk h e => h (hi k k0 hk hk0 e)
  have hfl := h.fl (hlt_ord nm tm) k0
  refine ⟨fun k h0 h1 h2 h3 => ?_, fun k h0 h1 h2 h3 => ?_⟩
  · unfold Hp.ok
    rw [same _ _ (ne k h1 h2) (ne _ (by omega) h3)]
    exact hfl.far k h0 h1 h2 h3
  · rw [same _ _ (ne k h1 (by omega)) (ne _ (by omega) (by omega))]
    exact hfl.kin k h0 h1 h2 h3
/-- What holding a name that holds already leaves. -/
theorem CkS.timed {w3 : World} {k0 : Nat} {f' : Nat → Nat} {s : ByteArray} {t : Int} (h : CkS w X XH c L n T mv v nb f nm tm N) (hk0 : k0 < n) (hs : nm (f k0) = s)
    (hh : Hs w3 XH c mv (.map (some nb)) v n f' nm (updF tm (f k0) t)) (hS : Turned n n f f') (hH : Hp.Heap (hlt nm (updF tm (f k0) t)) n f') (ho : Only XH w w3) :
    CkS w3 X XH c L n (updT T s (some t)) mv v nb f' nm (updF tm (f k0) t) N ∧ Only X w w3 := by
  have hO : Only X w w3 := ho.wide (fun k hk => .inl (h.sub k hk))
  refine ⟨⟨hh, h.sub, h.mh, h.ph, hH, own_only h.mks ho h.mh, h.mx, h.mp.only ho h.ph, h.px, fun u x => ?_, fun u x => ?_, h.ln, h.lm, fun k hk => Nat.lt_of_lt_of_le (h.xl k hk) hO.size⟩, hO⟩
  · rw [h.nam u x]
    constructor
    · rintro ⟨l, hl, e1, e2⟩
      obtain ⟨k, hk, e⟩ := hS.same.fwd l hl
      exact ⟨k, hk, by rw [e, e1], e2⟩
    · rintro ⟨k, hk, e1, e2⟩
      obtain ⟨l, hl, e⟩ := hS.same.bwd k hk
      exact ⟨l, hl, by rw [e, e1], e2⟩
  · by_cases hus : u = s
    · subst hus
      rw [updT_same]
      constructor
      · intro e
        cases e
        obtain ⟨k, hk, e⟩ := hS.same.fwd k0 hk0
        exact ⟨k, hk, by rw [e, hs], by rw [e, updF_same]⟩
      · rintro ⟨k, hk, e1, e2⟩
        obtain ⟨l, hl, e⟩ := hS.same.bwd k hk
        have : l = k0 := h.name_inj hl hk0 (by rw [e, e1, hs])
        subst this
        rw [← e, updF_same] at e2
        rw [e2]
    · rw [updT_ne T _ hus, h.tms u x]
      have ne : ∀ l, nm (f l) = u → f l ≠ f k0 := fun l e1 e2 => hus (by rw [← e1, e2, hs])
      constructor
      · rintro ⟨l, hl, e1, e2⟩
        obtain ⟨k, hk, e⟩ := hS.same.fwd l hl
        exact ⟨k, hk, by rw [e]; exact e1, by rw [e, updF_ne tm t (ne l e1)]; exact e2⟩
      · rintro ⟨k, hk, e1, e2⟩
        obtain ⟨l, hl, e⟩ := hS.same.bwd k hk
        rw [← e] at e1 e2
        rw [updF_ne tm t (ne l e1)] at e2
        exact ⟨l, hl, e1, e2⟩
set_option maxRecDepth 100000 in
set_option maxHeartbeats 1000000 in
theorem Hold_old_m (h : Ck w X c L n T) (s : ByteArray) (t t0 : Int) (hs : s.size ≤ maxLen) (hT : T s = some t0) (ht : isTime t = true) (hn : n ≤ 4398046511104) : Calls Try.prog 15 #[.pointer (some ⟨c, 0, none⟩), .string s, .int .i64 t] w fun e w' => e = .returned (.int .i64 0) ∧ Ck w' X c L n (updT T s (some t)) ∧ Only X w w' ∧ w'.cell? ⟨c, 2, none⟩ = w.cell? ⟨c, 2, none⟩ := by
  have HT := Lib.hid (there_any h)
  have htm := time_any t
  rw [ht] at htm
  have HTM := Lib.hid htm
  obtain ⟨XH, mv, v, nb, f, nm, tm, N, hh⟩ := h
  have HCC : Hid (w.cell? ⟨c, 2, none⟩ = some (.map (some nb))) := hh.hs.blk.cell 2
  have x2 : w.cell? ⟨c, 2, none⟩ = some (.map (some nb)) := hh.hs.blk.cell 2
  obtain ⟨k0, hk0, e1, e2, hN⟩ := hh.some_at hT
  have hl := hh.mp.some_ hs hN
  have hbk := hh.hs.ent k0 hk0
  have x3 : w.cell? ⟨f k0, 1, none⟩ = some (.int .i64 (tm (f k0))) := hbk.cell 1
  have f3 := hbk.frozen 1
  obtain ⟨W1, hW1⟩ : ∃ W1, W1 = w.setCell ⟨f k0, 1, none⟩ (.int .i64 t) := ⟨_, rfl⟩
  have hO1 : Only XH w W1 := by rw [hW1]; exact Only.set ⟨f k0, 1, none⟩ _ (hh.hs.xf k0 hk0) w
  have hh1 : Hs W1 XH c mv (.map (some nb)) v n f nm (updF tm (f k0) t) := by
    rw [hW1]
    refine ⟨hh.hs.blk.far (p := ⟨f k0, 1, none⟩) (hh.hs.blk.ne hbk (by decide)) _, own_set hh.hs.own hbk (by decide) 1 _, fun k hk => ?_, hh.hs.inj, hh.hs.xc, hh.hs.xv, hh.hs.xf⟩
    by_cases hkk : k = k0
    · subst hkk
      rw [updF_same]
      exact hbk.set 1 _
    · have hne : f k ≠ f k0 := fun e => hkk (hh.hs.inj k k0 hk hk0 e)
      rw [updF_ne tm t hne]
      exact (hh.hs.ent k hk).far (p := ⟨f k0, 1, none⟩) hne _
  have y3 : W1.cell? ⟨f k0, 2, none⟩ = some (.int .i64 (k0 : Int)) := (hh1.ent k0 hk0).cell 2
  have HFX := Lib.hid (heapFix_any k0 (hh1.below (below_drew W1)) hk0 hn (heap_timed hh.hp hh.hs.inj hk0 t))
  have HH := Lib.hid hh
  have HE := Lib.hid e1
  have HO1 := Lib.hid (hO1.then (Only.drewN 1 W1))
  have HW1 : Hid (w.setCell ⟨f k0, 1, none⟩ (.int .i64 t) = W1) := hW1.symm
  clear hh hT hN hs htm ht hbk hO1 hh1 hW1 e1 e2
  go_enter Try.func15, Try.ntmps15
  go_wp2_with (first
    | (go_at_call 34; (with_reducible refine HT.out.mono ?_); rintro e wn ⟨rfl, rfl⟩)
    | (go_at_call 37; (with_reducible refine (HTM.out _).mono ?_); rintro e wn ⟨rfl, rfl⟩))
  rw [HW1.out]
  go_region_with
    ((go_at_call 40; (with_reducible refine HFX.out.mono ?_); rintro e w3 ⟨rfl, f', hh3, ho3, ht3, hp3⟩
      have HH3 := Lib.hid hh3; have HO3 := Lib.hid (HO1.out.then ho3); have HT3 := Lib.hid ht3; have HP3 := Lib.hid hp3; clear hh3 ho3 ht3 hp3))
  go_wp2
  go_ret
  obtain ⟨k1, k2⟩ := HH.out.timed hk0 HE.out HH3.out HT3.out HP3.out HO3.out
  exact ⟨rfl, ⟨_, _, _, _, _, _, _, _, k1⟩, k2, by rw [HCC.out]; exact k1.hs.blk.cell 2⟩
theorem Hold_old (h : Ck w X c L n T) (s : ByteArray) (t t0 : Int) (hs : s.size ≤ maxLen) (hT : T s = some t0) (ht : isTime t = true) (hn : n ≤ 4398046511104) : Calls Try.prog 15 #[.pointer (some ⟨c, 0, none⟩), .string s, .int .i64 t] w fun e w' => e = .returned (.int .i64 0) ∧ Ck w' X c L n (updT T s (some t)) ∧ Only X w w' :=
  (Hold_old_m h s t t0 hs hT ht hn).mono fun _ _ ⟨a, b, c, _⟩ => ⟨a, b, c⟩
end
end Go.Proofs.Ytdndljbagjfkkaa
