/- SchemaListReads: walked. -/
import Derived.Test.YtaechgnjdjijkaaRefRAll
import Derived.Test.YtaechgnjdjijkaaKeysK
namespace Go.Proofs.Ytaechgnjdjijkaa
open Go.RowKit Go.Lib

noncomputable def raE (c : Cf) (bs : List UInt8) : Int := if job c then (match rdAll c bs.length bs [] with | none => 290 | some _ => 0) else 4
noncomputable def raL (c : Cf) (bs : List UInt8) : List Kn := if job c then (match rdAll c bs.length bs [] with | none => [] | some l => l) else []
theorem raE_zero {c : Cf} {bs : List UInt8} (h : raE c bs = 0) : job c = true ∧ rdAll c bs.length bs [] = some (raL c bs) := by
  unfold raE at h
  unfold raL
  cases hj : job c with
  | false => rw [hj] at h; simp at h
  | true =>
    rw [hj] at h
    simp only [if_true] at h ⊢
    cases hk : rdAll c bs.length bs [] with
    | none => rw [hk] at h; simp at h
    | some q => exact ⟨trivial, rfl⟩
theorem raL_none {c : Cf} {bs : List UInt8} (h : raE c bs ≠ 0) : raL c bs = [] := by
  unfold raE at h
  unfold raL
  cases hj : job c with
  | false => rfl
  | true =>
    rw [hj] at h
    simp only [if_true] at h ⊢
    cases hk : rdAll c bs.length bs [] with
    | none => rfl
    | some q => rw [hk] at h; simp at h
/-- What ReadAll answers. -/
def ALA (W : World) (z : Int) (L : List Kn) (e : Ending) (w' : World) : Prop := ∃ (A : Option Addr) (n cap : Nat) (M : List Km), e = .returned (.tuple #[.slice A n cap, .int .i64 z]) ∧ M.map Km.k = L ∧ Below W.heap.size W w' ∧ Oks w' W.heap.size (.slice A n cap) n M ∧ Apt M
def BLA (W : World) (z : Int) (L : List Kn) (e : Ending) (w' : World) : Prop := ∃ (A : Option Addr) (n cap : Nat) (M : List Km), e = .returned (.tuple #[.slice A n cap, .int .i64 z]) ∧ M.map Km.k = L ∧ Below W.heap.size W w' ∧ Oks w' W.heap.size (.slice A n cap) n M
theorem Oks.nil (w : World) (B : Nat) : Oks w B (.slice none 0 0) 0 [] := ⟨World.ownsRow_nil _ _ _ _, rfl, by simp⟩
theorem ReadAll_full (c : Cf) (hf : c.Fit) (A : Option Addr) (m cap : Nat) (bs : List UInt8) (W : World) (hr : Rd W (.slice A m cap) m (bc bs)) (hm : bs.length = m) (hmax : m ≤ 8796093022208) :
    Calls Try.prog 30 #[c.val, .slice A m cap] W (ALA W (raE c bs) (raL c bs)) := by
  unfold raE raL
  cases hj : job c with
  | false => exact (ReadAll_job c hf hj (.slice A m cap) W).mono fun e w' ⟨h1, h2⟩ => ⟨none, 0, 0, [], h1, rfl, h2, Oks.nil _ _, Apt.nil⟩
  | true =>
    refine (ReadAll_any c hf hj A m cap bs W hr hm hmax).mono fun e w' ⟨h1, h2⟩ => ?_
    rw [hm]
    cases hk : rdAll c m bs [] with
    | none => rw [hk] at h2; exact ⟨none, 0, 0, [], h2, rfl, h1, Oks.nil _ _, Apt.nil⟩
    | some l => rw [hk] at h2; obtain ⟨A2, c2, M, h3, h4, h5, h6⟩ := h2; exact ⟨A2, M.length, c2, M, h3, h4, h1, h5, h6⟩
theorem refReadAll_full (c : Cf) (hf : c.Fit) (A : Option Addr) (m cap : Nat) (bs : List UInt8) (W : World) (hr : Rd W (.slice A m cap) m (bc bs)) (hm : bs.length = m) (hmax : m ≤ 8796093022208) :
    Calls Try.prog 32 #[c.val, .slice A m cap] W (BLA W (raE c bs) (raL c bs)) := by
  unfold raE raL
  cases hj : job c with
  | false => exact (refReadAll_job c hf hj (.slice A m cap) W).mono fun e w' ⟨h1, h2⟩ => ⟨none, 0, 0, [], h1, rfl, h2, Oks.nil _ _⟩
  | true =>
    refine (refReadAll_any c hf hj A m cap bs W hr hm hmax).mono fun e w' ⟨h1, h2⟩ => ?_
    rw [hm]
    cases hk : rdAll c m bs [] with
    | none => rw [hk] at h2; exact ⟨none, 0, 0, [], h2, rfl, h1, Oks.nil _ _⟩
    | some l => rw [hk] at h2; obtain ⟨A2, c2, M, h3, h4, h5⟩ := h2; exact ⟨A2, M.length, c2, M, h3, h4, h1, h5⟩
theorem Oks.only {X : Nat → Prop} {w w' : World} {B : Nat} {v : Value} {n : Nat} {l : List Km} (h : Oks w B v n l) (ho : Only X w w') (hX : ∀ r, B ≤ r → r < w.heap.size → ¬ X r) : Oks w' B v n l :=
  ⟨own_only h.own ho (fun r hr => hX r (own_lt h.own hr).1 (own_lt h.own hr).2), h.len, fun x hx => own_only (h.each x hx) ho (fun r hr => hX r (own_lt (h.each x hx) hr).1 (own_lt (h.each x hx) hr).2)⟩
/-- The blocks of a row of keys' states. -/
def Xk (v : Value) (l : List Km) (r : Nat) : Prop := v.ownBlock = some r ∨ ∃ x ∈ l, x.win.ownBlock = some r
theorem Xk.lt {w : World} {B : Nat} {v : Value} {n : Nat} {l : List Km} (h : Oks w B v n l) {r : Nat} (hr : Xk v l r) : B ≤ r ∧ r < w.heap.size := by
  rcases hr with hr | ⟨x, hx, hr⟩
  · exact own_lt h.own hr
  · exact own_lt (h.each x hx) hr
theorem Xk.not {w : World} {B : Nat} {v : Value} {n : Nat} {l : List Km} (h : Oks w B v n l) {g : Nat} {t : TypeId} {cs : Array Value} (hb : Bk w g t cs) (h1 : 29 ≠ t) (h2 : 93 ≠ t) : ¬ Xk v l g := by
  rintro (hr | ⟨x, hx, hr⟩)
  · exact own_bk_ne h.own hb h1 hr
  · exact own_bk_ne (h.each x hx) hb h2 hr
theorem Xk.notOwn {w : World} {B B' : Nat} {v v' : Value} {n m : Nat} {l : List Km} {xs : List Value} (h : Oks w B v n l) (ho : w.ownsRow B' 5 1 v' m xs) : ∀ r, v'.ownBlock = some r → ¬ Xk v l r := by
  intro r hr h2
  rcases h2 with h2 | ⟨x, hx, h2⟩
  · rcases own_own_ne ho h.own (by decide) with h3 | h3
    · rw [h3] at hr; cases hr
    · exact h3 (by rw [hr, h2])
  · rcases own_own_ne ho (h.each x hx) (by decide) with h3 | h3
    · rw [h3] at hr; cases hr
    · exact h3 (by rw [hr]; exact h2.symm)
theorem spoilOks {w : World} {B : Nat} {A : Option Addr} {n cap : Nat} {l : List Km} (h : Oks w B (.slice A n cap) n l) (ha : Apt l) (hn : ∀ x ∈ l, 72 * (x.k.ws.length + 2) ≤ 140737488355328) (hB : B ≤ w.heap.size) :
    Calls Try.prog 17 #[.slice A n cap] w fun e w' => e = .returned (.tuple #[]) ∧ Only (Xk (.slice A n cap) l) w w' :=
  spoilKeys_any (Xk (.slice A n cap) l) B A n cap l (kcells l) w h.own h.len (fun i x hx => kcells_at l i x hx 2 _ rfl) (fun x hx => ⟨_, h.each x hx⟩) ha (fun _ hr => .inl hr) (fun x hx _ hr => .inr ⟨x, hx, hr⟩) hB hn
set_option maxRecDepth 100000 in
set_option maxHeartbeats 2000000 in
theorem listReads_any (c : Cf) (hf : c.Fit) (A : Option Addr) (n cap : Nat) (bs : List UInt8) (W : World) (hr : Rd W (.slice A n cap) n (bc bs)) (hl : bs.length = n) (hn : n ≤ 1048576) :
    Calls Try.prog 7 #[c.val, .slice A n cap] W fun e w' => e = .returned (.bool true) ∧ Below W.heap.size W w' := by
  have HKN := Lib.hid known_any
  have HNU := Lib.hid num_any
  have HLB : Hid (∀ w, Below W.heap.size W w → Calls Try.prog 9 #[.slice A n cap] w fun e w' => ∃ v, e = .returned v ∧ Below w.heap.size w w' ∧ Lb w' w.heap.size v n bs) := Lib.hid fun w hb => LendBytes_any A n cap bs w (hr.below hb) hl (by omega)
  have HRD : Hid (∀ (A : Option Addr) (cap : Nat) (w : World), Rd w (.slice A n cap) n (bc bs) → Calls Try.prog 30 #[c.val, .slice A n cap] w (ALA w (raE c bs) (raL c bs))) := Lib.hid fun A cap w h => ReadAll_full c hf A n cap bs w h hl (by omega)
  have HRR : Hid (∀ (w : World), Below W.heap.size W w → Calls Try.prog 32 #[c.val, .slice A n cap] w (BLA w (raE c bs) (raL c bs))) := Lib.hid fun w hb => refReadAll_full c hf A n cap bs w (hr.below hb) hl (by omega)
  have HKB : Hid (∀ (w : World) (B : Nat) (mv : Value), Lb w B mv n bs → Below W.heap.size W w → Calls Try.prog 16 #[mv, .slice A n cap] w fun e w' => e = .returned (.bool true) ∧ Below w.heap.size w w') := Lib.hid fun w B mv h hb => KeptBytes_any mv A n cap bs B w h (hr.below hb) hl (by omega)
  have HFR : Hid (raE c bs = 0 → allB (raL c bs) = bs ∧ upB (c.k == 3) none (raL c bs) = true ∧ (∀ k ∈ raL c bs, k.Fit ∧ 72 * (k.ws.length + 2) ≤ 140737488355328) ∧ kroom (raL c bs) + 200 ≤ 140737488355328) := Lib.hid fun h => by
    obtain ⟨hj, hk⟩ := raE_zero h
    obtain ⟨r, h1, h2, h3, h4, h5⟩ := rdAll_again c _ bs [] _ (Nat.le_refl _) hk
    rw [List.nil_append] at h1
    rw [h1]
    exact ⟨h2, h3, fun k hk => ⟨(h4 k hk).1, by have := (h4 k hk).2; omega⟩, by omega⟩
  have HNX : Hid (∀ k ∈ raL c bs, 72 * (k.ws.length + 2) ≤ 140737488355328) := Lib.hid (by
    by_cases h : raE c bs = 0
    · exact fun k hk => ((HFR.out h).2.2.1 k hk).2
    · rw [raL_none h]; simp)
  have HPU : Hid (raE c bs = 0 → ∀ w A m cap (M : List Km), M.map Km.k = raL c bs → Rks w (.slice A m cap) m M → Calls Try.prog 27 #[c.val, .slice A m cap] w (PutAllAns w true bs)) := Lib.hid fun h w A m cap M hM hk => by
    obtain ⟨h1, h2, h3, h4⟩ := HFR.out h
    have := PutAll_row c hf (raE_zero h).1 A m cap M w hk (fun x hx => (h3 x.k (by rw [← hM]; exact List.mem_map_of_mem hx)).1) (by rw [hM]; exact h4)
    rwa [hM, h1, h2] at this
  have hcap : n ≤ cap ∧ cap ≤ maxLen := by obtain ⟨_, _, hv, h1, h2, _⟩ := hr; cases hv; exact ⟨h1, h2⟩
  unfold maxLen at hcap
  obtain ⟨hcap1, hcap2⟩ := hcap
  have HR := Lib.hid hr
  have HLL := Lib.hid hl
  obtain ⟨z, hz⟩ : ∃ z, raE c bs = z := ⟨_, rfl⟩
  obtain ⟨L, hL⟩ : ∃ L, raL c bs = L := ⟨_, rfl⟩
  rw [hz] at HRD HRR HPU
  rw [hL] at HRD HRR HPU HNX
  clear hz hL HFR hr hl hf
  have HKY : Hid (∀ w (A1 A2 : Option Addr) (n1 n2 c1 c2 : Nat) (M1 M2 : List Km), M1.map Km.k = L → M2.map Km.k = L → Rks w (.slice A1 n1 c1) n1 M1 → Rks w (.slice A2 n2 c2) n2 M2 → Calls Try.prog 31 #[.slice A1 n1 c1, .slice A2 n2 c2] w fun e w' => e = .returned (.bool true) ∧ Below w.heap.size w w') := Lib.hid fun w A1 A2 n1 n2 c1 c2 M1 M2 h1 h2 h3 h4 => by
    have h := keys_any A1 A2 c1 c2 n1 n2 M1 M2 w h3 h4
    rwa [h1, h2, decide_eq_true rfl] at h
  unfold ALA at HRD
  unfold BLA at HRR
  unfold Cf.val at *
  go_enter Try.func7, Try.ntmps7
  go_wp2_with fail
  refine (HLB.out _ (below_alloc W _)).mono ?_
  rintro e w1 ⟨mv, rfl, hb1, hlb⟩
  obtain ⟨gc, hgc⟩ : ∃ gc, W.heap.size = gc := ⟨_, rfl⟩
  have HC1 : Hid (Bk w1 gc 24 #[.int .i64 c.g, .int .i64 c.so, .int .i64 c.k, .int .i64 c.sz, .int .i64 c.sl, .int .i64 c.o, .int .i64 c.ga, .int .i64 c.la, .int .i64 c.ea, .bool c.di]) := Lib.hid (by subst hgc; exact (Bk.new W _ _).below hb1)
  have HBW1 : Hid (Below W.heap.size W w1) := Lib.hid (below_trans (below_alloc W _) hb1)
  have HLB1 := Lib.hid hlb
  have HGC := Lib.hid hgc
  obtain ⟨gb, cb, rfl, hcb1, hcb2, howb⟩ := hlb
  unfold maxLen at hcb2
  have HOWB := Lib.hid (Lb.own howb HLL.out)
  obtain ⟨BB, hBB⟩ : ∃ BB, (W.alloc (.cells #[.int .i64 c.g, .int .i64 c.so, .int .i64 c.k, .int .i64 c.sz, .int .i64 c.sl, .int .i64 c.o, .int .i64 c.ga, .int .i64 c.la, .int .i64 c.ea, .bool c.di] 24)).heap.size = BB := ⟨_, rfl⟩
  rw [hBB] at HOWB HLB1
  rw [hgc]
  clear hb1 howb hBB hgc HLB
  have c0 : w1.cell? ⟨gc, 0, none⟩ = some (.int .i64 c.g) := HC1.out.cell 0
  have c1 : w1.cell? ⟨gc, 1, none⟩ = some (.int .i64 c.so) := HC1.out.cell 1
  have c2 : w1.cell? ⟨gc, 2, none⟩ = some (.int .i64 c.k) := HC1.out.cell 2
  have c3 : w1.cell? ⟨gc, 3, none⟩ = some (.int .i64 c.sz) := HC1.out.cell 3
  have c4 : w1.cell? ⟨gc, 4, none⟩ = some (.int .i64 c.sl) := HC1.out.cell 4
  have c5 : w1.cell? ⟨gc, 5, none⟩ = some (.int .i64 c.o) := HC1.out.cell 5
  have c6 : w1.cell? ⟨gc, 6, none⟩ = some (.int .i64 c.ga) := HC1.out.cell 6
  have c7 : w1.cell? ⟨gc, 7, none⟩ = some (.int .i64 c.la) := HC1.out.cell 7
  have c8 : w1.cell? ⟨gc, 8, none⟩ = some (.int .i64 c.ea) := HC1.out.cell 8
  have c9 : w1.cell? ⟨gc, 9, none⟩ = some (.bool c.di) := HC1.out.cell 9
  go_wp2_with fail
  refine (HRD.out _ _ _ (Rd.of_owns HOWB.out)).mono ?_
  rintro e w2 ⟨Ax, nx, cx, Mx, rfl, hMx, hb2, ho2, hapt⟩
  have HB2 := Lib.hid hb2
  have HMX := Lib.hid hMx
  have HOX := Lib.hid ho2
  have HAPT := Lib.hid hapt
  clear hb2 ho2 hMx hapt c0 c1 c2 c3 c4 c5 c6 c7 c8 c9
  have c0 : w2.cell? ⟨gc, 0, none⟩ = some (.int .i64 c.g) := (HC1.out.below HB2.out).cell 0
  have c1 : w2.cell? ⟨gc, 1, none⟩ = some (.int .i64 c.so) := (HC1.out.below HB2.out).cell 1
  have c2 : w2.cell? ⟨gc, 2, none⟩ = some (.int .i64 c.k) := (HC1.out.below HB2.out).cell 2
  have c3 : w2.cell? ⟨gc, 3, none⟩ = some (.int .i64 c.sz) := (HC1.out.below HB2.out).cell 3
  have c4 : w2.cell? ⟨gc, 4, none⟩ = some (.int .i64 c.sl) := (HC1.out.below HB2.out).cell 4
  have c5 : w2.cell? ⟨gc, 5, none⟩ = some (.int .i64 c.o) := (HC1.out.below HB2.out).cell 5
  have c6 : w2.cell? ⟨gc, 6, none⟩ = some (.int .i64 c.ga) := (HC1.out.below HB2.out).cell 6
  have c7 : w2.cell? ⟨gc, 7, none⟩ = some (.int .i64 c.la) := (HC1.out.below HB2.out).cell 7
  have c8 : w2.cell? ⟨gc, 8, none⟩ = some (.int .i64 c.ea) := (HC1.out.below HB2.out).cell 8
  have c9 : w2.cell? ⟨gc, 9, none⟩ = some (.bool c.di) := (HC1.out.below HB2.out).cell 9
  go_wp2_with fail
  refine (HRD.out _ _ _ (Rd.of_owns (own_below HOWB.out HB2.out))).mono ?_
  rintro e w3 ⟨Ay, ny, cy, My, rfl, hMy, hb3, ho3, -⟩
  have HB23 := Lib.hid hb3
  have HB3 := Lib.hid (below_trans HB2.out hb3)
  have HMY := Lib.hid hMy
  have HOY := Lib.hid ho3
  clear hb3 ho3 hMy c0 c1 c2 c3 c4 c5 c6 c7 c8 c9
  have c0 : w3.cell? ⟨gc, 0, none⟩ = some (.int .i64 c.g) := (HC1.out.below HB3.out).cell 0
  have c1 : w3.cell? ⟨gc, 1, none⟩ = some (.int .i64 c.so) := (HC1.out.below HB3.out).cell 1
  have c2 : w3.cell? ⟨gc, 2, none⟩ = some (.int .i64 c.k) := (HC1.out.below HB3.out).cell 2
  have c3 : w3.cell? ⟨gc, 3, none⟩ = some (.int .i64 c.sz) := (HC1.out.below HB3.out).cell 3
  have c4 : w3.cell? ⟨gc, 4, none⟩ = some (.int .i64 c.sl) := (HC1.out.below HB3.out).cell 4
  have c5 : w3.cell? ⟨gc, 5, none⟩ = some (.int .i64 c.o) := (HC1.out.below HB3.out).cell 5
  have c6 : w3.cell? ⟨gc, 6, none⟩ = some (.int .i64 c.ga) := (HC1.out.below HB3.out).cell 6
  have c7 : w3.cell? ⟨gc, 7, none⟩ = some (.int .i64 c.la) := (HC1.out.below HB3.out).cell 7
  have c8 : w3.cell? ⟨gc, 8, none⟩ = some (.int .i64 c.ea) := (HC1.out.below HB3.out).cell 8
  have c9 : w3.cell? ⟨gc, 9, none⟩ = some (.bool c.di) := (HC1.out.below HB3.out).cell 9
  go_wp2_with fail
  refine (HRR.out _ (below_trans HBW1.out HB3.out)).mono ?_
  rintro e w4 ⟨Aw, nw, cw, Mw, rfl, hMw, hb4, ho4⟩
  have HB34 := Lib.hid hb4
  have HB4 := Lib.hid (below_trans HB3.out hb4)
  have HMW := Lib.hid hMw
  have HOW := Lib.hid ho4
  clear hb4 ho4 hMw c0 c1 c2 c3 c4 c5 c6 c7 c8 c9
  have hcx : nx ≤ cx ∧ cx ≤ maxLen := by obtain ⟨_, _, hv, h1, h2⟩ := ownsRow_shape HOX.out.own; cases hv; exact ⟨h1, h2⟩
  have hcy : ny ≤ cy ∧ cy ≤ maxLen := by obtain ⟨_, _, hv, h1, h2⟩ := ownsRow_shape HOY.out.own; cases hv; exact ⟨h1, h2⟩
  unfold maxLen at hcx hcy
  have HALL : Hid (∀ w, Below w4.heap.size w4 w → Bk w gc 24 #[.int .i64 c.g, .int .i64 c.so, .int .i64 c.k, .int .i64 c.sz, .int .i64 c.sl, .int .i64 c.o, .int .i64 c.ga, .int .i64 c.la, .int .i64 c.ea, .bool c.di] ∧ Oks w w1.heap.size (.slice Ax nx cx) nx Mx ∧ Oks w w2.heap.size (.slice Ay ny cy) ny My ∧ Oks w w3.heap.size (.slice Aw nw cw) nw Mw ∧ Lb w BB (.slice (some ⟨gb, 0, none⟩) n cb) n bs) := Lib.hid fun w hb =>
    ⟨HC1.out.below (below_trans HB4.out hb), HOX.out.below (below_trans (below_trans HB23.out HB34.out) hb), HOY.out.below (below_trans HB34.out hb), HOW.out.below hb, HLB1.out.below (below_trans HB4.out hb)⟩
  go_wp2_with (first
    | (go_at_call 14; (with_reducible refine (HNU.out _ _).mono ?_); rintro e w ⟨rfl, rfl⟩)
    | (go_at_call 31; (with_reducible refine (HKY.out _ _ _ _ _ _ _ _ _ HMX.out HMW.out (HALL.out _ (Below.refl _ _)).2.1.rks (HALL.out _ (Below.refl _ _)).2.2.2.1.rks).mono ?_); rintro e w7 ⟨rfl, hb7⟩; have HB7 := Lib.hid hb7; clear hb7)
    | (go_at_call 16; (with_reducible refine (HKB.out _ _ _ (HALL.out _ HB7.out).2.2.2.2 (below_trans HBW1.out (below_trans HB4.out HB7.out))).mono ?_); rintro e w8 ⟨rfl, hb8⟩; have HB8 := Lib.hid (below_trans HB7.out hb8); clear hb8)
    | fail)
  obtain ⟨q1, q2, q3, q4, q5⟩ := HALL.out w8 HB8.out
  have hob : w8.ownsRow BB 5 1 (.slice (some ⟨gb, 0, none⟩) n cb) n (bc bs) := by
    obtain ⟨g', c', hv, -, -, h⟩ := q5
    cases hv
    exact Lb.own h HLL.out
  have h12 : w1.heap.size ≤ w8.heap.size := (below_trans HB4.out HB8.out).size
  refine (spoilOks q2 HAPT.out (fun x hx => HNX.out x.k (by rw [← HMX.out]; exact List.mem_map_of_mem hx)) h12).mono ?_
  rintro e w9 ⟨rfl, hon⟩
  have hX2 : ∀ r, Xk (.slice Ax nx cx) Mx r → W.heap.size ≤ r ∧ r < w2.heap.size := fun r hr => ⟨Nat.le_trans HBW1.out.size (Xk.lt HOX.out hr).1, (Xk.lt HOX.out hr).2⟩
  have HC9 := Lib.hid (q1.only hon (Xk.not q2 q1 (by decide) (by decide)))
  have HOY9 := Lib.hid (q3.only hon (fun r h1 _ h3 => by have := (hX2 r h3).2; omega))
  have HOW9 := Lib.hid (q4.only hon (fun r h1 _ h3 => by have := (hX2 r h3).2; have := HB23.out.size; omega))
  have HB9 : Hid (Below W.heap.size W w9) := Lib.hid ((below_trans HBW1.out (below_trans HB4.out HB8.out)).trans (hon.below (B := W.heap.size) (fun b h => (hX2 b h).1) (Nat.le_trans HBW1.out.size h12)))
  have xc := HC9.out
  have c0 : w9.cell? ⟨gc, 0, none⟩ = some (.int .i64 c.g) := xc.cell 0
  have c1 : w9.cell? ⟨gc, 1, none⟩ = some (.int .i64 c.so) := xc.cell 1
  have c2 : w9.cell? ⟨gc, 2, none⟩ = some (.int .i64 c.k) := xc.cell 2
  have c3 : w9.cell? ⟨gc, 3, none⟩ = some (.int .i64 c.sz) := xc.cell 3
  have c4 : w9.cell? ⟨gc, 4, none⟩ = some (.int .i64 c.sl) := xc.cell 4
  have c5 : w9.cell? ⟨gc, 5, none⟩ = some (.int .i64 c.o) := xc.cell 5
  have c6 : w9.cell? ⟨gc, 6, none⟩ = some (.int .i64 c.ga) := xc.cell 6
  have c7 : w9.cell? ⟨gc, 7, none⟩ = some (.int .i64 c.la) := xc.cell 7
  have c8 : w9.cell? ⟨gc, 8, none⟩ = some (.int .i64 c.ea) := xc.cell 8
  have c9 : w9.cell? ⟨gc, 9, none⟩ = some (.bool c.di) := xc.cell 9
  clear q1 q2 q3 q4 q5 hob h12 hon hX2 xc
  have HKQ := Lib.hid (HKY.out w9 _ _ _ _ _ _ _ _ HMY.out HMW.out HOY9.out.rks HOW9.out.rks)
  by_cases hz : z = 0
  · subst hz
    have HPQ := Lib.hid (HPU.out rfl)
    clear HPU
    go_wp2_with (first
      | (go_at_call 31; (with_reducible refine HKQ.out.mono ?_); rintro e w10 ⟨rfl, hb10⟩; clear c0 c1 c2 c3 c4 c5 c6 c7 c8 c9; have HB10 := Lib.hid hb10; have xc := HC9.out.below hb10; have c0 : w10.cell? ⟨gc, 0, none⟩ = some (.int .i64 c.g) := xc.cell 0; have c1 : w10.cell? ⟨gc, 1, none⟩ = some (.int .i64 c.so) := xc.cell 1; have c2 : w10.cell? ⟨gc, 2, none⟩ = some (.int .i64 c.k) := xc.cell 2; have c3 : w10.cell? ⟨gc, 3, none⟩ = some (.int .i64 c.sz) := xc.cell 3; have c4 : w10.cell? ⟨gc, 4, none⟩ = some (.int .i64 c.sl) := xc.cell 4; have c5 : w10.cell? ⟨gc, 5, none⟩ = some (.int .i64 c.o) := xc.cell 5; have c6 : w10.cell? ⟨gc, 6, none⟩ = some (.int .i64 c.ga) := xc.cell 6; have c7 : w10.cell? ⟨gc, 7, none⟩ = some (.int .i64 c.la) := xc.cell 7; have c8 : w10.cell? ⟨gc, 8, none⟩ = some (.int .i64 c.ea) := xc.cell 8; have c9 : w10.cell? ⟨gc, 9, none⟩ = some (.bool c.di) := xc.cell 9; clear hb10 xc)
      | fail)
    refine (HPQ.out w10 _ _ _ _ HMY.out (HOY9.out.below HB10.out).rks).mono ?_
    rintro e w11 ⟨hb11, Ap, cp, rfl, ho11⟩
    clear c0 c1 c2 c3 c4 c5 c6 c7 c8 c9
    have HWB11 : Hid (Below W.heap.size W w11) := Lib.hid (below_trans HB9.out (below_trans HB10.out hb11))
    have hcp : bs.length ≤ cp ∧ cp ≤ maxLen := by obtain ⟨_, _, hv, h1, h2⟩ := ownsRow_shape ho11; cases hv; exact ⟨h1, h2⟩
    have HBY : Hid (Calls Try.prog 20 #[.slice Ap bs.length cp, .slice A n cap] w11 fun e w' => e = .returned (.bool true) ∧ w11 = w') := Lib.hid (by
      have h := kitBytes_any w11 Ap A bs.length n cp cap bs bs (Rd.of_owns ho11) rfl (HR.out.below HWB11.out) HLL.out
      rwa [show (bs == bs) = true by simp] at h)
    clear hb11 ho11 hcp
    go_wp2_with (first
      | (go_at_call 14; (with_reducible refine (HNU.out _ _).mono ?_); rintro e w ⟨rfl, rfl⟩)
      | (go_at_call 20; (with_reducible refine HBY.out.mono ?_); rintro e w ⟨rfl, rfl⟩)
      | (go_at_call 18; (with_reducible refine (HKN.out _).mono ?_); rintro e w12 ⟨rfl, hb12⟩; have HB12 := Lib.hid hb12; clear hb12)
      | fail)
    go_ret
    exact ⟨rfl, below_trans HWB11.out HB12.out⟩
  · have hnz : (z != 0) = true := by simpa using hz
    clear HPU hz
    go_wp2_with (first
      | (go_at_call 31; (with_reducible refine HKQ.out.mono ?_); rintro e w10 ⟨rfl, hb10⟩; have HB10 := Lib.hid hb10; clear hb10)
      | (go_at_call 18; (with_reducible refine (HKN.out _).mono ?_); rintro e w11 ⟨rfl, hb11⟩; have HB11 := Lib.hid hb11; clear hb11)
      | fail)
    go_ret
    exact ⟨rfl, below_trans HB9.out (below_trans HB10.out HB11.out)⟩
end Go.Proofs.Ytaechgnjdjijkaa
