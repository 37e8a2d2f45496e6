/- simnet: Send, to whoever has the layer. -/
import Derived.Test.YtlodiibmofeikaaNetGive2
namespace Go.Proofs.Ytlodiibmofeikaa
open Go.RowKit
set_option linter.unusedVariables false
set_option linter.unusedSimpArgs false

/-- the counts are at most n -/
structure StB (n : Int) (s : StN) : Prop where
  sent : 0 ≤ s.sent ∧ s.sent ≤ n
  lost : 0 ≤ s.lost ∧ s.lost ≤ n
  dropped : 0 ≤ s.dropped ∧ s.dropped ≤ n
  doubled : 0 ≤ s.doubled ∧ s.doubled ≤ n
  late : 0 ≤ s.late ∧ s.late ≤ n
  turned : 0 ≤ s.turned ∧ s.turned ≤ n
theorem StB.ok {n : Int} {s : StN} (h : StB n s) (hn : n ≤ 1000000000) : StOk s := by
  obtain ⟨a, b, c, d, e, f⟩ := h
  exact ⟨by omega, by omega, by omega, by omega, by omega, by omega⟩
theorem StB.mono {n m : Int} {s : StN} (h : StB n s) (hn : n ≤ m) : StB m s := by
  obtain ⟨a, b, c, d, e, f⟩ := h
  exact ⟨by omega, by omega, by omega, by omega, by omega, by omega⟩
theorem LayL.len {room due : Int} {bs : List Int} {l l' : List Msg} {s s' : StN} (h : LayL room due bs l s l' s') (hl : (l.length : Int) ≤ room) : (l'.length : Int) ≤ room := by
  rcases h with ⟨-, rfl, -⟩ | ⟨h1, -, m, rfl, -⟩
  · exact hl
  · have h2 : dueN l due ≤ l.length := dueN_le l due
    have h3 : (l.length : Int) < room := by
      unfold putE at h1
      split at h1
      · exact absurd h1 (by decide)
      · split at h1
        · exact absurd h1 (by decide)
        · omega
    unfold put1
    simp only [List.length_append, List.length_cons, List.length_take, List.length_drop]
    omega
theorem LayL.stb {room due n : Int} {bs : List Int} {l l' : List Msg} {s s' : StN} (h : LayL room due bs l s l' s') (hs : StB n s) : StB (n + 1) s' := by
  obtain ⟨a, b, c, d, e, f⟩ := hs
  rcases h with ⟨-, -, rfl⟩ | ⟨-, rfl, -⟩
  · unfold StN.drop
    exact ⟨by simp only; omega, by simp only; omega, by simp only; omega, by simp only; omega, by simp only; omega, by simp only; omega⟩
  · exact ⟨by omega, by omega, by omega, by omega, by omega, by omega⟩
theorem GiveL.len {room due : Int} {f : FD} {bs : List Int} {l l' : List Msg} {s s' : StN} (h : GiveL room f due bs l s l' s') (hl : (l.length : Int) ≤ room) : (l'.length : Int) ≤ room := by
  rcases h with ⟨-, rfl, -⟩ | ⟨-, l1, s1, h1, h2⟩ | ⟨-, h⟩ | ⟨-, h⟩ | ⟨-, h⟩
  · exact hl
  · exact h2.len (h1.len hl)
  · exact h.len hl
  · exact h.len hl
  · exact h.len hl
theorem StB.send {n : Int} {s : StN} (h : StB n s) : StB (n + 1) s.send ∧ StB (n + 1) s.send.lose ∧ StB (n + 1) s.send.dbl ∧ StB (n + 1) s.send.lat ∧ StB (n + 1) s.send.trn := by
  obtain ⟨a, b, c, d, e, f⟩ := h
  unfold StN.send StN.lose StN.dbl StN.lat StN.trn
  refine ⟨?_, ?_, ?_, ?_, ?_⟩ <;> exact ⟨by simp only; omega, by simp only; omega, by simp only; omega, by simp only; omega, by simp only; omega, by simp only; omega⟩
theorem GiveL.stb {room due n : Int} {f : FD} {bs : List Int} {l l' : List Msg} {s s' : StN} (h : GiveL room f due bs l s l' s') (hs : StB n s) : StB (n + 3) s' := by
  obtain ⟨a, b, c, d, e⟩ := hs.send
  rcases h with ⟨-, -, rfl⟩ | ⟨-, l1, s1, h1, h2⟩ | ⟨-, h⟩ | ⟨-, h⟩ | ⟨-, h⟩
  · exact b.mono (by omega)
  · exact (h2.stb (h1.stb c)).mono (by omega)
  · exact (h.stb d).mono (by omega)
  · exact (h.stb e).mono (by omega)
  · exact (h.stb a).mono (by omega)
/-- one message, to some, one behind the other -/
inductive SendL (room due : Int) (bs : List Int) (F : List FD) (L0 : List (List Msg)) (u0 : Nat) (s0 : StN) : List Nat → List (List Msg) → Nat → StN → Prop
  | nil : SendL room due bs F L0 u0 s0 [] L0 u0 s0
  | snoc {ms : List Nat} {L : List (List Msg)} {u : Nat} {s : StN} {r : Nat} {l l' : List Msg} {s' : StN} : SendL room due bs F L0 u0 s0 ms L u s → L[r]? = some l → GiveL room (fateOf F u) due bs l s l' s' → SendL room due bs F L0 u0 s0 (ms ++ [r]) (L.set r l') (usedN F u) s'
theorem usedN_le (F : List FD) (u : Nat) : usedN F u ≤ u + 1 := by unfold usedN; split <;> omega
theorem SendL.inv {room due n : Int} {bs : List Int} {F : List FD} {L0 L : List (List Msg)} {u0 u : Nat} {s0 s : StN} {ms : List Nat} (h : SendL room due bs F L0 u0 s0 ms L u s) (hl : ∀ l ∈ L0, (l.length : Int) ≤ room) (hs : StB n s0) :
    (∀ l ∈ L, (l.length : Int) ≤ room) ∧ StB (n + 3 * ms.length) s ∧ u ≤ u0 + ms.length ∧ L.length = L0.length := by
  induction h with
  | nil => exact ⟨hl, hs.mono (by simp), by simp, rfl⟩
  | @snoc ms L u s r l l' s' h1 h2 h3 ih =>
    obtain ⟨i1, i2, i3, i4⟩ := ih
    refine ⟨fun x hx => ?_, (h3.stb i2).mono (by simp only [List.length_append, List.length_cons, List.length_nil]; omega), ?_, by rw [List.length_set, i4]⟩
    · rcases List.mem_or_eq_of_mem_set hx with h | rfl
      · exact i1 x h
      · exact h3.len (i1 l (List.mem_of_getElem? h2))
    · have := usedN_le F u
      simp only [List.length_append, List.length_cons, List.length_nil]
      omega
theorem SendL.size {room due : Int} {bs : List Int} {F : List FD} {L0 L : List (List Msg)} {u0 u : Nat} {s0 s : StN} {ms : List Nat} (h : SendL room due bs F L0 u0 s0 ms L u s) : L.length = L0.length := by
  induction h with
  | nil => rfl
  | @snoc ms L u s r l l' s' h1 h2 h3 ih => rw [List.length_set, ih]
/-- the members as places -/
def memN (l : List One) (layer now : Int) : Nat → List Nat
  | 0 => []
  | k + 1 => if 0 ≤ layer ∧ layer ≤ (l.getD k one0).at now then memN l layer now k ++ [k] else memN l layer now k
theorem mem_memN (l : List One) (layer now : Int) : ∀ k, mem l layer now k = (memN l layer now k).map (fun r : Nat => (r : Int))
  | 0 => rfl
  | k + 1 => by
    unfold mem memN
    rw [mem_memN l layer now k]
    split
    · rw [List.map_append]; rfl
    · rfl
theorem memN_lt (l : List One) (layer now : Int) : ∀ k r, r ∈ memN l layer now k → r < k
  | 0, r, h => by cases h
  | k + 1, r, h => by
    unfold memN at h
    split at h
    · rcases List.mem_append.1 h with h | h
      · have := memN_lt l layer now k r h; omega
      · simp at h; omega
    · have := memN_lt l layer now k r h; omega
theorem memN_len (l : List One) (layer now : Int) (k : Nat) : (memN l layer now k).length ≤ k := by
  have h := mem_len l layer now k
  rw [mem_memN, List.length_map] at h
  exact h
/-- what Send leaves -/
structure NetS (w w' : World) (col : Nat → Nat) (nb : Nat) (gd : GD) (delay room : Int) (pv : Value) (P : List PD) (fv : Value) (F : List FD) (used : Nat) (s : StN) (due : Int) (bs : List Int) (ms : List Nat) : Prop where
  ex : ∃ col' P' used' s', NetAt w' col' nb gd delay room pv P' fv F used' s' ∧ (∀ x, col' x ≠ 0 → col x ≠ 0 ∨ w.heap.size ≤ x) ∧ SendL room due bs F (P.map (·.l)) used s ms (P'.map (·.l)) used' s'
  kp : Keep (fun q => col q ≠ 0) w w'
section
variable {w : World} {col : Nat → Nat} {nb : Nat} {gd : GD} {delay room : Int} {pv : Value} {P : List PD} {fv : Value} {F : List FD} {used : Nat} {s : StN}
theorem map_set_l (P : List PD) (r : Nat) (b : Nat) (v : Value) (l : List Msg) : (P.set r ⟨b, v, l⟩).map (·.l) = (P.map (·.l)).set r l := by rw [List.map_set]
theorem NetS.snoc {w1 w2 : World} {due : Int} {bs : List Int} {ms : List Nat} {r : Nat} (h : NetAt w col nb gd delay room pv P fv F used s) {col1 : Nat → Nat} {P1 : List PD} {u1 : Nat} {s1 : StN} {p : PD} (hc : ∀ x, col1 x ≠ 0 → col x ≠ 0 ∨ w.heap.size ≤ x) (hk : Keep (fun q => col q ≠ 0) w w1)
    (hq : SendL room due bs F (P.map (·.l)) used s ms (P1.map (·.l)) u1 s1) (hp : P1[r]? = some p) (hr : NetR w1 w2 col1 nb gd delay room pv P1 fv F (usedN F u1) r p (GiveL room (fateOf F u1) due bs p.l s1)) : NetS w w2 col nb gd delay room pv P fv F used s due bs (ms ++ [r]) := by
  obtain ⟨⟨col', v', l', s', h1, h2, h3⟩, h4⟩ := hr
  refine ⟨⟨col', _, _, s', h1, fun x hx => (h2 x hx).elim (hc x) (fun y => .inr (Nat.le_trans hk.size y)), ?_⟩, hk.trans h4 (fun q hq y => (hc q y).elim id (fun z => absurd hq (by omega)))⟩
  rw [map_set_l]
  exact hq.snoc (by rw [List.getElem?_map, hp]; rfl) h3
theorem NetS.from {w0 w2 : World} {due : Int} {bs : List Int} {ms : List Nat} (hk : Keep (fun q => col q ≠ 0) w0 w) (h : NetS w w2 col nb gd delay room pv P fv F used s due bs ms) : NetS w0 w2 col nb gd delay room pv P fv F used s due bs ms := by
  obtain ⟨⟨col', P', u', s', h1, h2, h3⟩, h4⟩ := h
  exact ⟨⟨col', P', u', s', h1, fun x hx => (h2 x hx).imp id (fun y => Nat.le_trans hk.size y), h3⟩, hk.trans h4 (fun q _ y => y)⟩
set_option maxRecDepth 100000 in
set_option maxHeartbeats 1000000 in
theorem send_yes (h : NetAt w col nb gd delay room pv P fv F used s) (layer now : Int) (hgl : gd.l.length ≤ 64) (hP : gd.l.length ≤ P.length ∧ P.length ≤ 1000) (hly : 0 ≤ layer ∧ layer ≤ 7)
    (A : Option Addr) (c : Nat) (bs : List Int) (hb : bs.length ≤ 320) (hbt : BtsI bs) (hx : Reads w 1 (.slice A bs.length c) bs.length (u8s bs)) (hxo : ∀ g, (Value.slice A bs.length c).ownBlock = some g → 0 < bs.length → col g = 0 ∧ g < w.heap.size)
    (hr : 0 ≤ room ∧ room ≤ 1000) (hl : ∀ p ∈ P, (p.l.length : Int) ≤ room) (hs : StB 100000 s) (hF : F.length ≤ 100000) (hu : used ≤ 100000) (hd : 0 ≤ delay ∧ delay ≤ 64) (hn : 0 ≤ now ∧ now ≤ 1099511627776) :
    Calls Try.prog 10 #[.pointer (some ⟨nb, 0, none⟩), .int .i64 layer, .slice A bs.length c, .int .i64 now] w fun e w' => e = .returned (.tuple #[.int .i64 (memN gd.l layer now gd.l.length).length, .int .i64 0]) ∧ NetS w w' col nb gd delay room pv P fv F used s (now + delay) bs (memN gd.l layer now gd.l.length) := by
  have hmy := may_any A bs.length c now w
  rw [show mayB bs.length now = true from decide_eq_true ⟨hn.1, hn.2, hb⟩] at hmy
  have HMY := Lib.hid hmy
  have hme := members_any gd.b gd.g gd.c gd.l gd.j gd.lv layer now w h.grp hgl
  have hml := memN_len gd.l layer now gd.l.length
  have hmlt := memN_lt gd.l layer now gd.l.length
  rw [mem_memN] at hme
  obtain ⟨ms, hms⟩ : ∃ ms, ms = memN gd.l layer now gd.l.length := ⟨_, rfl⟩
  rw [← hms] at hme hml hmlt ⊢
  rw [List.length_map, List.map_map] at hme
  have HME := Lib.hid hme
  have H := Lib.hid h
  have HX := Lib.hid hx
  have HXO := Lib.hid hxo
  have HMT : Hid (∀ r ∈ ms, r < P.length) := fun r hr => Nat.lt_of_lt_of_le (hmlt r hr) hP.1
  have HML : Hid (ms.length ≤ 64) := Nat.le_trans hml hgl
  have HG : Hid (∀ (wb : World), Below w.heap.size w wb → ∀ (w1 : World) (col1 : Nat → Nat) (P1 : List PD) (u1 : Nat) (s1 : StN) (k : Nat) (r : Nat) (p : PD), NetAt w1 col1 nb gd delay room pv P1 fv F u1 s1 → (∀ x, col1 x ≠ 0 → col x ≠ 0 ∨ wb.heap.size ≤ x) → Keep (fun q => col q ≠ 0) wb w1 → SendL room (now + delay) bs F (P.map (·.l)) used s (ms.take k) (P1.map (·.l)) u1 s1 → ms[k]? = some r → P1[r]? = some p →
      Calls Try.prog 29 #[.pointer (some ⟨nb, 0, none⟩), .pointer (some ⟨p.b, 0, none⟩), .slice A bs.length c, .int .i64 now] w1 fun e w' => (∃ v, e = .returned v) ∧ NetS wb w' col nb gd delay room pv P fv F used s (now + delay) bs (ms.take (k + 1))) := fun wb hbw w1 col1 P1 u1 s1 k r p h1 hc hk hq hm hp => by
    obtain ⟨i1, i2, i3, i4⟩ := hq.inv (n := 100000) (fun l hl' => by obtain ⟨q, hq1, rfl⟩ := List.mem_map.1 hl'; exact hl q hq1) hs
    have hkl : (ms.take k).length ≤ 64 := by rw [List.length_take]; omega
    have hx1 : Reads w1 1 (.slice A bs.length c) bs.length (u8s bs) := (hx.below hbw).keep hk (fun g hg ps e => e (hxo g hg ps).1)
    have hpl : (p.l.length : Int) ≤ room := i1 p.l (List.mem_map.2 ⟨p, List.mem_of_getElem? hp, rfl⟩)
    have hsb : StB 200000 s1 := i2.mono (by omega)
    refine (give_any h1 hp now A c bs hx1 hbt (by omega) (fun g hg ps => ?_) hr (by omega) (hsb.ok (by omega)) (by omega) (by omega) hd hn (by have := hsb.dropped; omega)).mono ?_
    · obtain ⟨g1, g2⟩ := hxo g hg ps
      rcases Nat.eq_zero_or_pos (col1 g) with e | e
      · exact e
      · exact (hc g (by omega)).elim (fun x => absurd g1 x) (fun x => by have := hbw.size; omega)
    · rintro e w' ⟨hv, r'⟩
      refine ⟨hv, ?_⟩
      have ht : ms.take (k + 1) = ms.take k ++ [r] := by rw [List.take_add_one, hm]; rfl
      rw [ht]
      exact NetS.snoc (h.below hbw) hc hk hq hp r'
  have HCP : Hid (P.length ≤ 1000) := hP.2
  have i0 : ¬ layer < 0 := by omega
  have i7 : ¬ 8 ≤ layer := by omega
  clear h hgl hP hly hb hbt hx hxo hr hl hs hF hu hd hn hmy hme hml hmlt hms
  go_enter Try.func10, Try.ntmps10
  go_wp2_with fail
  refine HMY.out.mono ?_
  rintro e w0 ⟨rfl, rfl⟩
  obtain ⟨n0, n1, n2, -⟩ := blk11 H.out.str
  go_wp2_with fail
  refine HME.out.mono ?_
  rintro e w1 ⟨A1, c1, rfl, ho1, hb1⟩
  have HO1 := Lib.hid ho1
  have HB1 := Lib.hid hb1
  have H1 := Lib.hid (H.out.below hb1)
  clear n0 n1 n2 ho1 hb1
  obtain ⟨n0, n1, n2, -⟩ := blk11 H1.out.str
  go_wp2_with fail
  have HGW := Lib.hid (HG.out w1 HB1.out)
  clear n0 n1 n2
  go_loopw [12, 34] (fun _ i wr => ∃ k : Nat, k ≤ ms.length ∧ i = .int .i64 k ∧ Hid (NetS w1 wr col nb gd delay room pv P fv F used s (now + delay) bs (ms.take k))) (fun _ i _ => ms.length - (intOf i).toNat)
  case atStart => exact ⟨0, by omega, rfl, ⟨⟨col, P, used, s, H1.out, fun x hx => .inl hx, SendL.nil⟩, Keep.refl _ _⟩⟩
  case round =>
    obtain ⟨k, hk, rfl, HN⟩ := hrel
    by_cases hlt : k < ms.length
    · obtain ⟨r, hr⟩ : ∃ r, ms[k]? = some r := ⟨_, List.getElem?_eq_getElem hlt⟩
      obtain ⟨⟨col1, P1, u1, s1, hn1, hc1, hq1⟩, hk1⟩ := HN.out
      have hown := ownsRow_keep HO1.out hk1 (fun g hg e => e (H.out.top g (HO1.out.lt g hg).1))
      obtain ⟨mb, mo, mc, hme, hmc⟩ := (Reads.of_owns hown).at k (.int .i64 (r : Int)) (by rw [List.getElem?_map, hr]; rfl)
      cases hme
      have hlen : P1.length = P.length := by have := hq1.size; simpa using this
      have hrl : r < P1.length := by rw [hlen]; exact HMT.out r (List.mem_of_getElem? hr)
      obtain ⟨p, hp⟩ : ∃ p, P1[r]? = some p := ⟨_, List.getElem?_eq_getElem hrl⟩
      obtain ⟨pA, pc, rfl⟩ := ownsRow_slice hn1.row
      obtain ⟨b, o, c', he, hcc⟩ := (Reads.of_owns hn1.row).at r (pipeC p) (by rw [List.getElem?_map, hp]; rfl)
      cases he
      replace hcc : wr.cell? ⟨b, o + r, none⟩ = some (.pointer (some ⟨p.b, 0, none⟩)) := hcc
      have hmc2 : wr.cell? ⟨mb, mo + k, none⟩ = some (.int .i64 (r : Int)) := hmc
      have HGV := Lib.hid (HGW.out wr col1 P1 u1 s1 k r p hn1 hc1 hk1 hq1 hr hp)
      have HPL1 : Hid (P1.length ≤ 1000) := by show _ ≤ _; rw [hlen]; exact HCP.out
      obtain ⟨n0, n1, n2, -⟩ := blk11 hn1.str
      have j1 : (0 : Int) ≤ (r : Int) := by omega
      have j2 : (r : Int) < (P1.length : Int) := by omega
      have j3 : (0 : Int) ≤ (k : Int) := by omega
      have j4 : (k : Int) < (ms.length : Int) := by omega
      have j5 := HML.out
      have j6 := HPL1.out
      clear hn1 hc1 hq1 hk1 hown hmc hp hr hrl hlen
      go_wp2_with fail
      refine HGV.out.mono ?_
      rintro e w4 ⟨⟨v4, rfl⟩, r4⟩
      have HR4 := Lib.hid r4
      clear r4
      go_wp2
      go_roundw
      case rel => exact ⟨k + 1, by omega, by go_num, HR4.out⟩
      case measure => simp [intOf]; omega
    · obtain rfl : k = ms.length := by omega
      have HF := Lib.hid HN.out
      rw [List.take_length] at HF
      clear HN
      go_wp2
      exact bodyPost_ret (v := .tuple #[.int .i64 ms.length, .int .i64 0]) (by simp [results, Try.results10, go_sem]) rfl ⟨rfl, NetS.from (Keep.ofBelowAll HB1.out) HF.out⟩
end
end Go.Proofs.Ytlodiibmofeikaa
