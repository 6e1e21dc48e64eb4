/- SX, part 5: the rest of the operations at hand; regions, code, calls. -/
import Derived.Test.YtdjeokgkeejpcaaGreatDoorSx2
import Derived.Test.YtdjeokgkeejpcaaGreatDoorAx10
import Derived.KernelRfl
import Derived.Test.YtdjeokgkeejpcaaGreatDoorAx24
namespace Go.Proofs.YtdjeokgkeejpcaaGreatDoor.AX

theorem Fr.eta (fr : Fr) : fr = ⟨⟨⟨⟨⟨fr.lo.a.a.a.a, fr.lo.a.a.a.b, fr.lo.a.a.a.c, fr.lo.a.a.a.d⟩, fr.lo.a.a.b, fr.lo.a.a.c, fr.lo.a.a.d⟩, fr.lo.a.b, fr.lo.a.c, fr.lo.a.d⟩, fr.lo.b, fr.lo.c, fr.lo.d⟩, fr.hi⟩ := rfl
/-- Getters and setters are what they say. -/
def GetOk (t : Nat) (x : KX) : Prop := ∃ g, x = .s g ∧ ∀ fr, g fr = fr.slot t
def SetOk (t : Nat) (x : KT) : Prop := ∃ g, x = .s g ∧ ∀ v fr, g v fr = fr.put t v
theorem getOk (t : Nat) (h : t ≤ 255) : GetOk t (getT t) := by
  have : ∀ i : Fin 256, GetOk i.1 (getT i.1) := by
    intro i
    match i with
    | ⟨0, _⟩ => exact ⟨g0, by kernel_rfl, fun fr => show g0 fr = fr.slot 0 by kernel_rfl⟩
    | ⟨1, _⟩ => exact ⟨g1, by kernel_rfl, fun fr => show g1 fr = fr.slot 1 by kernel_rfl⟩
    | ⟨2, _⟩ => exact ⟨g2, by kernel_rfl, fun fr => show g2 fr = fr.slot 2 by kernel_rfl⟩
    | ⟨3, _⟩ => exact ⟨g3, by kernel_rfl, fun fr => show g3 fr = fr.slot 3 by kernel_rfl⟩
    | ⟨4, _⟩ => exact ⟨g4, by kernel_rfl, fun fr => show g4 fr = fr.slot 4 by kernel_rfl⟩
    | ⟨5, _⟩ => exact ⟨g5, by kernel_rfl, fun fr => show g5 fr = fr.slot 5 by kernel_rfl⟩
    | ⟨6, _⟩ => exact ⟨g6, by kernel_rfl, fun fr => show g6 fr = fr.slot 6 by kernel_rfl⟩
    | ⟨7, _⟩ => exact ⟨g7, by kernel_rfl, fun fr => show g7 fr = fr.slot 7 by kernel_rfl⟩
    | ⟨8, _⟩ => exact ⟨g8, by kernel_rfl, fun fr => show g8 fr = fr.slot 8 by kernel_rfl⟩
    | ⟨9, _⟩ => exact ⟨g9, by kernel_rfl, fun fr => show g9 fr = fr.slot 9 by kernel_rfl⟩
    | ⟨10, _⟩ => exact ⟨g10, by kernel_rfl, fun fr => show g10 fr = fr.slot 10 by kernel_rfl⟩
    | ⟨11, _⟩ => exact ⟨g11, by kernel_rfl, fun fr => show g11 fr = fr.slot 11 by kernel_rfl⟩
    | ⟨12, _⟩ => exact ⟨g12, by kernel_rfl, fun fr => show g12 fr = fr.slot 12 by kernel_rfl⟩
    | ⟨13, _⟩ => exact ⟨g13, by kernel_rfl, fun fr => show g13 fr = fr.slot 13 by kernel_rfl⟩
    | ⟨14, _⟩ => exact ⟨g14, by kernel_rfl, fun fr => show g14 fr = fr.slot 14 by kernel_rfl⟩
    | ⟨15, _⟩ => exact ⟨g15, by kernel_rfl, fun fr => show g15 fr = fr.slot 15 by kernel_rfl⟩
    | ⟨16, _⟩ => exact ⟨g16, by kernel_rfl, fun fr => show g16 fr = fr.slot 16 by kernel_rfl⟩
    | ⟨17, _⟩ => exact ⟨g17, by kernel_rfl, fun fr => show g17 fr = fr.slot 17 by kernel_rfl⟩
    | ⟨18, _⟩ => exact ⟨g18, by kernel_rfl, fun fr => show g18 fr = fr.slot 18 by kernel_rfl⟩
    | ⟨19, _⟩ => exact ⟨g19, by kernel_rfl, fun fr => show g19 fr = fr.slot 19 by kernel_rfl⟩
    | ⟨20, _⟩ => exact ⟨g20, by kernel_rfl, fun fr => show g20 fr = fr.slot 20 by kernel_rfl⟩
    | ⟨21, _⟩ => exact ⟨g21, by kernel_rfl, fun fr => show g21 fr = fr.slot 21 by kernel_rfl⟩
    | ⟨22, _⟩ => exact ⟨g22, by kernel_rfl, fun fr => show g22 fr = fr.slot 22 by kernel_rfl⟩
    | ⟨23, _⟩ => exact ⟨g23, by kernel_rfl, fun fr => show g23 fr = fr.slot 23 by kernel_rfl⟩
    | ⟨24, _⟩ => exact ⟨g24, by kernel_rfl, fun fr => show g24 fr = fr.slot 24 by kernel_rfl⟩
    | ⟨25, _⟩ => exact ⟨g25, by kernel_rfl, fun fr => show g25 fr = fr.slot 25 by kernel_rfl⟩
    | ⟨26, _⟩ => exact ⟨g26, by kernel_rfl, fun fr => show g26 fr = fr.slot 26 by kernel_rfl⟩
    | ⟨27, _⟩ => exact ⟨g27, by kernel_rfl, fun fr => show g27 fr = fr.slot 27 by kernel_rfl⟩
    | ⟨28, _⟩ => exact ⟨g28, by kernel_rfl, fun fr => show g28 fr = fr.slot 28 by kernel_rfl⟩
    | ⟨29, _⟩ => exact ⟨g29, by kernel_rfl, fun fr => show g29 fr = fr.slot 29 by kernel_rfl⟩
    | ⟨30, _⟩ => exact ⟨g30, by kernel_rfl, fun fr => show g30 fr = fr.slot 30 by kernel_rfl⟩
    | ⟨31, _⟩ => exact ⟨g31, by kernel_rfl, fun fr => show g31 fr = fr.slot 31 by kernel_rfl⟩
    | ⟨32, _⟩ => exact ⟨g32, by kernel_rfl, fun fr => show g32 fr = fr.slot 32 by kernel_rfl⟩
    | ⟨33, _⟩ => exact ⟨g33, by kernel_rfl, fun fr => show g33 fr = fr.slot 33 by kernel_rfl⟩
    | ⟨34, _⟩ => exact ⟨g34, by kernel_rfl, fun fr => show g34 fr = fr.slot 34 by kernel_rfl⟩
    | ⟨35, _⟩ => exact ⟨g35, by kernel_rfl, fun fr => show g35 fr = fr.slot 35 by kernel_rfl⟩
    | ⟨36, _⟩ => exact ⟨g36, by kernel_rfl, fun fr => show g36 fr = fr.slot 36 by kernel_rfl⟩
    | ⟨37, _⟩ => exact ⟨g37, by kernel_rfl, fun fr => show g37 fr = fr.slot 37 by kernel_rfl⟩
    | ⟨38, _⟩ => exact ⟨g38, by kernel_rfl, fun fr => show g38 fr = fr.slot 38 by kernel_rfl⟩
    | ⟨39, _⟩ => exact ⟨g39, by kernel_rfl, fun fr => show g39 fr = fr.slot 39 by kernel_rfl⟩
    | ⟨40, _⟩ => exact ⟨g40, by kernel_rfl, fun fr => show g40 fr = fr.slot 40 by kernel_rfl⟩
    | ⟨41, _⟩ => exact ⟨g41, by kernel_rfl, fun fr => show g41 fr = fr.slot 41 by kernel_rfl⟩
    | ⟨42, _⟩ => exact ⟨g42, by kernel_rfl, fun fr => show g42 fr = fr.slot 42 by kernel_rfl⟩
    | ⟨43, _⟩ => exact ⟨g43, by kernel_rfl, fun fr => show g43 fr = fr.slot 43 by kernel_rfl⟩
    | ⟨44, _⟩ => exact ⟨g44, by kernel_rfl, fun fr => show g44 fr = fr.slot 44 by kernel_rfl⟩
    | ⟨45, _⟩ => exact ⟨g45, by kernel_rfl, fun fr => show g45 fr = fr.slot 45 by kernel_rfl⟩
    | ⟨46, _⟩ => exact ⟨g46, by kernel_rfl, fun fr => show g46 fr = fr.slot 46 by kernel_rfl⟩
    | ⟨47, _⟩ => exact ⟨g47, by kernel_rfl, fun fr => show g47 fr = fr.slot 47 by kernel_rfl⟩
    | ⟨48, _⟩ => exact ⟨g48, by kernel_rfl, fun fr => show g48 fr = fr.slot 48 by kernel_rfl⟩
    | ⟨49, _⟩ => exact ⟨g49, by kernel_rfl, fun fr => show g49 fr = fr.slot 49 by kernel_rfl⟩
    | ⟨50, _⟩ => exact ⟨g50, by kernel_rfl, fun fr => show g50 fr = fr.slot 50 by kernel_rfl⟩
    | ⟨51, _⟩ => exact ⟨g51, by kernel_rfl, fun fr => show g51 fr = fr.slot 51 by kernel_rfl⟩
    | ⟨52, _⟩ => exact ⟨g52, by kernel_rfl, fun fr => show g52 fr = fr.slot 52 by kernel_rfl⟩
    | ⟨53, _⟩ => exact ⟨g53, by kernel_rfl, fun fr => show g53 fr = fr.slot 53 by kernel_rfl⟩
    | ⟨54, _⟩ => exact ⟨g54, by kernel_rfl, fun fr => show g54 fr = fr.slot 54 by kernel_rfl⟩
    | ⟨55, _⟩ => exact ⟨g55, by kernel_rfl, fun fr => show g55 fr = fr.slot 55 by kernel_rfl⟩
    | ⟨56, _⟩ => exact ⟨g56, by kernel_rfl, fun fr => show g56 fr = fr.slot 56 by kernel_rfl⟩
    | ⟨57, _⟩ => exact ⟨g57, by kernel_rfl, fun fr => show g57 fr = fr.slot 57 by kernel_rfl⟩
    | ⟨58, _⟩ => exact ⟨g58, by kernel_rfl, fun fr => show g58 fr = fr.slot 58 by kernel_rfl⟩
    | ⟨59, _⟩ => exact ⟨g59, by kernel_rfl, fun fr => show g59 fr = fr.slot 59 by kernel_rfl⟩
    | ⟨60, _⟩ => exact ⟨g60, by kernel_rfl, fun fr => show g60 fr = fr.slot 60 by kernel_rfl⟩
    | ⟨61, _⟩ => exact ⟨g61, by kernel_rfl, fun fr => show g61 fr = fr.slot 61 by kernel_rfl⟩
    | ⟨62, _⟩ => exact ⟨g62, by kernel_rfl, fun fr => show g62 fr = fr.slot 62 by kernel_rfl⟩
    | ⟨63, _⟩ => exact ⟨g63, by kernel_rfl, fun fr => show g63 fr = fr.slot 63 by kernel_rfl⟩
    | ⟨64, _⟩ => exact ⟨g64, by kernel_rfl, fun fr => show g64 fr = fr.slot 64 by kernel_rfl⟩
    | ⟨65, _⟩ => exact ⟨g65, by kernel_rfl, fun fr => show g65 fr = fr.slot 65 by kernel_rfl⟩
    | ⟨66, _⟩ => exact ⟨g66, by kernel_rfl, fun fr => show g66 fr = fr.slot 66 by kernel_rfl⟩
    | ⟨67, _⟩ => exact ⟨g67, by kernel_rfl, fun fr => show g67 fr = fr.slot 67 by kernel_rfl⟩
    | ⟨68, _⟩ => exact ⟨g68, by kernel_rfl, fun fr => show g68 fr = fr.slot 68 by kernel_rfl⟩
    | ⟨69, _⟩ => exact ⟨g69, by kernel_rfl, fun fr => show g69 fr = fr.slot 69 by kernel_rfl⟩
    | ⟨70, _⟩ => exact ⟨g70, by kernel_rfl, fun fr => show g70 fr = fr.slot 70 by kernel_rfl⟩
    | ⟨71, _⟩ => exact ⟨g71, by kernel_rfl, fun fr => show g71 fr = fr.slot 71 by kernel_rfl⟩
    | ⟨72, _⟩ => exact ⟨g72, by kernel_rfl, fun fr => show g72 fr = fr.slot 72 by kernel_rfl⟩
    | ⟨73, _⟩ => exact ⟨g73, by kernel_rfl, fun fr => show g73 fr = fr.slot 73 by kernel_rfl⟩
    | ⟨74, _⟩ => exact ⟨g74, by kernel_rfl, fun fr => show g74 fr = fr.slot 74 by kernel_rfl⟩
    | ⟨75, _⟩ => exact ⟨g75, by kernel_rfl, fun fr => show g75 fr = fr.slot 75 by kernel_rfl⟩
    | ⟨76, _⟩ => exact ⟨g76, by kernel_rfl, fun fr => show g76 fr = fr.slot 76 by kernel_rfl⟩
    | ⟨77, _⟩ => exact ⟨g77, by kernel_rfl, fun fr => show g77 fr = fr.slot 77 by kernel_rfl⟩
    | ⟨78, _⟩ => exact ⟨g78, by kernel_rfl, fun fr => show g78 fr = fr.slot 78 by kernel_rfl⟩
    | ⟨79, _⟩ => exact ⟨g79, by kernel_rfl, fun fr => show g79 fr = fr.slot 79 by kernel_rfl⟩
    | ⟨80, _⟩ => exact ⟨g80, by kernel_rfl, fun fr => show g80 fr = fr.slot 80 by kernel_rfl⟩
    | ⟨81, _⟩ => exact ⟨g81, by kernel_rfl, fun fr => show g81 fr = fr.slot 81 by kernel_rfl⟩
    | ⟨82, _⟩ => exact ⟨g82, by kernel_rfl, fun fr => show g82 fr = fr.slot 82 by kernel_rfl⟩
    | ⟨83, _⟩ => exact ⟨g83, by kernel_rfl, fun fr => show g83 fr = fr.slot 83 by kernel_rfl⟩
    | ⟨84, _⟩ => exact ⟨g84, by kernel_rfl, fun fr => show g84 fr = fr.slot 84 by kernel_rfl⟩
    | ⟨85, _⟩ => exact ⟨g85, by kernel_rfl, fun fr => show g85 fr = fr.slot 85 by kernel_rfl⟩
    | ⟨86, _⟩ => exact ⟨g86, by kernel_rfl, fun fr => show g86 fr = fr.slot 86 by kernel_rfl⟩
    | ⟨87, _⟩ => exact ⟨g87, by kernel_rfl, fun fr => show g87 fr = fr.slot 87 by kernel_rfl⟩
    | ⟨88, _⟩ => exact ⟨g88, by kernel_rfl, fun fr => show g88 fr = fr.slot 88 by kernel_rfl⟩
    | ⟨89, _⟩ => exact ⟨g89, by kernel_rfl, fun fr => show g89 fr = fr.slot 89 by kernel_rfl⟩
    | ⟨90, _⟩ => exact ⟨g90, by kernel_rfl, fun fr => show g90 fr = fr.slot 90 by kernel_rfl⟩
    | ⟨91, _⟩ => exact ⟨g91, by kernel_rfl, fun fr => show g91 fr = fr.slot 91 by kernel_rfl⟩
    | ⟨92, _⟩ => exact ⟨g92, by kernel_rfl, fun fr => show g92 fr = fr.slot 92 by kernel_rfl⟩
    | ⟨93, _⟩ => exact ⟨g93, by kernel_rfl, fun fr => show g93 fr = fr.slot 93 by kernel_rfl⟩
    | ⟨94, _⟩ => exact ⟨g94, by kernel_rfl, fun fr => show g94 fr = fr.slot 94 by kernel_rfl⟩
    | ⟨95, _⟩ => exact ⟨g95, by kernel_rfl, fun fr => show g95 fr = fr.slot 95 by kernel_rfl⟩
    | ⟨96, _⟩ => exact ⟨g96, by kernel_rfl, fun fr => show g96 fr = fr.slot 96 by kernel_rfl⟩
    | ⟨97, _⟩ => exact ⟨g97, by kernel_rfl, fun fr => show g97 fr = fr.slot 97 by kernel_rfl⟩
    | ⟨98, _⟩ => exact ⟨g98, by kernel_rfl, fun fr => show g98 fr = fr.slot 98 by kernel_rfl⟩
    | ⟨99, _⟩ => exact ⟨g99, by kernel_rfl, fun fr => show g99 fr = fr.slot 99 by kernel_rfl⟩
    | ⟨100, _⟩ => exact ⟨g100, by kernel_rfl, fun fr => show g100 fr = fr.slot 100 by kernel_rfl⟩
    | ⟨101, _⟩ => exact ⟨g101, by kernel_rfl, fun fr => show g101 fr = fr.slot 101 by kernel_rfl⟩
    | ⟨102, _⟩ => exact ⟨g102, by kernel_rfl, fun fr => show g102 fr = fr.slot 102 by kernel_rfl⟩
    | ⟨103, _⟩ => exact ⟨g103, by kernel_rfl, fun fr => show g103 fr = fr.slot 103 by kernel_rfl⟩
    | ⟨104, _⟩ => exact ⟨g104, by kernel_rfl, fun fr => show g104 fr = fr.slot 104 by kernel_rfl⟩
    | ⟨105, _⟩ => exact ⟨g105, by kernel_rfl, fun fr => show g105 fr = fr.slot 105 by kernel_rfl⟩
    | ⟨106, _⟩ => exact ⟨g106, by kernel_rfl, fun fr => show g106 fr = fr.slot 106 by kernel_rfl⟩
    | ⟨107, _⟩ => exact ⟨g107, by kernel_rfl, fun fr => show g107 fr = fr.slot 107 by kernel_rfl⟩
    | ⟨108, _⟩ => exact ⟨g108, by kernel_rfl, fun fr => show g108 fr = fr.slot 108 by kernel_rfl⟩
    | ⟨109, _⟩ => exact ⟨g109, by kernel_rfl, fun fr => show g109 fr = fr.slot 109 by kernel_rfl⟩
    | ⟨110, _⟩ => exact ⟨g110, by kernel_rfl, fun fr => show g110 fr = fr.slot 110 by kernel_rfl⟩
    | ⟨111, _⟩ => exact ⟨g111, by kernel_rfl, fun fr => show g111 fr = fr.slot 111 by kernel_rfl⟩
    | ⟨112, _⟩ => exact ⟨g112, by kernel_rfl, fun fr => show g112 fr = fr.slot 112 by kernel_rfl⟩
    | ⟨113, _⟩ => exact ⟨g113, by kernel_rfl, fun fr => show g113 fr = fr.slot 113 by kernel_rfl⟩
    | ⟨114, _⟩ => exact ⟨g114, by kernel_rfl, fun fr => show g114 fr = fr.slot 114 by kernel_rfl⟩
    | ⟨115, _⟩ => exact ⟨g115, by kernel_rfl, fun fr => show g115 fr = fr.slot 115 by kernel_rfl⟩
    | ⟨116, _⟩ => exact ⟨g116, by kernel_rfl, fun fr => show g116 fr = fr.slot 116 by kernel_rfl⟩
    | ⟨117, _⟩ => exact ⟨g117, by kernel_rfl, fun fr => show g117 fr = fr.slot 117 by kernel_rfl⟩
    | ⟨118, _⟩ => exact ⟨g118, by kernel_rfl, fun fr => show g118 fr = fr.slot 118 by kernel_rfl⟩
    | ⟨119, _⟩ => exact ⟨g119, by kernel_rfl, fun fr => show g119 fr = fr.slot 119 by kernel_rfl⟩
    | ⟨120, _⟩ => exact ⟨g120, by kernel_rfl, fun fr => show g120 fr = fr.slot 120 by kernel_rfl⟩
    | ⟨121, _⟩ => exact ⟨g121, by kernel_rfl, fun fr => show g121 fr = fr.slot 121 by kernel_rfl⟩
    | ⟨122, _⟩ => exact ⟨g122, by kernel_rfl, fun fr => show g122 fr = fr.slot 122 by kernel_rfl⟩
    | ⟨123, _⟩ => exact ⟨g123, by kernel_rfl, fun fr => show g123 fr = fr.slot 123 by kernel_rfl⟩
    | ⟨124, _⟩ => exact ⟨g124, by kernel_rfl, fun fr => show g124 fr = fr.slot 124 by kernel_rfl⟩
    | ⟨125, _⟩ => exact ⟨g125, by kernel_rfl, fun fr => show g125 fr = fr.slot 125 by kernel_rfl⟩
    | ⟨126, _⟩ => exact ⟨g126, by kernel_rfl, fun fr => show g126 fr = fr.slot 126 by kernel_rfl⟩
    | ⟨127, _⟩ => exact ⟨g127, by kernel_rfl, fun fr => show g127 fr = fr.slot 127 by kernel_rfl⟩
    | ⟨128, _⟩ => exact ⟨g128, by kernel_rfl, fun fr => show g128 fr = fr.slot 128 by kernel_rfl⟩
    | ⟨129, _⟩ => exact ⟨g129, by kernel_rfl, fun fr => show g129 fr = fr.slot 129 by kernel_rfl⟩
    | ⟨130, _⟩ => exact ⟨g130, by kernel_rfl, fun fr => show g130 fr = fr.slot 130 by kernel_rfl⟩
    | ⟨131, _⟩ => exact ⟨g131, by kernel_rfl, fun fr => show g131 fr = fr.slot 131 by kernel_rfl⟩
    | ⟨132, _⟩ => exact ⟨g132, by kernel_rfl, fun fr => show g132 fr = fr.slot 132 by kernel_rfl⟩
    | ⟨133, _⟩ => exact ⟨g133, by kernel_rfl, fun fr => show g133 fr = fr.slot 133 by kernel_rfl⟩
    | ⟨134, _⟩ => exact ⟨g134, by kernel_rfl, fun fr => show g134 fr = fr.slot 134 by kernel_rfl⟩
    | ⟨135, _⟩ => exact ⟨g135, by kernel_rfl, fun fr => show g135 fr = fr.slot 135 by kernel_rfl⟩
    | ⟨136, _⟩ => exact ⟨g136, by kernel_rfl, fun fr => show g136 fr = fr.slot 136 by kernel_rfl⟩
    | ⟨137, _⟩ => exact ⟨g137, by kernel_rfl, fun fr => show g137 fr = fr.slot 137 by kernel_rfl⟩
    | ⟨138, _⟩ => exact ⟨g138, by kernel_rfl, fun fr => show g138 fr = fr.slot 138 by kernel_rfl⟩
    | ⟨139, _⟩ => exact ⟨g139, by kernel_rfl, fun fr => show g139 fr = fr.slot 139 by kernel_rfl⟩
    | ⟨140, _⟩ => exact ⟨g140, by kernel_rfl, fun fr => show g140 fr = fr.slot 140 by kernel_rfl⟩
    | ⟨141, _⟩ => exact ⟨g141, by kernel_rfl, fun fr => show g141 fr = fr.slot 141 by kernel_rfl⟩
    | ⟨142, _⟩ => exact ⟨g142, by kernel_rfl, fun fr => show g142 fr = fr.slot 142 by kernel_rfl⟩
    | ⟨143, _⟩ => exact ⟨g143, by kernel_rfl, fun fr => show g143 fr = fr.slot 143 by kernel_rfl⟩
    | ⟨144, _⟩ => exact ⟨g144, by kernel_rfl, fun fr => show g144 fr = fr.slot 144 by kernel_rfl⟩
    | ⟨145, _⟩ => exact ⟨g145, by kernel_rfl, fun fr => show g145 fr = fr.slot 145 by kernel_rfl⟩
    | ⟨146, _⟩ => exact ⟨g146, by kernel_rfl, fun fr => show g146 fr = fr.slot 146 by kernel_rfl⟩
    | ⟨147, _⟩ => exact ⟨g147, by kernel_rfl, fun fr => show g147 fr = fr.slot 147 by kernel_rfl⟩
    | ⟨148, _⟩ => exact ⟨g148, by kernel_rfl, fun fr => show g148 fr = fr.slot 148 by kernel_rfl⟩
    | ⟨149, _⟩ => exact ⟨g149, by kernel_rfl, fun fr => show g149 fr = fr.slot 149 by kernel_rfl⟩
    | ⟨150, _⟩ => exact ⟨g150, by kernel_rfl, fun fr => show g150 fr = fr.slot 150 by kernel_rfl⟩
    | ⟨151, _⟩ => exact ⟨g151, by kernel_rfl, fun fr => show g151 fr = fr.slot 151 by kernel_rfl⟩
    | ⟨152, _⟩ => exact ⟨g152, by kernel_rfl, fun fr => show g152 fr = fr.slot 152 by kernel_rfl⟩
    | ⟨153, _⟩ => exact ⟨g153, by kernel_rfl, fun fr => show g153 fr = fr.slot 153 by kernel_rfl⟩
    | ⟨154, _⟩ => exact ⟨g154, by kernel_rfl, fun fr => show g154 fr = fr.slot 154 by kernel_rfl⟩
    | ⟨155, _⟩ => exact ⟨g155, by kernel_rfl, fun fr => show g155 fr = fr.slot 155 by kernel_rfl⟩
    | ⟨156, _⟩ => exact ⟨g156, by kernel_rfl, fun fr => show g156 fr = fr.slot 156 by kernel_rfl⟩
    | ⟨157, _⟩ => exact ⟨g157, by kernel_rfl, fun fr => show g157 fr = fr.slot 157 by kernel_rfl⟩
    | ⟨158, _⟩ => exact ⟨g158, by kernel_rfl, fun fr => show g158 fr = fr.slot 158 by kernel_rfl⟩
    | ⟨159, _⟩ => exact ⟨g159, by kernel_rfl, fun fr => show g159 fr = fr.slot 159 by kernel_rfl⟩
    | ⟨160, _⟩ => exact ⟨g160, by kernel_rfl, fun fr => show g160 fr = fr.slot 160 by kernel_rfl⟩
    | ⟨161, _⟩ => exact ⟨g161, by kernel_rfl, fun fr => show g161 fr = fr.slot 161 by kernel_rfl⟩
    | ⟨162, _⟩ => exact ⟨g162, by kernel_rfl, fun fr => show g162 fr = fr.slot 162 by kernel_rfl⟩
    | ⟨163, _⟩ => exact ⟨g163, by kernel_rfl, fun fr => show g163 fr = fr.slot 163 by kernel_rfl⟩
    | ⟨164, _⟩ => exact ⟨g164, by kernel_rfl, fun fr => show g164 fr = fr.slot 164 by kernel_rfl⟩
    | ⟨165, _⟩ => exact ⟨g165, by kernel_rfl, fun fr => show g165 fr = fr.slot 165 by kernel_rfl⟩
    | ⟨166, _⟩ => exact ⟨g166, by kernel_rfl, fun fr => show g166 fr = fr.slot 166 by kernel_rfl⟩
    | ⟨167, _⟩ => exact ⟨g167, by kernel_rfl, fun fr => show g167 fr = fr.slot 167 by kernel_rfl⟩
    | ⟨168, _⟩ => exact ⟨g168, by kernel_rfl, fun fr => show g168 fr = fr.slot 168 by kernel_rfl⟩
    | ⟨169, _⟩ => exact ⟨g169, by kernel_rfl, fun fr => show g169 fr = fr.slot 169 by kernel_rfl⟩
    | ⟨170, _⟩ => exact ⟨g170, by kernel_rfl, fun fr => show g170 fr = fr.slot 170 by kernel_rfl⟩
    | ⟨171, _⟩ => exact ⟨g171, by kernel_rfl, fun fr => show g171 fr = fr.slot 171 by kernel_rfl⟩
    | ⟨172, _⟩ => exact ⟨g172, by kernel_rfl, fun fr => show g172 fr = fr.slot 172 by kernel_rfl⟩
    | ⟨173, _⟩ => exact ⟨g173, by kernel_rfl, fun fr => show g173 fr = fr.slot 173 by kernel_rfl⟩
    | ⟨174, _⟩ => exact ⟨g174, by kernel_rfl, fun fr => show g174 fr = fr.slot 174 by kernel_rfl⟩
    | ⟨175, _⟩ => exact ⟨g175, by kernel_rfl, fun fr => show g175 fr = fr.slot 175 by kernel_rfl⟩
    | ⟨176, _⟩ => exact ⟨g176, by kernel_rfl, fun fr => show g176 fr = fr.slot 176 by kernel_rfl⟩
    | ⟨177, _⟩ => exact ⟨g177, by kernel_rfl, fun fr => show g177 fr = fr.slot 177 by kernel_rfl⟩
    | ⟨178, _⟩ => exact ⟨g178, by kernel_rfl, fun fr => show g178 fr = fr.slot 178 by kernel_rfl⟩
    | ⟨179, _⟩ => exact ⟨g179, by kernel_rfl, fun fr => show g179 fr = fr.slot 179 by kernel_rfl⟩
    | ⟨180, _⟩ => exact ⟨g180, by kernel_rfl, fun fr => show g180 fr = fr.slot 180 by kernel_rfl⟩
    | ⟨181, _⟩ => exact ⟨g181, by kernel_rfl, fun fr => show g181 fr = fr.slot 181 by kernel_rfl⟩
    | ⟨182, _⟩ => exact ⟨g182, by kernel_rfl, fun fr => show g182 fr = fr.slot 182 by kernel_rfl⟩
    | ⟨183, _⟩ => exact ⟨g183, by kernel_rfl, fun fr => show g183 fr = fr.slot 183 by kernel_rfl⟩
    | ⟨184, _⟩ => exact ⟨g184, by kernel_rfl, fun fr => show g184 fr = fr.slot 184 by kernel_rfl⟩
    | ⟨185, _⟩ => exact ⟨g185, by kernel_rfl, fun fr => show g185 fr = fr.slot 185 by kernel_rfl⟩
    | ⟨186, _⟩ => exact ⟨g186, by kernel_rfl, fun fr => show g186 fr = fr.slot 186 by kernel_rfl⟩
    | ⟨187, _⟩ => exact ⟨g187, by kernel_rfl, fun fr => show g187 fr = fr.slot 187 by kernel_rfl⟩
    | ⟨188, _⟩ => exact ⟨g188, by kernel_rfl, fun fr => show g188 fr = fr.slot 188 by kernel_rfl⟩
    | ⟨189, _⟩ => exact ⟨g189, by kernel_rfl, fun fr => show g189 fr = fr.slot 189 by kernel_rfl⟩
    | ⟨190, _⟩ => exact ⟨g190, by kernel_rfl, fun fr => show g190 fr = fr.slot 190 by kernel_rfl⟩
    | ⟨191, _⟩ => exact ⟨g191, by kernel_rfl, fun fr => show g191 fr = fr.slot 191 by kernel_rfl⟩
    | ⟨192, _⟩ => exact ⟨g192, by kernel_rfl, fun fr => show g192 fr = fr.slot 192 by kernel_rfl⟩
    | ⟨193, _⟩ => exact ⟨g193, by kernel_rfl, fun fr => show g193 fr = fr.slot 193 by kernel_rfl⟩
    | ⟨194, _⟩ => exact ⟨g194, by kernel_rfl, fun fr => show g194 fr = fr.slot 194 by kernel_rfl⟩
    | ⟨195, _⟩ => exact ⟨g195, by kernel_rfl, fun fr => show g195 fr = fr.slot 195 by kernel_rfl⟩
    | ⟨196, _⟩ => exact ⟨g196, by kernel_rfl, fun fr => show g196 fr = fr.slot 196 by kernel_rfl⟩
    | ⟨197, _⟩ => exact ⟨g197, by kernel_rfl, fun fr => show g197 fr = fr.slot 197 by kernel_rfl⟩
    | ⟨198, _⟩ => exact ⟨g198, by kernel_rfl, fun fr => show g198 fr = fr.slot 198 by kernel_rfl⟩
    | ⟨199, _⟩ => exact ⟨g199, by kernel_rfl, fun fr => show g199 fr = fr.slot 199 by kernel_rfl⟩
    | ⟨200, _⟩ => exact ⟨g200, by kernel_rfl, fun fr => show g200 fr = fr.slot 200 by kernel_rfl⟩
    | ⟨201, _⟩ => exact ⟨g201, by kernel_rfl, fun fr => show g201 fr = fr.slot 201 by kernel_rfl⟩
    | ⟨202, _⟩ => exact ⟨g202, by kernel_rfl, fun fr => show g202 fr = fr.slot 202 by kernel_rfl⟩
    | ⟨203, _⟩ => exact ⟨g203, by kernel_rfl, fun fr => show g203 fr = fr.slot 203 by kernel_rfl⟩
    | ⟨204, _⟩ => exact ⟨g204, by kernel_rfl, fun fr => show g204 fr = fr.slot 204 by kernel_rfl⟩
    | ⟨205, _⟩ => exact ⟨g205, by kernel_rfl, fun fr => show g205 fr = fr.slot 205 by kernel_rfl⟩
    | ⟨206, _⟩ => exact ⟨g206, by kernel_rfl, fun fr => show g206 fr = fr.slot 206 by kernel_rfl⟩
    | ⟨207, _⟩ => exact ⟨g207, by kernel_rfl, fun fr => show g207 fr = fr.slot 207 by kernel_rfl⟩
    | ⟨208, _⟩ => exact ⟨g208, by kernel_rfl, fun fr => show g208 fr = fr.slot 208 by kernel_rfl⟩
    | ⟨209, _⟩ => exact ⟨g209, by kernel_rfl, fun fr => show g209 fr = fr.slot 209 by kernel_rfl⟩
    | ⟨210, _⟩ => exact ⟨g210, by kernel_rfl, fun fr => show g210 fr = fr.slot 210 by kernel_rfl⟩
    | ⟨211, _⟩ => exact ⟨g211, by kernel_rfl, fun fr => show g211 fr = fr.slot 211 by kernel_rfl⟩
    | ⟨212, _⟩ => exact ⟨g212, by kernel_rfl, fun fr => show g212 fr = fr.slot 212 by kernel_rfl⟩
    | ⟨213, _⟩ => exact ⟨g213, by kernel_rfl, fun fr => show g213 fr = fr.slot 213 by kernel_rfl⟩
    | ⟨214, _⟩ => exact ⟨g214, by kernel_rfl, fun fr => show g214 fr = fr.slot 214 by kernel_rfl⟩
    | ⟨215, _⟩ => exact ⟨g215, by kernel_rfl, fun fr => show g215 fr = fr.slot 215 by kernel_rfl⟩
    | ⟨216, _⟩ => exact ⟨g216, by kernel_rfl, fun fr => show g216 fr = fr.slot 216 by kernel_rfl⟩
    | ⟨217, _⟩ => exact ⟨g217, by kernel_rfl, fun fr => show g217 fr = fr.slot 217 by kernel_rfl⟩
    | ⟨218, _⟩ => exact ⟨g218, by kernel_rfl, fun fr => show g218 fr = fr.slot 218 by kernel_rfl⟩
    | ⟨219, _⟩ => exact ⟨g219, by kernel_rfl, fun fr => show g219 fr = fr.slot 219 by kernel_rfl⟩
    | ⟨220, _⟩ => exact ⟨g220, by kernel_rfl, fun fr => show g220 fr = fr.slot 220 by kernel_rfl⟩
    | ⟨221, _⟩ => exact ⟨g221, by kernel_rfl, fun fr => show g221 fr = fr.slot 221 by kernel_rfl⟩
    | ⟨222, _⟩ => exact ⟨g222, by kernel_rfl, fun fr => show g222 fr = fr.slot 222 by kernel_rfl⟩
    | ⟨223, _⟩ => exact ⟨g223, by kernel_rfl, fun fr => show g223 fr = fr.slot 223 by kernel_rfl⟩
    | ⟨224, _⟩ => exact ⟨g224, by kernel_rfl, fun fr => show g224 fr = fr.slot 224 by kernel_rfl⟩
    | ⟨225, _⟩ => exact ⟨g225, by kernel_rfl, fun fr => show g225 fr = fr.slot 225 by kernel_rfl⟩
    | ⟨226, _⟩ => exact ⟨g226, by kernel_rfl, fun fr => show g226 fr = fr.slot 226 by kernel_rfl⟩
    | ⟨227, _⟩ => exact ⟨g227, by kernel_rfl, fun fr => show g227 fr = fr.slot 227 by kernel_rfl⟩
    | ⟨228, _⟩ => exact ⟨g228, by kernel_rfl, fun fr => show g228 fr = fr.slot 228 by kernel_rfl⟩
    | ⟨229, _⟩ => exact ⟨g229, by kernel_rfl, fun fr => show g229 fr = fr.slot 229 by kernel_rfl⟩
    | ⟨230, _⟩ => exact ⟨g230, by kernel_rfl, fun fr => show g230 fr = fr.slot 230 by kernel_rfl⟩
    | ⟨231, _⟩ => exact ⟨g231, by kernel_rfl, fun fr => show g231 fr = fr.slot 231 by kernel_rfl⟩
    | ⟨232, _⟩ => exact ⟨g232, by kernel_rfl, fun fr => show g232 fr = fr.slot 232 by kernel_rfl⟩
    | ⟨233, _⟩ => exact ⟨g233, by kernel_rfl, fun fr => show g233 fr = fr.slot 233 by kernel_rfl⟩
    | ⟨234, _⟩ => exact ⟨g234, by kernel_rfl, fun fr => show g234 fr = fr.slot 234 by kernel_rfl⟩
    | ⟨235, _⟩ => exact ⟨g235, by kernel_rfl, fun fr => show g235 fr = fr.slot 235 by kernel_rfl⟩
    | ⟨236, _⟩ => exact ⟨g236, by kernel_rfl, fun fr => show g236 fr = fr.slot 236 by kernel_rfl⟩
    | ⟨237, _⟩ => exact ⟨g237, by kernel_rfl, fun fr => show g237 fr = fr.slot 237 by kernel_rfl⟩
    | ⟨238, _⟩ => exact ⟨g238, by kernel_rfl, fun fr => show g238 fr = fr.slot 238 by kernel_rfl⟩
    | ⟨239, _⟩ => exact ⟨g239, by kernel_rfl, fun fr => show g239 fr = fr.slot 239 by kernel_rfl⟩
    | ⟨240, _⟩ => exact ⟨g240, by kernel_rfl, fun fr => show g240 fr = fr.slot 240 by kernel_rfl⟩
    | ⟨241, _⟩ => exact ⟨g241, by kernel_rfl, fun fr => show g241 fr = fr.slot 241 by kernel_rfl⟩
    | ⟨242, _⟩ => exact ⟨g242, by kernel_rfl, fun fr => show g242 fr = fr.slot 242 by kernel_rfl⟩
    | ⟨243, _⟩ => exact ⟨g243, by kernel_rfl, fun fr => show g243 fr = fr.slot 243 by kernel_rfl⟩
    | ⟨244, _⟩ => exact ⟨g244, by kernel_rfl, fun fr => show g244 fr = fr.slot 244 by kernel_rfl⟩
    | ⟨245, _⟩ => exact ⟨g245, by kernel_rfl, fun fr => show g245 fr = fr.slot 245 by kernel_rfl⟩
    | ⟨246, _⟩ => exact ⟨g246, by kernel_rfl, fun fr => show g246 fr = fr.slot 246 by kernel_rfl⟩
    | ⟨247, _⟩ => exact ⟨g247, by kernel_rfl, fun fr => show g247 fr = fr.slot 247 by kernel_rfl⟩
    | ⟨248, _⟩ => exact ⟨g248, by kernel_rfl, fun fr => show g248 fr = fr.slot 248 by kernel_rfl⟩
    | ⟨249, _⟩ => exact ⟨g249, by kernel_rfl, fun fr => show g249 fr = fr.slot 249 by kernel_rfl⟩
    | ⟨250, _⟩ => exact ⟨g250, by kernel_rfl, fun fr => show g250 fr = fr.slot 250 by kernel_rfl⟩
    | ⟨251, _⟩ => exact ⟨g251, by kernel_rfl, fun fr => show g251 fr = fr.slot 251 by kernel_rfl⟩
    | ⟨252, _⟩ => exact ⟨g252, by kernel_rfl, fun fr => show g252 fr = fr.slot 252 by kernel_rfl⟩
    | ⟨253, _⟩ => exact ⟨g253, by kernel_rfl, fun fr => show g253 fr = fr.slot 253 by kernel_rfl⟩
    | ⟨254, _⟩ => exact ⟨g254, by kernel_rfl, fun fr => show g254 fr = fr.slot 254 by kernel_rfl⟩
    | ⟨255, _⟩ => exact ⟨g255, by kernel_rfl, fun fr => show g255 fr = fr.slot 255 by kernel_rfl⟩
    | ⟨n + 256, hn⟩ => omega
  exact this ⟨t, by omega⟩
theorem setOk (t : Nat) (h : t ≤ 255) : SetOk t (setT t) := by
  have : ∀ i : Fin 256, SetOk i.1 (setT i.1) := by
    intro i
    match i with
    | ⟨0, _⟩ => exact ⟨s0, by kernel_rfl, fun v fr => show s0 v fr = fr.put 0 v by kernel_rfl⟩
    | ⟨1, _⟩ => exact ⟨s1, by kernel_rfl, fun v fr => show s1 v fr = fr.put 1 v by kernel_rfl⟩
    | ⟨2, _⟩ => exact ⟨s2, by kernel_rfl, fun v fr => show s2 v fr = fr.put 2 v by kernel_rfl⟩
    | ⟨3, _⟩ => exact ⟨s3, by kernel_rfl, fun v fr => show s3 v fr = fr.put 3 v by kernel_rfl⟩
    | ⟨4, _⟩ => exact ⟨s4, by kernel_rfl, fun v fr => show s4 v fr = fr.put 4 v by kernel_rfl⟩
    | ⟨5, _⟩ => exact ⟨s5, by kernel_rfl, fun v fr => show s5 v fr = fr.put 5 v by kernel_rfl⟩
    | ⟨6, _⟩ => exact ⟨s6, by kernel_rfl, fun v fr => show s6 v fr = fr.put 6 v by kernel_rfl⟩
    | ⟨7, _⟩ => exact ⟨s7, by kernel_rfl, fun v fr => show s7 v fr = fr.put 7 v by kernel_rfl⟩
    | ⟨8, _⟩ => exact ⟨s8, by kernel_rfl, fun v fr => show s8 v fr = fr.put 8 v by kernel_rfl⟩
    | ⟨9, _⟩ => exact ⟨s9, by kernel_rfl, fun v fr => show s9 v fr = fr.put 9 v by kernel_rfl⟩
    | ⟨10, _⟩ => exact ⟨s10, by kernel_rfl, fun v fr => show s10 v fr = fr.put 10 v by kernel_rfl⟩
    | ⟨11, _⟩ => exact ⟨s11, by kernel_rfl, fun v fr => show s11 v fr = fr.put 11 v by kernel_rfl⟩
    | ⟨12, _⟩ => exact ⟨s12, by kernel_rfl, fun v fr => show s12 v fr = fr.put 12 v by kernel_rfl⟩
    | ⟨13, _⟩ => exact ⟨s13, by kernel_rfl, fun v fr => show s13 v fr = fr.put 13 v by kernel_rfl⟩
    | ⟨14, _⟩ => exact ⟨s14, by kernel_rfl, fun v fr => show s14 v fr = fr.put 14 v by kernel_rfl⟩
    | ⟨15, _⟩ => exact ⟨s15, by kernel_rfl, fun v fr => show s15 v fr = fr.put 15 v by kernel_rfl⟩
    | ⟨16, _⟩ => exact ⟨s16, by kernel_rfl, fun v fr => show s16 v fr = fr.put 16 v by kernel_rfl⟩
    | ⟨17, _⟩ => exact ⟨s17, by kernel_rfl, fun v fr => show s17 v fr = fr.put 17 v by kernel_rfl⟩
    | ⟨18, _⟩ => exact ⟨s18, by kernel_rfl, fun v fr => show s18 v fr = fr.put 18 v by kernel_rfl⟩
    | ⟨19, _⟩ => exact ⟨s19, by kernel_rfl, fun v fr => show s19 v fr = fr.put 19 v by kernel_rfl⟩
    | ⟨20, _⟩ => exact ⟨s20, by kernel_rfl, fun v fr => show s20 v fr = fr.put 20 v by kernel_rfl⟩
    | ⟨21, _⟩ => exact ⟨s21, by kernel_rfl, fun v fr => show s21 v fr = fr.put 21 v by kernel_rfl⟩
    | ⟨22, _⟩ => exact ⟨s22, by kernel_rfl, fun v fr => show s22 v fr = fr.put 22 v by kernel_rfl⟩
    | ⟨23, _⟩ => exact ⟨s23, by kernel_rfl, fun v fr => show s23 v fr = fr.put 23 v by kernel_rfl⟩
    | ⟨24, _⟩ => exact ⟨s24, by kernel_rfl, fun v fr => show s24 v fr = fr.put 24 v by kernel_rfl⟩
    | ⟨25, _⟩ => exact ⟨s25, by kernel_rfl, fun v fr => show s25 v fr = fr.put 25 v by kernel_rfl⟩
    | ⟨26, _⟩ => exact ⟨s26, by kernel_rfl, fun v fr => show s26 v fr = fr.put 26 v by kernel_rfl⟩
    | ⟨27, _⟩ => exact ⟨s27, by kernel_rfl, fun v fr => show s27 v fr = fr.put 27 v by kernel_rfl⟩
    | ⟨28, _⟩ => exact ⟨s28, by kernel_rfl, fun v fr => show s28 v fr = fr.put 28 v by kernel_rfl⟩
    | ⟨29, _⟩ => exact ⟨s29, by kernel_rfl, fun v fr => show s29 v fr = fr.put 29 v by kernel_rfl⟩
    | ⟨30, _⟩ => exact ⟨s30, by kernel_rfl, fun v fr => show s30 v fr = fr.put 30 v by kernel_rfl⟩
    | ⟨31, _⟩ => exact ⟨s31, by kernel_rfl, fun v fr => show s31 v fr = fr.put 31 v by kernel_rfl⟩
    | ⟨32, _⟩ => exact ⟨s32, by kernel_rfl, fun v fr => show s32 v fr = fr.put 32 v by kernel_rfl⟩
    | ⟨33, _⟩ => exact ⟨s33, by kernel_rfl, fun v fr => show s33 v fr = fr.put 33 v by kernel_rfl⟩
    | ⟨34, _⟩ => exact ⟨s34, by kernel_rfl, fun v fr => show s34 v fr = fr.put 34 v by kernel_rfl⟩
    | ⟨35, _⟩ => exact ⟨s35, by kernel_rfl, fun v fr => show s35 v fr = fr.put 35 v by kernel_rfl⟩
    | ⟨36, _⟩ => exact ⟨s36, by kernel_rfl, fun v fr => show s36 v fr = fr.put 36 v by kernel_rfl⟩
    | ⟨37, _⟩ => exact ⟨s37, by kernel_rfl, fun v fr => show s37 v fr = fr.put 37 v by kernel_rfl⟩
    | ⟨38, _⟩ => exact ⟨s38, by kernel_rfl, fun v fr => show s38 v fr = fr.put 38 v by kernel_rfl⟩
    | ⟨39, _⟩ => exact ⟨s39, by kernel_rfl, fun v fr => show s39 v fr = fr.put 39 v by kernel_rfl⟩
    | ⟨40, _⟩ => exact ⟨s40, by kernel_rfl, fun v fr => show s40 v fr = fr.put 40 v by kernel_rfl⟩
    | ⟨41, _⟩ => exact ⟨s41, by kernel_rfl, fun v fr => show s41 v fr = fr.put 41 v by kernel_rfl⟩
    | ⟨42, _⟩ => exact ⟨s42, by kernel_rfl, fun v fr => show s42 v fr = fr.put 42 v by kernel_rfl⟩
    | ⟨43, _⟩ => exact ⟨s43, by kernel_rfl, fun v fr => show s43 v fr = fr.put 43 v by kernel_rfl⟩
    | ⟨44, _⟩ => exact ⟨s44, by kernel_rfl, fun v fr => show s44 v fr = fr.put 44 v by kernel_rfl⟩
    | ⟨45, _⟩ => exact ⟨s45, by kernel_rfl, fun v fr => show s45 v fr = fr.put 45 v by kernel_rfl⟩
    | ⟨46, _⟩ => exact ⟨s46, by kernel_rfl, fun v fr => show s46 v fr = fr.put 46 v by kernel_rfl⟩
    | ⟨47, _⟩ => exact ⟨s47, by kernel_rfl, fun v fr => show s47 v fr = fr.put 47 v by kernel_rfl⟩
    | ⟨48, _⟩ => exact ⟨s48, by kernel_rfl, fun v fr => show s48 v fr = fr.put 48 v by kernel_rfl⟩
    | ⟨49, _⟩ => exact ⟨s49, by kernel_rfl, fun v fr => show s49 v fr = fr.put 49 v by kernel_rfl⟩
    | ⟨50, _⟩ => exact ⟨s50, by kernel_rfl, fun v fr => show s50 v fr = fr.put 50 v by kernel_rfl⟩
    | ⟨51, _⟩ => exact ⟨s51, by kernel_rfl, fun v fr => show s51 v fr = fr.put 51 v by kernel_rfl⟩
    | ⟨52, _⟩ => exact ⟨s52, by kernel_rfl, fun v fr => show s52 v fr = fr.put 52 v by kernel_rfl⟩
    | ⟨53, _⟩ => exact ⟨s53, by kernel_rfl, fun v fr => show s53 v fr = fr.put 53 v by kernel_rfl⟩
    | ⟨54, _⟩ => exact ⟨s54, by kernel_rfl, fun v fr => show s54 v fr = fr.put 54 v by kernel_rfl⟩
    | ⟨55, _⟩ => exact ⟨s55, by kernel_rfl, fun v fr => show s55 v fr = fr.put 55 v by kernel_rfl⟩
    | ⟨56, _⟩ => exact ⟨s56, by kernel_rfl, fun v fr => show s56 v fr = fr.put 56 v by kernel_rfl⟩
    | ⟨57, _⟩ => exact ⟨s57, by kernel_rfl, fun v fr => show s57 v fr = fr.put 57 v by kernel_rfl⟩
    | ⟨58, _⟩ => exact ⟨s58, by kernel_rfl, fun v fr => show s58 v fr = fr.put 58 v by kernel_rfl⟩
    | ⟨59, _⟩ => exact ⟨s59, by kernel_rfl, fun v fr => show s59 v fr = fr.put 59 v by kernel_rfl⟩
    | ⟨60, _⟩ => exact ⟨s60, by kernel_rfl, fun v fr => show s60 v fr = fr.put 60 v by kernel_rfl⟩
    | ⟨61, _⟩ => exact ⟨s61, by kernel_rfl, fun v fr => show s61 v fr = fr.put 61 v by kernel_rfl⟩
    | ⟨62, _⟩ => exact ⟨s62, by kernel_rfl, fun v fr => show s62 v fr = fr.put 62 v by kernel_rfl⟩
    | ⟨63, _⟩ => exact ⟨s63, by kernel_rfl, fun v fr => show s63 v fr = fr.put 63 v by kernel_rfl⟩
    | ⟨64, _⟩ => exact ⟨s64, by kernel_rfl, fun v fr => show s64 v fr = fr.put 64 v by kernel_rfl⟩
    | ⟨65, _⟩ => exact ⟨s65, by kernel_rfl, fun v fr => show s65 v fr = fr.put 65 v by kernel_rfl⟩
    | ⟨66, _⟩ => exact ⟨s66, by kernel_rfl, fun v fr => show s66 v fr = fr.put 66 v by kernel_rfl⟩
    | ⟨67, _⟩ => exact ⟨s67, by kernel_rfl, fun v fr => show s67 v fr = fr.put 67 v by kernel_rfl⟩
    | ⟨68, _⟩ => exact ⟨s68, by kernel_rfl, fun v fr => show s68 v fr = fr.put 68 v by kernel_rfl⟩
    | ⟨69, _⟩ => exact ⟨s69, by kernel_rfl, fun v fr => show s69 v fr = fr.put 69 v by kernel_rfl⟩
    | ⟨70, _⟩ => exact ⟨s70, by kernel_rfl, fun v fr => show s70 v fr = fr.put 70 v by kernel_rfl⟩
    | ⟨71, _⟩ => exact ⟨s71, by kernel_rfl, fun v fr => show s71 v fr = fr.put 71 v by kernel_rfl⟩
    | ⟨72, _⟩ => exact ⟨s72, by kernel_rfl, fun v fr => show s72 v fr = fr.put 72 v by kernel_rfl⟩
    | ⟨73, _⟩ => exact ⟨s73, by kernel_rfl, fun v fr => show s73 v fr = fr.put 73 v by kernel_rfl⟩
    | ⟨74, _⟩ => exact ⟨s74, by kernel_rfl, fun v fr => show s74 v fr = fr.put 74 v by kernel_rfl⟩
    | ⟨75, _⟩ => exact ⟨s75, by kernel_rfl, fun v fr => show s75 v fr = fr.put 75 v by kernel_rfl⟩
    | ⟨76, _⟩ => exact ⟨s76, by kernel_rfl, fun v fr => show s76 v fr = fr.put 76 v by kernel_rfl⟩
    | ⟨77, _⟩ => exact ⟨s77, by kernel_rfl, fun v fr => show s77 v fr = fr.put 77 v by kernel_rfl⟩
    | ⟨78, _⟩ => exact ⟨s78, by kernel_rfl, fun v fr => show s78 v fr = fr.put 78 v by kernel_rfl⟩
    | ⟨79, _⟩ => exact ⟨s79, by kernel_rfl, fun v fr => show s79 v fr = fr.put 79 v by kernel_rfl⟩
    | ⟨80, _⟩ => exact ⟨s80, by kernel_rfl, fun v fr => show s80 v fr = fr.put 80 v by kernel_rfl⟩
    | ⟨81, _⟩ => exact ⟨s81, by kernel_rfl, fun v fr => show s81 v fr = fr.put 81 v by kernel_rfl⟩
    | ⟨82, _⟩ => exact ⟨s82, by kernel_rfl, fun v fr => show s82 v fr = fr.put 82 v by kernel_rfl⟩
    | ⟨83, _⟩ => exact ⟨s83, by kernel_rfl, fun v fr => show s83 v fr = fr.put 83 v by kernel_rfl⟩
    | ⟨84, _⟩ => exact ⟨s84, by kernel_rfl, fun v fr => show s84 v fr = fr.put 84 v by kernel_rfl⟩
    | ⟨85, _⟩ => exact ⟨s85, by kernel_rfl, fun v fr => show s85 v fr = fr.put 85 v by kernel_rfl⟩
    | ⟨86, _⟩ => exact ⟨s86, by kernel_rfl, fun v fr => show s86 v fr = fr.put 86 v by kernel_rfl⟩
    | ⟨87, _⟩ => exact ⟨s87, by kernel_rfl, fun v fr => show s87 v fr = fr.put 87 v by kernel_rfl⟩
    | ⟨88, _⟩ => exact ⟨s88, by kernel_rfl, fun v fr => show s88 v fr = fr.put 88 v by kernel_rfl⟩
    | ⟨89, _⟩ => exact ⟨s89, by kernel_rfl, fun v fr => show s89 v fr = fr.put 89 v by kernel_rfl⟩
    | ⟨90, _⟩ => exact ⟨s90, by kernel_rfl, fun v fr => show s90 v fr = fr.put 90 v by kernel_rfl⟩
    | ⟨91, _⟩ => exact ⟨s91, by kernel_rfl, fun v fr => show s91 v fr = fr.put 91 v by kernel_rfl⟩
    | ⟨92, _⟩ => exact ⟨s92, by kernel_rfl, fun v fr => show s92 v fr = fr.put 92 v by kernel_rfl⟩
    | ⟨93, _⟩ => exact ⟨s93, by kernel_rfl, fun v fr => show s93 v fr = fr.put 93 v by kernel_rfl⟩
    | ⟨94, _⟩ => exact ⟨s94, by kernel_rfl, fun v fr => show s94 v fr = fr.put 94 v by kernel_rfl⟩
    | ⟨95, _⟩ => exact ⟨s95, by kernel_rfl, fun v fr => show s95 v fr = fr.put 95 v by kernel_rfl⟩
    | ⟨96, _⟩ => exact ⟨s96, by kernel_rfl, fun v fr => show s96 v fr = fr.put 96 v by kernel_rfl⟩
    | ⟨97, _⟩ => exact ⟨s97, by kernel_rfl, fun v fr => show s97 v fr = fr.put 97 v by kernel_rfl⟩
    | ⟨98, _⟩ => exact ⟨s98, by kernel_rfl, fun v fr => show s98 v fr = fr.put 98 v by kernel_rfl⟩
    | ⟨99, _⟩ => exact ⟨s99, by kernel_rfl, fun v fr => show s99 v fr = fr.put 99 v by kernel_rfl⟩
    | ⟨100, _⟩ => exact ⟨s100, by kernel_rfl, fun v fr => show s100 v fr = fr.put 100 v by kernel_rfl⟩
    | ⟨101, _⟩ => exact ⟨s101, by kernel_rfl, fun v fr => show s101 v fr = fr.put 101 v by kernel_rfl⟩
    | ⟨102, _⟩ => exact ⟨s102, by kernel_rfl, fun v fr => show s102 v fr = fr.put 102 v by kernel_rfl⟩
    | ⟨103, _⟩ => exact ⟨s103, by kernel_rfl, fun v fr => show s103 v fr = fr.put 103 v by kernel_rfl⟩
    | ⟨104, _⟩ => exact ⟨s104, by kernel_rfl, fun v fr => show s104 v fr = fr.put 104 v by kernel_rfl⟩
    | ⟨105, _⟩ => exact ⟨s105, by kernel_rfl, fun v fr => show s105 v fr = fr.put 105 v by kernel_rfl⟩
    | ⟨106, _⟩ => exact ⟨s106, by kernel_rfl, fun v fr => show s106 v fr = fr.put 106 v by kernel_rfl⟩
    | ⟨107, _⟩ => exact ⟨s107, by kernel_rfl, fun v fr => show s107 v fr = fr.put 107 v by kernel_rfl⟩
    | ⟨108, _⟩ => exact ⟨s108, by kernel_rfl, fun v fr => show s108 v fr = fr.put 108 v by kernel_rfl⟩
    | ⟨109, _⟩ => exact ⟨s109, by kernel_rfl, fun v fr => show s109 v fr = fr.put 109 v by kernel_rfl⟩
    | ⟨110, _⟩ => exact ⟨s110, by kernel_rfl, fun v fr => show s110 v fr = fr.put 110 v by kernel_rfl⟩
    | ⟨111, _⟩ => exact ⟨s111, by kernel_rfl, fun v fr => show s111 v fr = fr.put 111 v by kernel_rfl⟩
    | ⟨112, _⟩ => exact ⟨s112, by kernel_rfl, fun v fr => show s112 v fr = fr.put 112 v by kernel_rfl⟩
    | ⟨113, _⟩ => exact ⟨s113, by kernel_rfl, fun v fr => show s113 v fr = fr.put 113 v by kernel_rfl⟩
    | ⟨114, _⟩ => exact ⟨s114, by kernel_rfl, fun v fr => show s114 v fr = fr.put 114 v by kernel_rfl⟩
    | ⟨115, _⟩ => exact ⟨s115, by kernel_rfl, fun v fr => show s115 v fr = fr.put 115 v by kernel_rfl⟩
    | ⟨116, _⟩ => exact ⟨s116, by kernel_rfl, fun v fr => show s116 v fr = fr.put 116 v by kernel_rfl⟩
    | ⟨117, _⟩ => exact ⟨s117, by kernel_rfl, fun v fr => show s117 v fr = fr.put 117 v by kernel_rfl⟩
    | ⟨118, _⟩ => exact ⟨s118, by kernel_rfl, fun v fr => show s118 v fr = fr.put 118 v by kernel_rfl⟩
    | ⟨119, _⟩ => exact ⟨s119, by kernel_rfl, fun v fr => show s119 v fr = fr.put 119 v by kernel_rfl⟩
    | ⟨120, _⟩ => exact ⟨s120, by kernel_rfl, fun v fr => show s120 v fr = fr.put 120 v by kernel_rfl⟩
    | ⟨121, _⟩ => exact ⟨s121, by kernel_rfl, fun v fr => show s121 v fr = fr.put 121 v by kernel_rfl⟩
    | ⟨122, _⟩ => exact ⟨s122, by kernel_rfl, fun v fr => show s122 v fr = fr.put 122 v by kernel_rfl⟩
    | ⟨123, _⟩ => exact ⟨s123, by kernel_rfl, fun v fr => show s123 v fr = fr.put 123 v by kernel_rfl⟩
    | ⟨124, _⟩ => exact ⟨s124, by kernel_rfl, fun v fr => show s124 v fr = fr.put 124 v by kernel_rfl⟩
    | ⟨125, _⟩ => exact ⟨s125, by kernel_rfl, fun v fr => show s125 v fr = fr.put 125 v by kernel_rfl⟩
    | ⟨126, _⟩ => exact ⟨s126, by kernel_rfl, fun v fr => show s126 v fr = fr.put 126 v by kernel_rfl⟩
    | ⟨127, _⟩ => exact ⟨s127, by kernel_rfl, fun v fr => show s127 v fr = fr.put 127 v by kernel_rfl⟩
    | ⟨128, _⟩ => exact ⟨s128, by kernel_rfl, fun v fr => show s128 v fr = fr.put 128 v by kernel_rfl⟩
    | ⟨129, _⟩ => exact ⟨s129, by kernel_rfl, fun v fr => show s129 v fr = fr.put 129 v by kernel_rfl⟩
    | ⟨130, _⟩ => exact ⟨s130, by kernel_rfl, fun v fr => show s130 v fr = fr.put 130 v by kernel_rfl⟩
    | ⟨131, _⟩ => exact ⟨s131, by kernel_rfl, fun v fr => show s131 v fr = fr.put 131 v by kernel_rfl⟩
    | ⟨132, _⟩ => exact ⟨s132, by kernel_rfl, fun v fr => show s132 v fr = fr.put 132 v by kernel_rfl⟩
    | ⟨133, _⟩ => exact ⟨s133, by kernel_rfl, fun v fr => show s133 v fr = fr.put 133 v by kernel_rfl⟩
    | ⟨134, _⟩ => exact ⟨s134, by kernel_rfl, fun v fr => show s134 v fr = fr.put 134 v by kernel_rfl⟩
    | ⟨135, _⟩ => exact ⟨s135, by kernel_rfl, fun v fr => show s135 v fr = fr.put 135 v by kernel_rfl⟩
    | ⟨136, _⟩ => exact ⟨s136, by kernel_rfl, fun v fr => show s136 v fr = fr.put 136 v by kernel_rfl⟩
    | ⟨137, _⟩ => exact ⟨s137, by kernel_rfl, fun v fr => show s137 v fr = fr.put 137 v by kernel_rfl⟩
    | ⟨138, _⟩ => exact ⟨s138, by kernel_rfl, fun v fr => show s138 v fr = fr.put 138 v by kernel_rfl⟩
    | ⟨139, _⟩ => exact ⟨s139, by kernel_rfl, fun v fr => show s139 v fr = fr.put 139 v by kernel_rfl⟩
    | ⟨140, _⟩ => exact ⟨s140, by kernel_rfl, fun v fr => show s140 v fr = fr.put 140 v by kernel_rfl⟩
    | ⟨141, _⟩ => exact ⟨s141, by kernel_rfl, fun v fr => show s141 v fr = fr.put 141 v by kernel_rfl⟩
    | ⟨142, _⟩ => exact ⟨s142, by kernel_rfl, fun v fr => show s142 v fr = fr.put 142 v by kernel_rfl⟩
    | ⟨143, _⟩ => exact ⟨s143, by kernel_rfl, fun v fr => show s143 v fr = fr.put 143 v by kernel_rfl⟩
    | ⟨144, _⟩ => exact ⟨s144, by kernel_rfl, fun v fr => show s144 v fr = fr.put 144 v by kernel_rfl⟩
    | ⟨145, _⟩ => exact ⟨s145, by kernel_rfl, fun v fr => show s145 v fr = fr.put 145 v by kernel_rfl⟩
    | ⟨146, _⟩ => exact ⟨s146, by kernel_rfl, fun v fr => show s146 v fr = fr.put 146 v by kernel_rfl⟩
    | ⟨147, _⟩ => exact ⟨s147, by kernel_rfl, fun v fr => show s147 v fr = fr.put 147 v by kernel_rfl⟩
    | ⟨148, _⟩ => exact ⟨s148, by kernel_rfl, fun v fr => show s148 v fr = fr.put 148 v by kernel_rfl⟩
    | ⟨149, _⟩ => exact ⟨s149, by kernel_rfl, fun v fr => show s149 v fr = fr.put 149 v by kernel_rfl⟩
    | ⟨150, _⟩ => exact ⟨s150, by kernel_rfl, fun v fr => show s150 v fr = fr.put 150 v by kernel_rfl⟩
    | ⟨151, _⟩ => exact ⟨s151, by kernel_rfl, fun v fr => show s151 v fr = fr.put 151 v by kernel_rfl⟩
    | ⟨152, _⟩ => exact ⟨s152, by kernel_rfl, fun v fr => show s152 v fr = fr.put 152 v by kernel_rfl⟩
    | ⟨153, _⟩ => exact ⟨s153, by kernel_rfl, fun v fr => show s153 v fr = fr.put 153 v by kernel_rfl⟩
    | ⟨154, _⟩ => exact ⟨s154, by kernel_rfl, fun v fr => show s154 v fr = fr.put 154 v by kernel_rfl⟩
    | ⟨155, _⟩ => exact ⟨s155, by kernel_rfl, fun v fr => show s155 v fr = fr.put 155 v by kernel_rfl⟩
    | ⟨156, _⟩ => exact ⟨s156, by kernel_rfl, fun v fr => show s156 v fr = fr.put 156 v by kernel_rfl⟩
    | ⟨157, _⟩ => exact ⟨s157, by kernel_rfl, fun v fr => show s157 v fr = fr.put 157 v by kernel_rfl⟩
    | ⟨158, _⟩ => exact ⟨s158, by kernel_rfl, fun v fr => show s158 v fr = fr.put 158 v by kernel_rfl⟩
    | ⟨159, _⟩ => exact ⟨s159, by kernel_rfl, fun v fr => show s159 v fr = fr.put 159 v by kernel_rfl⟩
    | ⟨160, _⟩ => exact ⟨s160, by kernel_rfl, fun v fr => show s160 v fr = fr.put 160 v by kernel_rfl⟩
    | ⟨161, _⟩ => exact ⟨s161, by kernel_rfl, fun v fr => show s161 v fr = fr.put 161 v by kernel_rfl⟩
    | ⟨162, _⟩ => exact ⟨s162, by kernel_rfl, fun v fr => show s162 v fr = fr.put 162 v by kernel_rfl⟩
    | ⟨163, _⟩ => exact ⟨s163, by kernel_rfl, fun v fr => show s163 v fr = fr.put 163 v by kernel_rfl⟩
    | ⟨164, _⟩ => exact ⟨s164, by kernel_rfl, fun v fr => show s164 v fr = fr.put 164 v by kernel_rfl⟩
    | ⟨165, _⟩ => exact ⟨s165, by kernel_rfl, fun v fr => show s165 v fr = fr.put 165 v by kernel_rfl⟩
    | ⟨166, _⟩ => exact ⟨s166, by kernel_rfl, fun v fr => show s166 v fr = fr.put 166 v by kernel_rfl⟩
    | ⟨167, _⟩ => exact ⟨s167, by kernel_rfl, fun v fr => show s167 v fr = fr.put 167 v by kernel_rfl⟩
    | ⟨168, _⟩ => exact ⟨s168, by kernel_rfl, fun v fr => show s168 v fr = fr.put 168 v by kernel_rfl⟩
    | ⟨169, _⟩ => exact ⟨s169, by kernel_rfl, fun v fr => show s169 v fr = fr.put 169 v by kernel_rfl⟩
    | ⟨170, _⟩ => exact ⟨s170, by kernel_rfl, fun v fr => show s170 v fr = fr.put 170 v by kernel_rfl⟩
    | ⟨171, _⟩ => exact ⟨s171, by kernel_rfl, fun v fr => show s171 v fr = fr.put 171 v by kernel_rfl⟩
    | ⟨172, _⟩ => exact ⟨s172, by kernel_rfl, fun v fr => show s172 v fr = fr.put 172 v by kernel_rfl⟩
    | ⟨173, _⟩ => exact ⟨s173, by kernel_rfl, fun v fr => show s173 v fr = fr.put 173 v by kernel_rfl⟩
    | ⟨174, _⟩ => exact ⟨s174, by kernel_rfl, fun v fr => show s174 v fr = fr.put 174 v by kernel_rfl⟩
    | ⟨175, _⟩ => exact ⟨s175, by kernel_rfl, fun v fr => show s175 v fr = fr.put 175 v by kernel_rfl⟩
    | ⟨176, _⟩ => exact ⟨s176, by kernel_rfl, fun v fr => show s176 v fr = fr.put 176 v by kernel_rfl⟩
    | ⟨177, _⟩ => exact ⟨s177, by kernel_rfl, fun v fr => show s177 v fr = fr.put 177 v by kernel_rfl⟩
    | ⟨178, _⟩ => exact ⟨s178, by kernel_rfl, fun v fr => show s178 v fr = fr.put 178 v by kernel_rfl⟩
    | ⟨179, _⟩ => exact ⟨s179, by kernel_rfl, fun v fr => show s179 v fr = fr.put 179 v by kernel_rfl⟩
    | ⟨180, _⟩ => exact ⟨s180, by kernel_rfl, fun v fr => show s180 v fr = fr.put 180 v by kernel_rfl⟩
    | ⟨181, _⟩ => exact ⟨s181, by kernel_rfl, fun v fr => show s181 v fr = fr.put 181 v by kernel_rfl⟩
    | ⟨182, _⟩ => exact ⟨s182, by kernel_rfl, fun v fr => show s182 v fr = fr.put 182 v by kernel_rfl⟩
    | ⟨183, _⟩ => exact ⟨s183, by kernel_rfl, fun v fr => show s183 v fr = fr.put 183 v by kernel_rfl⟩
    | ⟨184, _⟩ => exact ⟨s184, by kernel_rfl, fun v fr => show s184 v fr = fr.put 184 v by kernel_rfl⟩
    | ⟨185, _⟩ => exact ⟨s185, by kernel_rfl, fun v fr => show s185 v fr = fr.put 185 v by kernel_rfl⟩
    | ⟨186, _⟩ => exact ⟨s186, by kernel_rfl, fun v fr => show s186 v fr = fr.put 186 v by kernel_rfl⟩
    | ⟨187, _⟩ => exact ⟨s187, by kernel_rfl, fun v fr => show s187 v fr = fr.put 187 v by kernel_rfl⟩
    | ⟨188, _⟩ => exact ⟨s188, by kernel_rfl, fun v fr => show s188 v fr = fr.put 188 v by kernel_rfl⟩
    | ⟨189, _⟩ => exact ⟨s189, by kernel_rfl, fun v fr => show s189 v fr = fr.put 189 v by kernel_rfl⟩
    | ⟨190, _⟩ => exact ⟨s190, by kernel_rfl, fun v fr => show s190 v fr = fr.put 190 v by kernel_rfl⟩
    | ⟨191, _⟩ => exact ⟨s191, by kernel_rfl, fun v fr => show s191 v fr = fr.put 191 v by kernel_rfl⟩
    | ⟨192, _⟩ => exact ⟨s192, by kernel_rfl, fun v fr => show s192 v fr = fr.put 192 v by kernel_rfl⟩
    | ⟨193, _⟩ => exact ⟨s193, by kernel_rfl, fun v fr => show s193 v fr = fr.put 193 v by kernel_rfl⟩
    | ⟨194, _⟩ => exact ⟨s194, by kernel_rfl, fun v fr => show s194 v fr = fr.put 194 v by kernel_rfl⟩
    | ⟨195, _⟩ => exact ⟨s195, by kernel_rfl, fun v fr => show s195 v fr = fr.put 195 v by kernel_rfl⟩
    | ⟨196, _⟩ => exact ⟨s196, by kernel_rfl, fun v fr => show s196 v fr = fr.put 196 v by kernel_rfl⟩
    | ⟨197, _⟩ => exact ⟨s197, by kernel_rfl, fun v fr => show s197 v fr = fr.put 197 v by kernel_rfl⟩
    | ⟨198, _⟩ => exact ⟨s198, by kernel_rfl, fun v fr => show s198 v fr = fr.put 198 v by kernel_rfl⟩
    | ⟨199, _⟩ => exact ⟨s199, by kernel_rfl, fun v fr => show s199 v fr = fr.put 199 v by kernel_rfl⟩
    | ⟨200, _⟩ => exact ⟨s200, by kernel_rfl, fun v fr => show s200 v fr = fr.put 200 v by kernel_rfl⟩
    | ⟨201, _⟩ => exact ⟨s201, by kernel_rfl, fun v fr => show s201 v fr = fr.put 201 v by kernel_rfl⟩
    | ⟨202, _⟩ => exact ⟨s202, by kernel_rfl, fun v fr => show s202 v fr = fr.put 202 v by kernel_rfl⟩
    | ⟨203, _⟩ => exact ⟨s203, by kernel_rfl, fun v fr => show s203 v fr = fr.put 203 v by kernel_rfl⟩
    | ⟨204, _⟩ => exact ⟨s204, by kernel_rfl, fun v fr => show s204 v fr = fr.put 204 v by kernel_rfl⟩
    | ⟨205, _⟩ => exact ⟨s205, by kernel_rfl, fun v fr => show s205 v fr = fr.put 205 v by kernel_rfl⟩
    | ⟨206, _⟩ => exact ⟨s206, by kernel_rfl, fun v fr => show s206 v fr = fr.put 206 v by kernel_rfl⟩
    | ⟨207, _⟩ => exact ⟨s207, by kernel_rfl, fun v fr => show s207 v fr = fr.put 207 v by kernel_rfl⟩
    | ⟨208, _⟩ => exact ⟨s208, by kernel_rfl, fun v fr => show s208 v fr = fr.put 208 v by kernel_rfl⟩
    | ⟨209, _⟩ => exact ⟨s209, by kernel_rfl, fun v fr => show s209 v fr = fr.put 209 v by kernel_rfl⟩
    | ⟨210, _⟩ => exact ⟨s210, by kernel_rfl, fun v fr => show s210 v fr = fr.put 210 v by kernel_rfl⟩
    | ⟨211, _⟩ => exact ⟨s211, by kernel_rfl, fun v fr => show s211 v fr = fr.put 211 v by kernel_rfl⟩
    | ⟨212, _⟩ => exact ⟨s212, by kernel_rfl, fun v fr => show s212 v fr = fr.put 212 v by kernel_rfl⟩
    | ⟨213, _⟩ => exact ⟨s213, by kernel_rfl, fun v fr => show s213 v fr = fr.put 213 v by kernel_rfl⟩
    | ⟨214, _⟩ => exact ⟨s214, by kernel_rfl, fun v fr => show s214 v fr = fr.put 214 v by kernel_rfl⟩
    | ⟨215, _⟩ => exact ⟨s215, by kernel_rfl, fun v fr => show s215 v fr = fr.put 215 v by kernel_rfl⟩
    | ⟨216, _⟩ => exact ⟨s216, by kernel_rfl, fun v fr => show s216 v fr = fr.put 216 v by kernel_rfl⟩
    | ⟨217, _⟩ => exact ⟨s217, by kernel_rfl, fun v fr => show s217 v fr = fr.put 217 v by kernel_rfl⟩
    | ⟨218, _⟩ => exact ⟨s218, by kernel_rfl, fun v fr => show s218 v fr = fr.put 218 v by kernel_rfl⟩
    | ⟨219, _⟩ => exact ⟨s219, by kernel_rfl, fun v fr => show s219 v fr = fr.put 219 v by kernel_rfl⟩
    | ⟨220, _⟩ => exact ⟨s220, by kernel_rfl, fun v fr => show s220 v fr = fr.put 220 v by kernel_rfl⟩
    | ⟨221, _⟩ => exact ⟨s221, by kernel_rfl, fun v fr => show s221 v fr = fr.put 221 v by kernel_rfl⟩
    | ⟨222, _⟩ => exact ⟨s222, by kernel_rfl, fun v fr => show s222 v fr = fr.put 222 v by kernel_rfl⟩
    | ⟨223, _⟩ => exact ⟨s223, by kernel_rfl, fun v fr => show s223 v fr = fr.put 223 v by kernel_rfl⟩
    | ⟨224, _⟩ => exact ⟨s224, by kernel_rfl, fun v fr => show s224 v fr = fr.put 224 v by kernel_rfl⟩
    | ⟨225, _⟩ => exact ⟨s225, by kernel_rfl, fun v fr => show s225 v fr = fr.put 225 v by kernel_rfl⟩
    | ⟨226, _⟩ => exact ⟨s226, by kernel_rfl, fun v fr => show s226 v fr = fr.put 226 v by kernel_rfl⟩
    | ⟨227, _⟩ => exact ⟨s227, by kernel_rfl, fun v fr => show s227 v fr = fr.put 227 v by kernel_rfl⟩
    | ⟨228, _⟩ => exact ⟨s228, by kernel_rfl, fun v fr => show s228 v fr = fr.put 228 v by kernel_rfl⟩
    | ⟨229, _⟩ => exact ⟨s229, by kernel_rfl, fun v fr => show s229 v fr = fr.put 229 v by kernel_rfl⟩
    | ⟨230, _⟩ => exact ⟨s230, by kernel_rfl, fun v fr => show s230 v fr = fr.put 230 v by kernel_rfl⟩
    | ⟨231, _⟩ => exact ⟨s231, by kernel_rfl, fun v fr => show s231 v fr = fr.put 231 v by kernel_rfl⟩
    | ⟨232, _⟩ => exact ⟨s232, by kernel_rfl, fun v fr => show s232 v fr = fr.put 232 v by kernel_rfl⟩
    | ⟨233, _⟩ => exact ⟨s233, by kernel_rfl, fun v fr => show s233 v fr = fr.put 233 v by kernel_rfl⟩
    | ⟨234, _⟩ => exact ⟨s234, by kernel_rfl, fun v fr => show s234 v fr = fr.put 234 v by kernel_rfl⟩
    | ⟨235, _⟩ => exact ⟨s235, by kernel_rfl, fun v fr => show s235 v fr = fr.put 235 v by kernel_rfl⟩
    | ⟨236, _⟩ => exact ⟨s236, by kernel_rfl, fun v fr => show s236 v fr = fr.put 236 v by kernel_rfl⟩
    | ⟨237, _⟩ => exact ⟨s237, by kernel_rfl, fun v fr => show s237 v fr = fr.put 237 v by kernel_rfl⟩
    | ⟨238, _⟩ => exact ⟨s238, by kernel_rfl, fun v fr => show s238 v fr = fr.put 238 v by kernel_rfl⟩
    | ⟨239, _⟩ => exact ⟨s239, by kernel_rfl, fun v fr => show s239 v fr = fr.put 239 v by kernel_rfl⟩
    | ⟨240, _⟩ => exact ⟨s240, by kernel_rfl, fun v fr => show s240 v fr = fr.put 240 v by kernel_rfl⟩
    | ⟨241, _⟩ => exact ⟨s241, by kernel_rfl, fun v fr => show s241 v fr = fr.put 241 v by kernel_rfl⟩
    | ⟨242, _⟩ => exact ⟨s242, by kernel_rfl, fun v fr => show s242 v fr = fr.put 242 v by kernel_rfl⟩
    | ⟨243, _⟩ => exact ⟨s243, by kernel_rfl, fun v fr => show s243 v fr = fr.put 243 v by kernel_rfl⟩
    | ⟨244, _⟩ => exact ⟨s244, by kernel_rfl, fun v fr => show s244 v fr = fr.put 244 v by kernel_rfl⟩
    | ⟨245, _⟩ => exact ⟨s245, by kernel_rfl, fun v fr => show s245 v fr = fr.put 245 v by kernel_rfl⟩
    | ⟨246, _⟩ => exact ⟨s246, by kernel_rfl, fun v fr => show s246 v fr = fr.put 246 v by kernel_rfl⟩
    | ⟨247, _⟩ => exact ⟨s247, by kernel_rfl, fun v fr => show s247 v fr = fr.put 247 v by kernel_rfl⟩
    | ⟨248, _⟩ => exact ⟨s248, by kernel_rfl, fun v fr => show s248 v fr = fr.put 248 v by kernel_rfl⟩
    | ⟨249, _⟩ => exact ⟨s249, by kernel_rfl, fun v fr => show s249 v fr = fr.put 249 v by kernel_rfl⟩
    | ⟨250, _⟩ => exact ⟨s250, by kernel_rfl, fun v fr => show s250 v fr = fr.put 250 v by kernel_rfl⟩
    | ⟨251, _⟩ => exact ⟨s251, by kernel_rfl, fun v fr => show s251 v fr = fr.put 251 v by kernel_rfl⟩
    | ⟨252, _⟩ => exact ⟨s252, by kernel_rfl, fun v fr => show s252 v fr = fr.put 252 v by kernel_rfl⟩
    | ⟨253, _⟩ => exact ⟨s253, by kernel_rfl, fun v fr => show s253 v fr = fr.put 253 v by kernel_rfl⟩
    | ⟨254, _⟩ => exact ⟨s254, by kernel_rfl, fun v fr => show s254 v fr = fr.put 254 v by kernel_rfl⟩
    | ⟨255, _⟩ => exact ⟨s255, by kernel_rfl, fun v fr => show s255 v fr = fr.put 255 v by kernel_rfl⟩
    | ⟨n + 256, hn⟩ => omega
  exact this ⟨t, by omega⟩
theorem brecX (a b : KX) (c : Bool) : (Bool.rec a b c : KX) = if c = true then b else a := by cases c <;> rfl
theorem brecT (a b : KT) (c : Bool) : (Bool.rec a b c : KT) = if c = true then b else a := by cases c <;> rfl
theorem kx_tmp (t : Nat) : kx (.tmp t) = if t ≤ 255 then getT t else .z := by
  show (Bool.rec .z (getT t) (Nat.ble t 255) : KX) = _
  rw [brecX]; simp only [Nat.ble_eq]
theorem kt_some (sz t : Nat) : kt sz (some t) = if t ≤ 255 then (if t + 1 ≤ sz then setT t else .z) else .z := by
  show (Bool.rec .z (Bool.rec .z (setT t) (Nat.ble (Nat.succ t) sz)) (Nat.ble t 255) : KT) = _
  rw [brecT, brecT]; simp only [Nat.ble_eq, Nat.succ_eq_add_one]
end Go.Proofs.YtdjeokgkeejpcaaGreatDoor.AX

namespace Go.Proofs.YtdjeokgkeejpcaaGreatDoor.AX
open Go

theorem eqT {α : Sort _} {a b c : α} (h : b = c) (g : a = b) : a = c := g.trans h
theorem opd_gx {o : Operand} (h : kx o ≠ .z) (fr : Fr) : (gx (kx o) fr).up = opd fr o := by
  cases o with
  | tmp t =>
    rw [kx_tmp] at h ⊢
    by_cases ht : t ≤ 255
    · rw [if_pos ht] at h ⊢
      obtain ⟨g, h1, h2⟩ := getOk t ht
      rw [h1]
      show (g fr).up = _
      rw [h2]
      show (fr.slot t).up = (match ((fr.slot t).up.nb) with | some v => v | none => .bad)
      have := nb_getD (fr.slot t).up
      cases hn : (fr.slot t).up.nb with
      | none => rw [hn] at this; exact this.symm
      | some v => rw [hn] at this; exact this.symm
    · rw [if_neg ht] at h; exact absurd rfl h
  | const v => exact up_down _
  | global g => exact absurd rfl h
  | func f => exact absurd rfl h
theorem putT_put {sz : Nat} {d : Option Tmp} (h : kt sz d ≠ .z) {v : AV} {fr : Fr} {k : Fr → Res} : putK sz d v fr k = k (putT (kt sz d) v.down fr) := by
  cases d with
  | none => exact absurd rfl h
  | some t =>
    rw [kt_some] at h ⊢
    by_cases h1 : t ≤ 255
    · rw [if_pos h1] at h ⊢
      by_cases h2 : t + 1 ≤ sz
      · rw [if_pos h2]
        obtain ⟨g, e1, e2⟩ := setOk t h1
        rw [e1]
        have hb : Nat.ble (Nat.succ t) sz = true := Nat.ble_eq_true_of_le h2
        unfold putK
        simp only [hb]
        show k (fr.put t v.down) = k (g v.down fr)
        rw [e2]
      · rw [if_neg h2] at h; exact absurd rfl h
    · rw [if_neg h1] at h; exact absurd rfl h
theorem tTo_eq (v : FV) (t : KT) (fr : Fr) (ds : List ADef) (hp : Hp) (nx : Nat) (kn : KN) : tTo v t fr ds hp nx kn = kn (putT t v.up.down fr) ds hp nx := by
  cases v <;> rfl
theorem kop1_ind {F : KOp → Prop} {x : KX} {k : KOp} (h0 : F .slow) (h : x ≠ .z → F k) : F (kop1 x k) := by
  cases x with
  | z => exact h0
  | s g => exact h (by simp)
  | c v => exact h (by simp)
theorem kop2_ind {F : KOp → Prop} {t : KT} {x : KX} {k : KOp} (h0 : F .slow) (h : t ≠ .z → x ≠ .z → F k) : F (kop2 t x k) := by
  cases t with
  | z => exact h0
  | s f => cases x with
    | z => exact h0
    | s g => exact h (by simp) (by simp)
    | c v => exact h (by simp) (by simp)
/-- What is to be shown of each. -/
def Good (C : Ctx) (cl : CallF) (sz : Nat) (o : Oper) (k : KOp) : Prop := ∀ fr ds hp nx kn kp, kdo k C cl sz o fr ds hp nx kn kp = opT C cl sz o fr ds hp nx kn kp
theorem good_slow {C : Ctx} {cl : CallF} {sz : Nat} {o : Oper} : Good C cl sz o .slow := fun _ _ _ _ _ _ => rfl
section
variable {C : Ctx} {cl : CallF} {sz : Nat} {o : Oper}
/-- A pure operation, with its value. -/
theorem opT_pure {fr : Fr} {ds : List ADef} {hp : Hp} {nx : Nat} {kn : KN} {kp : List APan → KN} {v : AV} (hc : cls C.P o.op = 0) (hv : pureA C.P o.op (opd fr) = some v) (ht : kt sz o.dst ≠ .z) :
    opT C cl sz o fr ds hp nx kn kp = kn (putT (kt sz o.dst) v.down fr) ds hp nx := by
  unfold opT
  simp only [hc, hv]
  exact putT_put ht
theorem good_mv {x : Operand} (ho : o.op = .move x ∨ o.op = .assign x) : Good C cl sz o (kop2 (kt sz o.dst) (kx x) (.mv (kt sz o.dst) (kx x))) := by
  refine kop2_ind good_slow fun ht hx fr ds hp nx kn kp => ?_
  show tTo (gx (kx x) fr) (kt sz o.dst) fr ds hp nx kn = _
  rw [tTo_eq, opd_gx hx]
  rcases ho with ho | ho <;> exact (opT_pure (by rw [ho]; rfl) (by rw [ho]; rfl) ht).symm
theorem brecR (a b : Res) (c : Bool) : (Bool.rec a b c : Res) = if c = true then b else a := by cases c <;> rfl
theorem limF_eq (k : IntKind) : limF k = lim k := by cases k <;> rfl
theorem kc_eq {k k' : IntKind} (h : Nat.beq (kc k) (kc k') = true) : k = k' := by
  have h := Nat.eq_of_beq_eq_true h
  cases k <;> cases k' <;> first | rfl | (exfalso; revert h; decide)
theorem kindEq_refl (k : IntKind) : kindEq k k = true := by cases k <;> rfl
theorem wrapA_of {k : IntKind} {n : Nat} (h : Nat.ble n (limF k) = true) : wrapA k (.ofNat n) = .ofNat n := by
  rw [limF_eq] at h; unfold wrapA; simp only [h]
theorem bOp_good {op : BinOp} {t : TypeId} {x y : Operand} {yt : TypeId} (ho : o.op = .binOp op t x y yt) (ht : kt sz o.dst ≠ .z) {k : IntKind} {a b : Nat} {fr : Fr} {ds : List ADef} {hp : Hp} {nx : Nat} {kn : KN} {kp : List APan → KN}
    (hx : opd fr x = .int k (.ofNat a)) (hy : opd fr y = .int k (.ofNat b)) : bOp op k a b (kt sz o.dst) C cl sz o fr ds hp nx kn kp = opT C cl sz o fr ds hp nx kn kp := by
  have key : ∀ v, intBin op k (.ofNat a) (.ofNat b) = some v → (op ≠ .shl ∧ op ≠ .shr) → opT C cl sz o fr ds hp nx kn kp = kn (putT (kt sz o.dst) v.down fr) ds hp nx := by
    intro v hv hne
    refine opT_pure (by rw [ho]; rfl) ?_ ht
    rw [ho]
    show binA C.P op t x y (opd fr x) (opd fr y) = some v
    rw [hx, hy]
    show intOp op k (.ofNat a) k (.ofNat b) = some v
    unfold intOp
    split
    · exact absurd rfl hne.1
    · exact absurd rfl hne.2
    · rw [kindEq_refl]; exact hv
  cases op <;> try rfl
  case add =>
    show (Bool.rec (opT C cl sz o fr ds hp nx kn kp) (kn (putT (kt sz o.dst) (.nat k (Nat.add a b)) fr) ds hp nx) (Nat.ble (Nat.add a b) (limF k)) : Res) = _
    rw [brecR]
    split
    · rename_i h
      exact (key (.int k (.ofNat (Nat.add a b))) (by show some (AV.int k (wrapA k (.ofNat (Nat.add a b)))) = _; rw [wrapA_of h]) (by simp)).symm
    · rfl
  case sub =>
    show (Bool.rec (opT C cl sz o fr ds hp nx kn kp) (Bool.rec (opT C cl sz o fr ds hp nx kn kp) (kn (putT (kt sz o.dst) (.nat k (Nat.sub a b)) fr) ds hp nx) (Nat.ble (Nat.sub a b) (limF k))) (Nat.ble b a) : Res) = _
    rw [brecR, brecR]
    split
    · rename_i h0
      split
      · rename_i h
        refine (key (.int k (.ofNat (Nat.sub a b))) ?_ (by simp)).symm
        show some (AV.int k (wrapA k (match Nat.ble b a with | true => .ofNat (Nat.sub a b) | false => Int.sub (.ofNat a) (.ofNat b)))) = _
        simp only [h0]
        rw [wrapA_of h]
      · rfl
    · rfl
  case mul =>
    show (Bool.rec (opT C cl sz o fr ds hp nx kn kp) (kn (putT (kt sz o.dst) (.nat k (Nat.mul a b)) fr) ds hp nx) (Nat.ble (Nat.mul a b) (limF k)) : Res) = _
    rw [brecR]
    split
    · rename_i h
      exact (key (.int k (.ofNat (Nat.mul a b))) (by show some (AV.int k (wrapA k (.ofNat (Nat.mul a b)))) = _; rw [wrapA_of h]) (by simp)).symm
    · rfl
  case eql => exact (key (.bool (Nat.beq a b)) rfl (by simp)).symm
  case neq =>
    refine eqT (key (.bool (!(Nat.beq a b))) rfl (by simp)).symm ?_
    show kn (putT _ (.bool (Bool.rec true false (Nat.beq a b))) fr) ds hp nx = _
    cases Nat.beq a b <;> rfl
  case lss =>
    refine eqT (key (.bool (!(Nat.ble b a))) rfl (by simp)).symm ?_
    show kn (putT _ (.bool (Bool.rec true false (Nat.ble b a))) fr) ds hp nx = _
    cases Nat.ble b a <;> rfl
  case leq => exact (key (.bool (Nat.ble a b)) rfl (by simp)).symm
  case gtr =>
    refine eqT (key (.bool (!(Nat.ble a b))) rfl (by simp)).symm ?_
    show kn (putT _ (.bool (Bool.rec true false (Nat.ble a b))) fr) ds hp nx = _
    cases Nat.ble a b <;> rfl
  case geq => exact (key (.bool (Nat.ble b a)) rfl (by simp)).symm
theorem good_bin {op : BinOp} {t : TypeId} {x y : Operand} {yt : TypeId} (ho : o.op = .binOp op t x y yt) : Good C cl sz o (kop2 (kt sz o.dst) (kx x) (kop1 (kx y) (.bin op (kt sz o.dst) (kx x) (kx y)))) := by
  refine kop2_ind good_slow fun ht hx => kop1_ind good_slow fun hy fr ds hp nx kn kp => ?_
  have ex := opd_gx hx fr
  have ey := opd_gx hy fr
  show aBin op (kt sz o.dst) (kx x) (kx y) C cl sz o fr ds hp nx kn kp = _
  unfold aBin
  cases hgx : gx (kx x) fr <;> try rfl
  rename_i k a
  rw [hgx] at ex
  show xN k a op (kt sz o.dst) (kx y) C cl sz o fr ds hp nx kn kp = _
  unfold xN
  cases hgy : gx (kx y) fr <;> try rfl
  rename_i k' b
  rw [hgy] at ey
  show (Bool.rec opT (bOp op k a b (kt sz o.dst)) (Nat.beq (kc k) (kc k')) : OpF) C cl sz o fr ds hp nx kn kp = _
  cases hk : Nat.beq (kc k) (kc k') with
  | false => rfl
  | true =>
    obtain rfl := kc_eq hk
    exact bOp_good ho ht ex.symm ey.symm
theorem good_nt {t : TypeId} {x : Operand} (ho : o.op = .unOp .not t x) : Good C cl sz o (kop2 (kt sz o.dst) (kx x) (.nt (kt sz o.dst) (kx x))) := by
  refine kop2_ind good_slow fun ht hx fr ds hp nx kn kp => ?_
  have ex := opd_gx hx fr
  show aNt (kt sz o.dst) (kx x) C cl sz o fr ds hp nx kn kp = _
  unfold aNt
  cases hgx : gx (kx x) fr <;> try rfl
  rename_i b
  rw [hgx] at ex
  have ex : opd fr x = .bool b := ex.symm
  refine eqT (opT_pure (v := .bool (!b)) (by rw [ho]; rfl) (by rw [ho]; show unA .not (opd fr x) = _; rw [ex]; rfl) ht).symm ?_
  cases b <;> rfl
theorem good_pick {c a b : Operand} (ho : o.op = .pick c a b) : Good C cl sz o (kop2 (kt sz o.dst) (kx c) (kop1 (kx a) (kop1 (kx b) (.pick (kt sz o.dst) (kx c) (kx a) (kx b))))) := by
  refine kop2_ind good_slow fun ht hc => kop1_ind good_slow fun ha => kop1_ind good_slow fun hb fr ds hp nx kn kp => ?_
  have ec := opd_gx hc fr
  show aPick (kt sz o.dst) (kx c) (kx a) (kx b) C cl sz o fr ds hp nx kn kp = _
  unfold aPick
  cases hgc : gx (kx c) fr <;> try rfl
  rename_i q
  rw [hgc] at ec
  have ec : opd fr c = .bool q := ec.symm
  show tTo (gx (Bool.rec (kx b) (kx a) q) fr) (kt sz o.dst) fr ds hp nx kn = _
  cases q with
  | true =>
    show tTo (gx (kx a) fr) (kt sz o.dst) fr ds hp nx kn = _
    rw [tTo_eq, opd_gx ha]
    exact (opT_pure (by rw [ho]; rfl) (by rw [ho]; show pickA (opd fr c) (opd fr a) (opd fr b) = _; rw [ec]; rfl) ht).symm
  | false =>
    show tTo (gx (kx b) fr) (kt sz o.dst) fr ds hp nx kn = _
    rw [tTo_eq, opd_gx hb]
    exact (opT_pure (by rw [ho]; rfl) (by rw [ho]; show pickA (opd fr c) (opd fr a) (opd fr b) = _; rw [ec]; rfl) ht).symm
end
end Go.Proofs.YtdjeokgkeejpcaaGreatDoor.AX

namespace Go.Proofs.YtdjeokgkeejpcaaGreatDoor.AX
open Go
section
variable {C : Ctx} {cl : CallF} {sz : Nat} {o : Oper}
theorem good_cv {src dst : TypeId} {x : Operand} {k0 k : IntKind} (ho : o.op = .convert src dst x) (hs : C.P.underlying src = some (.int k0)) (hd : C.P.underlying dst = some (.int k)) :
    Good C cl sz o (kop2 (kt sz o.dst) (kx x) (.cv (kt sz o.dst) k (kx x))) := by
  refine kop2_ind good_slow fun ht hx fr ds hp nx kn kp => ?_
  have ex := opd_gx hx fr
  show aCv (kt sz o.dst) k (kx x) C cl sz o fr ds hp nx kn kp = _
  unfold aCv
  cases hgx : gx (kx x) fr <;> try rfl
  rename_i k' n
  rw [hgx] at ex
  have ex : opd fr x = .int k' (.ofNat n) := ex.symm
  show (Bool.rec (opT C cl sz o fr ds hp nx kn kp) (kn (putT (kt sz o.dst) (.nat k n) fr) ds hp nx) (Nat.ble n (limF k)) : Res) = _
  rw [brecR]
  split
  · rename_i h
    refine (opT_pure (v := .int k (.ofNat n)) (by rw [ho]; simp [cls, hs]) ?_ ht).symm
    rw [ho]
    show convA C.P src dst (opd fr x) = _
    rw [ex]
    show (match C.P.underlying src, C.P.underlying dst with | some (.int _), some (.int k) => some (AV.int k (wrapA k (.ofNat n))) | _, _ => none) = _
    rw [hs, hd]
    show some (AV.int k (wrapA k (.ofNat n))) = _
    rw [wrapA_of h]
  · rfl
theorem good_ld {t : TypeId} {x : Operand} (ho : o.op = .load t x) (ha : isAggT C.P t = some false) : Good C cl sz o (kop2 (kt sz o.dst) (kx x) (.ld (kt sz o.dst) (kx x))) := by
  refine kop2_ind good_slow fun ht hx fr ds hp nx kn kp => ?_
  have ex := opd_gx hx fr
  show aLd (kt sz o.dst) (kx x) C cl sz o fr ds hp nx kn kp = _
  unfold aLd
  cases hgx : gx (kx x) fr <;> try rfl
  rename_i id off
  rw [hgx] at ex
  have ex : opd fr x = .ptr id off := ex.symm
  show (Option.rec lSlow lBlk (hp.get id) : LF) off (kt sz o.dst) C cl sz o fr ds hp nx kn kp = _
  cases hb : hp.get id with
  | none => rfl
  | some b =>
    cases b <;> try rfl
    rename_i c n f
    show (Bool.rec (opT C cl sz o fr ds hp nx kn kp) (Option.rec (opT C cl sz o fr ds hp nx kn kp) (fun v => tTo v (kt sz o.dst) fr ds hp nx kn) (c.t.get off)) (Nat.ble (Nat.succ off) n) : Res) = _
    rw [brecR]
    split
    · rename_i h
      cases hg : c.t.get off with
      | none => rfl
      | some v =>
        show tTo v (kt sz o.dst) fr ds hp nx kn = _
        rw [tTo_eq]
        have hr : readA C o.op (opd fr) hp = some v.up := by
          rw [ho]
          show loadA C t (opd fr x) hp = _
          rw [ex]
          show (match hp.get id with | some (.cells c n _) => loadCells C.P t c n off | _ => none) = _
          rw [hb]
          show loadCells C.P t c n off = _
          unfold loadCells
          simp only [ha, h]
          show (Option.rec none (fun v => some v.up) (c.t.get off) : Option AV) = _
          rw [hg]
        have hc : cls C.P o.op = 1 := by rw [ho]; rfl
        unfold opT
        simp only [hc, hr]
        exact (putT_put (k := fun fr => kn fr ds hp nx) ht).symm
    · rfl
theorem good_st {t : TypeId} {x v : Operand} (ho : o.op = .store t x v) (hd : o.dst = none) (h1 : isOne C.P t = true) : Good C cl sz o (kop1 (kx x) (kop1 (kx v) (.st (kx x) (kx v)))) := by
  refine kop1_ind good_slow fun hx => kop1_ind good_slow fun hv fr ds hp nx kn kp => ?_
  have ex := opd_gx hx fr
  have ev := opd_gx hv fr
  show aSt (kx x) (kx v) C cl sz o fr ds hp nx kn kp = _
  unfold aSt
  cases hgx : gx (kx x) fr <;> try rfl
  rename_i id off
  rw [hgx] at ex
  have ex : opd fr x = .ptr id off := ex.symm
  obtain ⟨ha, hz⟩ : isAggT C.P t = some false ∧ sizeT C.P t = some 1 := by
    unfold isOne at h1
    split at h1
    · rename_i h2
      split at h1
      · rename_i h3; exact ⟨h2, h3⟩
      · cases h1
    · cases h1
  have hc : cls C.P o.op = 3 := by rw [ho]; rfl
  have go : ∀ (u : FV), (gx (kx v) fr).up = u.up → varCells C.P t u.up = some [u.up] → atomB u.up = true → u.up.down = u → sAt u id off C cl sz o fr ds hp nx kn kp = opT C cl sz o fr ds hp nx kn kp := by
    intro u hu hvc hat hud
    show (Option.rec sSlow sBlk (hp.get id) : SF) id off u C cl sz o fr ds hp nx kn kp = _
    cases hb : hp.get id with
    | none => rfl
    | some b =>
      cases b <;> try rfl
      rename_i c n f
      show (Bool.rec (opT C cl sz o fr ds hp nx kn kp) (kn fr ds (hp.set id (.cells ⟨c.t.set off u⟩ n f)) nx) (Nat.ble (Nat.succ off) n) : Res) = _
      rw [brecR]
      split
      · rename_i h
        have hw : wA C cl o.op (opd fr) hp nx = .done (.tup []) (hp.set id (.cells ⟨c.t.set off u⟩ n f)) nx := by
          rw [ho]
          show storeA C t (opd fr x) (opd fr v) hp nx = _
          rw [ex, ← ev, hu]
          show (match hp.get id with
            | some (.cells c n cl) => match varCells C.P t u.up with
              | some l => match Nat.ble (Nat.add off l.length) n, atomsB l with
                | true, true => Res.done (.tup []) (hp.set id (.cells (writeL c off l) n cl)) nx
                | _, _ => .fail none
              | none => .fail none
            | _ => .fail none) = _
          rw [hb, hvc]
          have h' : Nat.ble (Nat.add off [u.up].length) n = true := h
          have ha' : atomsB [u.up] = true := by simp [atomsB, hat]
          simp only [h', ha']
          show Res.done _ (hp.set id (.cells ⟨c.t.set off u.up.down⟩ n f)) nx = _
          rw [hud]
        unfold opT
        simp only [hc, hw, hd]
        rfl
      · rfl
  show (sV (gx (kx v) fr)) id off C cl sz o fr ds hp nx kn kp = _
  cases hgv : gx (kx v) fr with
  | nat k n => exact go (.nat k n) (by rw [hgv]) (by simp [FV.up, varCells, ha, hz]) rfl rfl
  | bool b => exact go (.bool b) (by rw [hgv]) (by simp [FV.up, varCells, ha, hz]) rfl rfl
  | ptr i q => exact go (.ptr i q) (by rw [hgv]) (by simp [FV.up, varCells, ha, hz]) rfl rfl
  | slc i q l c => exact go (.slc i q l c) (by rw [hgv]) (by simp [FV.up, varCells, ha, hz]) rfl rfl
  | opn i q l z => exact go (.opn i q l z) (by rw [hgv]) (by simp [FV.up, varCells, ha, hz]) rfl rfl
  | oth v => rfl
theorem good_fa {s : TypeId} {x : Operand} {n : Nat} {fs : Array Field} {f : Field} {m : Nat} (ho : o.op = .fieldAddr s x n) (hu : C.P.underlying s = some (.struct fs)) (hf : fs[n]? = some f) (hz : sizeT C.P f.type = some (m + 1)) :
    Good C cl sz o (kop2 (kt sz o.dst) (kx x) (.fa (kt sz o.dst) f.offset (kx x))) := by
  refine kop2_ind good_slow fun ht hx fr ds hp nx kn kp => ?_
  have ex := opd_gx hx fr
  show aFa (kt sz o.dst) f.offset (kx x) C cl sz o fr ds hp nx kn kp = _
  unfold aFa
  cases hgx : gx (kx x) fr <;> try rfl
  rename_i id off
  rw [hgx] at ex
  have ex : opd fr x = .ptr id off := ex.symm
  refine (opT_pure (v := .ptr id (Nat.add off f.offset)) (by rw [ho]; rfl) ?_ ht).symm
  rw [ho]
  show fieldAddrA C.P s (opd fr x) n = _
  rw [ex]
  simp [fieldAddrA, hu, hf, hz]
theorem iAt_good {t : TypeId} {x i : Operand} {n id off len : Nat} {k : IntKind} {j : Nat} (ho : o.op = .indexAddr t x i) (ht : kt sz o.dst ≠ .z) {fr : Fr} {ds : List ADef} {hp : Hp} {nx : Nat} {kn : KN} {kp : List APan → KN} (ei : opd fr i = .int k (.ofNat j))
    (h : ∀ b : Bool, inB (.ofNat j) len = b → b = true → indexAddrA C.P t (opd fr x) (.int k (.ofNat j)) = some (.ptr id (Nat.add off (Nat.mul j n)))) :
    iAt id off len j (kt sz o.dst) n C cl sz o fr ds hp nx kn kp = opT C cl sz o fr ds hp nx kn kp := by
  show (Bool.rec (opT C cl sz o fr ds hp nx kn kp) (kn (putT (kt sz o.dst) (.ptr id (Nat.add off (Nat.mul j n))) fr) ds hp nx) (Nat.ble (Nat.succ j) len) : Res) = _
  rw [brecR]
  split
  · rename_i hb
    refine (opT_pure (v := .ptr id (Nat.add off (Nat.mul j n))) (by rw [ho]; rfl) ?_ ht).symm
    rw [ho]
    show indexAddrA C.P t (opd fr x) (opd fr i) = _
    rw [ei]
    exact h true hb rfl
  · rfl
theorem good_ia {t e : TypeId} {x i : Operand} {n : Nat} (ho : o.op = .indexAddr t x i) (hu : C.P.underlying t = some (.slice e)) (hz : sizeT C.P e = some n) :
    Good C cl sz o (kop2 (kt sz o.dst) (kx x) (kop1 (kx i) (.ia (kt sz o.dst) n (kx x) (kx i)))) := by
  refine kop2_ind good_slow fun ht hx => kop1_ind good_slow fun hi fr ds hp nx kn kp => ?_
  have ex := opd_gx hx fr
  have ei := opd_gx hi fr
  show aIa (kt sz o.dst) n (kx x) (kx i) C cl sz o fr ds hp nx kn kp = _
  unfold aIa
  cases hgi : gx (kx i) fr <;> try rfl
  rename_i k j
  rw [hgi] at ei
  show (iX (gx (kx x) fr)) j (kt sz o.dst) n C cl sz o fr ds hp nx kn kp = _
  cases hgx : gx (kx x) fr <;> try rfl
  · rename_i id off len cap
    rw [hgx] at ex
    refine iAt_good ho ht ei.symm fun b hb hbt => ?_
    subst hbt
    rw [← ex]
    simp only [indexAddrA, hu, hz, FV.up, hb]
    rfl
  · rename_i id off len z
    rw [hgx] at ex
    refine iAt_good ho ht ei.symm fun b hb hbt => ?_
    subst hbt
    rw [← ex]
    simp only [indexAddrA, hu, hz, FV.up, hb]
    rfl
theorem good_iaa {t e : TypeId} {x i : Operand} {n len : Nat} (ho : o.op = .indexAddr t x i) (hu : C.P.underlying t = some (.array len e)) (hz : sizeT C.P e = some n) :
    Good C cl sz o (kop2 (kt sz o.dst) (kx x) (kop1 (kx i) (.iaa (kt sz o.dst) len n (kx x) (kx i)))) := by
  refine kop2_ind good_slow fun ht hx => kop1_ind good_slow fun hi fr ds hp nx kn kp => ?_
  have ex := opd_gx hx fr
  have ei := opd_gx hi fr
  show aIaa (kt sz o.dst) len n (kx x) (kx i) C cl sz o fr ds hp nx kn kp = _
  unfold aIaa
  cases hgi : gx (kx i) fr <;> try rfl
  rename_i k j
  rw [hgi] at ei
  show (iA len (gx (kx x) fr)) j (kt sz o.dst) n C cl sz o fr ds hp nx kn kp = _
  cases hgx : gx (kx x) fr <;> try rfl
  rename_i id off
  rw [hgx] at ex
  refine iAt_good ho ht ei.symm fun b hb hbt => ?_
  subst hbt
  rw [← ex]
  simp only [indexAddrA, hu, hz, FV.up, hb]
  rfl
theorem good_len {c : Call} {t e : TypeId} {x : Operand} (ho : o.op = .call c) (hc : c.callee = .builtin .len) (h1 : c.argTypes[0]? = some t) (h2 : c.args[0]? = some x) (hu : C.P.underlying t = some (.slice e)) :
    Good C cl sz o (kop2 (kt sz o.dst) (kx x) (.len (kt sz o.dst) (kx x))) := by
  refine kop2_ind good_slow fun ht hx fr ds hp nx kn kp => ?_
  have ex := opd_gx hx fr
  have hcl : cls C.P o.op = 0 := by rw [ho]; simp [cls, hc, h1, hu]
  have hp0 : pureA C.P o.op (opd fr) = lenA C.P t (opd fr x) := by
    rw [ho]
    show (match c.callee with
      | .builtin .len => match c.argTypes[0]?, c.args[0]? with
        | some t, some x => lenA C.P t (opd fr x)
        | _, _ => none
      | .builtin .max => match c.args.toList.map (opd fr) with
        | x :: l => maxL x l
        | [] => none
      | .builtin .min => match c.args.toList.map (opd fr) with
        | x :: l => minL x l
        | [] => none
      | .builtin .cap => match c.argTypes[0]?, c.args[0]? with
        | some t, some x => capA C.P t (opd fr x)
        | _, _ => none
      | _ => none) = _
    rw [hc, h1, h2]
  show aLen (kt sz o.dst) (kx x) C cl sz o fr ds hp nx kn kp = _
  unfold aLen
  cases hgx : gx (kx x) fr <;> try rfl
  · rename_i id off l cap
    rw [hgx] at ex
    refine (opT_pure (v := .int .i64 (.ofNat l)) hcl ?_ ht).symm
    rw [hp0, ← ex]
    simp only [lenA, hu, FV.up]
  · rename_i id off l z
    rw [hgx] at ex
    refine (opT_pure (v := .int .i64 (.ofNat l)) hcl ?_ ht).symm
    rw [hp0, ← ex]
    simp only [lenA, hu, FV.up]
theorem good_kop : Good C cl sz o (kop C sz o) := by
  unfold kop
  split
  · rename_i ho; exact good_mv (.inl ho)
  · rename_i ho; exact good_mv (.inr ho)
  · rename_i ho; exact good_bin ho
  · rename_i ho; exact good_nt ho
  · rename_i ho; exact good_pick ho
  · rename_i ho
    split
    · rename_i h1 h2; exact good_cv ho h1 h2
    · exact good_slow
  · rename_i ho
    split
    · rename_i h1; exact good_ld ho h1
    · exact good_slow
  · rename_i ho
    split
    · rename_i h1 h2; exact good_st ho h1 h2
    · exact good_slow
  · rename_i ho
    split
    · rename_i h1
      split
      · rename_i h2
        split
        · rename_i h3; exact good_fa ho h1 h2 h3
        · exact good_slow
      · exact good_slow
    · exact good_slow
  · rename_i ho
    split
    · rename_i h1
      split
      · rename_i h2; exact good_ia ho h1 h2
      · exact good_slow
    · rename_i h1
      split
      · rename_i h2; exact good_iaa ho h1 h2
      · exact good_slow
    · exact good_slow
  · rename_i ho
    split
    · rename_i h0
      split
      · rename_i h1 h2
        split
        · rename_i h3; exact good_len ho h0 h1 h2 h3
        · exact good_slow
      · exact good_slow
    · exact good_slow
  · exact good_slow
theorem opW_eq (fr : Fr) (ds : List ADef) (hp : Hp) (nx : Nat) (kn : KN) (kp : List APan → KN) : opW C cl sz o fr ds hp nx kn kp = opT C cl sz o fr ds hp nx kn kp := good_kop fr ds hp nx kn kp
theorem opK_T {all : Array Oper} (fr : Fr) (ds : List ADef) (hp : Hp) (nx : Nat) (kn : KN) (kp : List APan → KN) : opK C cl sz all o fr ds hp nx kn kp = (match wantedA all fr o with
    | none => .fail (some o.pos)
    | some false => putK sz o.dst (.tup []) fr fun fr => kn fr ds hp nx
    | some true => opT C cl sz o fr ds hp nx kn kp) := rfl
theorem kx_at {x : Operand} {y : KX} (h : kx x = y) (hy : y ≠ .z) (fr : Fr) : (gx y fr).up = opd fr x := by
  subst h; exact opd_gx hy fr
theorem opS_eq {all : Array Oper} (fr : Fr) (ds : List ADef) (hp : Hp) (nx : Nat) (kn : KN) (kp : List APan → KN) : opS all C cl sz o fr ds hp nx kn kp = opK C cl sz all o fr ds hp nx kn kp := by
  show (KG.rec gNo gAt gSlow (kg all o) : GF) all C cl sz o fr ds hp nx kn kp = _
  have at_ : ∀ (j : Nat) (w : Bool) (d : Tmp) (x : KX), o.guard = some (j, w) → (all[j]?).bind (·.dst) = some d → kx (.tmp d) = x → x ≠ .z → gAt x w all C cl sz o fr ds hp nx kn kp = opK C cl sz all o fr ds hp nx kn kp := by
    intro j w d x hg hd hx hz
    have ex := kx_at hx hz fr
    have hw : wantedA all fr o = (match fr.get d with
      | some (.bool b) => some (b == w)
      | some (.tup _) => some false
      | _ => none) := by
      unfold wantedA
      simp only [hg, hd]
      rfl
    have hget : ∀ v, opd fr (.tmp d) = v → v ≠ .bad → fr.get d = some v := by
      intro v hv hb
      have hv : (match fr.get d with | some v => v | none => .bad) = v := hv
      cases hq : fr.get d with
      | none => rw [hq] at hv; exact absurd hv.symm hb
      | some u => rw [hq] at hv; exact congrArg some hv
    show (FV.rec (motive := fun _ => HF) (fun _ _ => hSlow) hB (fun _ _ => hSlow) (fun _ _ _ _ => hSlow) (fun _ _ _ _ => hSlow) hV (gx x fr)) w all C cl sz o fr ds hp nx kn kp = _
    cases hgx : gx x fr <;> try rfl
    · rename_i b
      rw [hgx] at ex
      have hgt := hget (.bool b) ex.symm (by simp)
      rw [opK_T, hw, hgt]
      cases b <;> cases w
      · exact opW_eq fr ds hp nx kn kp
      · rfl
      · rfl
      · exact opW_eq fr ds hp nx kn kp
    · rename_i v
      rw [hgx] at ex
      show (Bool.rec (gSlow all) skipT (isTup v) : OpF) C cl sz o fr ds hp nx kn kp = _
      cases hv : isTup v with
      | false => rfl
      | true =>
        unfold isTup at hv
        split at hv
        · rename_i l
          have hgt := hget (.tup l) ex.symm (by simp)
          rw [opK_T, hw, hgt]
          rfl
        · cases hv
  unfold kg
  split
  · rename_i hg
    show opW C cl sz o fr ds hp nx kn kp = _
    rw [opW_eq, opK_T]
    unfold wantedA
    simp only [hg]
  · rename_i j w hg
    split
    · rename_i d hd
      split
      · rfl
      · rename_i x hx
        exact at_ j w d _ hg hd rfl hx
    · rfl
end
theorem opsS_eq (C : Ctx) (cl : CallF) (sz : Nat) (all : Array Oper) (kn : KN) (kp : List APan → KN) : ∀ l, opsS C cl sz all l kn kp = opsK C cl sz all l kn kp
  | [] => rfl
  | o :: l => by
    funext fr ds hp nx
    show opS all C cl sz o fr ds hp nx (opsS C cl sz all l kn kp) kp = opK C cl sz all o fr ds hp nx (opsK C cl sz all l kn kp) kp
    rw [opsS_eq C cl sz all kn kp l, opS_eq]
theorem regionS_eq (C : Ctx) (cl : CallF) (sz : Nat) (ops : Array Oper) (draw : Bool) (kn : KN) (kp : List APan → KN) : regionS C cl sz ops draw kn kp = regionK C cl sz ops draw kn kp := by
  cases draw
  · exact opsS_eq C cl sz ops kn kp _
  · rfl
theorem condS_eq (c : Operand) (a b : KN) : condS c a b = condK c a b := by
  funext fr ds hp nx
  unfold condS
  cases hg : gx (kx c) fr <;> try rfl
  rename_i q
  have hz : kx c ≠ .z := by
    intro h
    rw [h] at hg
    cases hg
  have ec := opd_gx hz fr
  rw [hg] at ec
  have ec : opd fr c = .bool q := ec.symm
  show (Bool.rec b a q : KN) fr ds hp nx = condK c a b fr ds hp nx
  unfold condK
  rw [ec]
  cases q <;> rfl
theorem exS_eq (C : Ctx) (cl : CallF) (f : FuncId) (sz : Nat) (ro : Option Nat) : ∀ (c : Code), exS C cl f sz ro c = ex C cl f sz ro c := by
  intro c
  induction c with
  | skip => rfl
  | region id ops draw => funext kn kx kr kp; exact regionS_eq C cl sz ops draw kn kp
  | seq a b iha ihb =>
    funext kn kx kr kp
    show exS C cl f sz ro a (exS C cl f sz ro b kn kx kr kp) kx kr kp = ex C cl f sz ro a (ex C cl f sz ro b kn kx kr kp) kx kr kp
    rw [iha, ihb]
  | cond c a b iha ihb =>
    funext kn kx kr kp
    show condS c (exS C cl f sz ro a kn kx kr kp) (exS C cl f sz ro b kn kx kr kp) = condK c (ex C cl f sz ro a kn kx kr kp) (ex C cl f sz ro b kn kx kr kp)
    rw [iha, ihb, condS_eq]
  | block id a iha =>
    funext kn kx kr kp
    show exS C cl f sz ro a kn (fun i => Bool.rec (kx i) kn (Nat.beq i id)) kr kp = ex C cl f sz ro a kn (fun i => Bool.rec (kx i) kn (Nat.beq i id)) kr kp
    rw [iha]
  | loop a iha =>
    funext kn kx kr kp
    show loopK (fun kn => exS C cl f sz ro a kn kx kr kp) = loopK (fun kn => ex C cl f sz ro a kn kx kr kp)
    rw [iha]
  | rangeFunc g ps as bd _ _ => rfl
  | exit id => rfl
  | scope a iha =>
    funext kn kx kr kp
    show exS C cl f sz ro a kn kx kr kp = ex C cl f sz ro a kn kx kr kp
    rw [iha]
  | label l => rfl
  | goto l => rfl
  | ret => rfl
  | refuse w => rfl
theorem callS_eq (C : Ctx) : ∀ n, callS C n = callA C n := by
  intro n
  induction n with
  | zero => rfl
  | succ n ih =>
    funext t args hp nx
    cases t with
    | fn f =>
      rw [callA_fn, ← ih]
      simp only [← exS_eq]
      rfl
    | dfd f =>
      rw [callA_dfd, ← ih]
      simp only [← exS_eq]
      rfl
    | rnd l =>
      rw [callA_rnd, ← ih]
      simp only [← exS_eq]
      rfl
end Go.Proofs.YtdjeokgkeejpcaaGreatDoor.AX
