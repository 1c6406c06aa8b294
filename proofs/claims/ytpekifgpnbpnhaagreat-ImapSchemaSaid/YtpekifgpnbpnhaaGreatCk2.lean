/- A checkpoint of the machine's run: one call of function 19, its value and the memory that is needed behind it; no conditions. -/
import Derived.Test.YtpekifgpnbpnhaaGreatCk1
namespace Go.Proofs.YtpekifgpnbpnhaaGreat
open Go.Abs Go.RowKit
noncomputable def CkM2 : Memo := ⟨19,
  [(.str 1 116), (.slice (Pos.of 10303) 0 12 none 6)],
  ⟨(.node (.node (.node (.node (.node (.node (.node .leaf none (.node (.node (.node (.node (.node .leaf none (.node (.node .leaf (some (.cells (.node (.node (.node (.node (.node
    (.node (.node .leaf (some (.str 10 497609164509930675397477)) .leaf) (some (.str 3 7634035)) .leaf) (some (.str 8 7592915475762343540)) (.node .leaf (some (.str 0 0)) .leaf))
    (some (.str 7 32787880824024929)) (.node (.node (.node .leaf (some (.str 0 0)) .leaf) (some (.str 8 7592894576552669038)) .leaf) (some (.str 0 0)) (.node .leaf (some (.str 3
    7634036)) .leaf))) (some (.str 6 115858679819636)) (.node (.node (.node (.node .leaf (some (.str 3 7634036)) .leaf) (some (.str 0 0)) .leaf) (some (.str 3 7634035)) (.node .leaf
    (some (.str 6 115858713306482)) .leaf)) (some (.str 4 1718773093)) (.node (.node .leaf (some (.str 3 7634036)) .leaf) (some (.str 5 452572766580)) (.node .leaf (some (.str 0 0))
    .leaf)))) (some (.str 7 32787880824024929)) (.node (.node (.node (.node (.node .leaf (some (.str 0 0)) .leaf) (some (.str 6 115858713306482)) .leaf) (some (.str 4 1718773093))
    (.node .leaf (some (.str 3 7634036)) .leaf)) (some (.str 8 7592915475762343540)) (.node (.node .leaf (some (.str 0 0)) .leaf) (some (.str 3 7634035)) (.node .leaf (some (.str 10
    497609164509930675397477)) .leaf))) (some (.str 0 0)) (.node (.node (.node (.node .leaf (some (.str 6 115858713306482)) .leaf) (some (.str 3 7634036)) .leaf) (some (.str 5
    452572766580)) (.node .leaf (some (.str 0 0)) .leaf)) (some (.str 7 32787880824024930)) (.node (.node .leaf (some (.str 6 115858679819636)) .leaf) (some (.str 0 0)) (.node .leaf
    (some (.str 3 7634036)) .leaf))))) (some (.str 5 452572898673)) (.node (.node (.node (.node (.node (.node .leaf (some (.str 3 7634018)) .leaf) (some (.str 3 7825519)) .leaf)
    (some (.str 3 7634036)) (.node .leaf (some (.str 8 7592915475762343540)) .leaf)) (some (.str 4 1718773093)) (.node (.node .leaf (some (.str 5 500303357300)) .leaf) (some (.str 6
    115858679819636)) (.node .leaf (some (.str 8 8243121615520555877)) .leaf))) (some (.str 3 7634035)) (.node (.node (.node (.node .leaf (some (.str 4 1970496882)) .leaf) (some
    (.str 8 7592915475762343540)) .leaf) (some (.str 3 6382452)) (.node .leaf (some (.str 3 7634037)) .leaf)) (some (.str 5 452572898673)) (.node (.node .leaf (some (.str 5
    418430873463)) .leaf) (some (.str 3 7634017)) (.node .leaf (some (.str 8 7592915475762343540)) .leaf)))) (some (.str 5 418430873463)) (.node (.node (.node (.node (.node .leaf
    (some (.str 8 7592915475762343540)) .leaf) (some (.str 3 7634037)) .leaf) (some (.str 6 115858679819636)) (.node .leaf (some (.str 4 1718773093)) .leaf)) (some (.str 3 7634036))
    (.node (.node .leaf (some (.str 8 7592915475762343540)) .leaf) (some (.str 3 7497075)) (.node .leaf (some (.str 3 7634017)) .leaf))) (some (.str 5 452572898673)) (.node (.node
    (.node (.node .leaf (some (.str 3 7634037)) .leaf) (some (.str 6 107079782723438)) .leaf) (some (.str 3 7633962)) (.node .leaf (some (.str 8 7592915475762343540)) .leaf)) (some
    (.str 4 1718773093)) (.node (.node .leaf (some (.str 3 7634035)) .leaf) (some (.str 6 115858679819636)) (.node .leaf (some (.str 8 8243121615520555877)) .leaf)))))) 72 none))
    .leaf) none .leaf)) none .leaf) none .leaf) none .leaf) none .leaf)) none .leaf) none (.node (.node (.node .leaf none (.node .leaf none (.node .leaf none (.node (.node .leaf
    (some (.cells (.node (.node .leaf (some (.str 0 0)) .leaf) (some (.str 6 115858679819636)) (.node .leaf (some (.str 0 0)) .leaf)) 3 none)) .leaf) none .leaf)))) none .leaf) none
    .leaf)) none (.node .leaf none (.node .leaf none (.node (.node .leaf none (.node (.node .leaf none (.node .leaf none (.node (.node (.node .leaf (some (.cells (.node (.node (.node
    .leaf (some .nilslice) .leaf) (some (.bool false)) (.node .leaf (some (.slice (Pos.of 9910) 0 1 (some 1) 1)) .leaf)) (some (.str 1 115)) (.node (.node .leaf (some (.slice (Pos.of
    9909) 0 1 (some 1) 1)) .leaf) (some (.slice (Pos.of 9908) 0 1 (some 1) 1)) .leaf)) 6 none)) .leaf) none .leaf) none .leaf))) none .leaf)) none (.node .leaf none (.node .leaf none
    (.node (.node .leaf (some (.cells (.node (.node .leaf (some (.str 0 0)) .leaf) (some (.str 6 115858713306482)) (.node .leaf (some (.str 0 0)) .leaf)) 3 none)) .leaf) none (.node
    (.node (.node .leaf (some (.cells (.node (.node .leaf (some (.str 0 0)) .leaf) (some (.str 5 452572766580)) (.node .leaf (some (.str 0 0)) .leaf)) 3 none)) .leaf) none .leaf)
    none .leaf)))))))) none (.node (.node (.node (.node .leaf none (.node .leaf none (.node (.node (.node (.node .leaf (some (.cells (.node (.node .leaf (some (.str 0 0)) .leaf)
    (some (.str 8 7592894576552669038)) (.node .leaf (some (.str 0 0)) .leaf)) 3 none)) .leaf) none .leaf) none .leaf) none (.node .leaf none (.node .leaf none (.node (.node .leaf
    (some (.cells (.node (.node .leaf (some (.slice (Pos.of 6002) 0 1 none 3)) .leaf) (some (.str 3 6382452)) (.node .leaf (some .nilslice) .leaf)) 3 (some (Pos.of 6441)))) .leaf)
    none .leaf)))))) none .leaf) none (.node (.node .leaf none (.node (.node (.node (.node .leaf none (.node .leaf none (.node .leaf (some (.cells (.node (.node .leaf (some (.str 0
    0)) .leaf) (some (.str 6 115858679819636)) (.node .leaf (some (.str 0 0)) .leaf)) 3 none)) .leaf))) none .leaf) none (.node .leaf none (.node .leaf none (.node .leaf none (.node
    .leaf (some (.cells (.node (.node .leaf (some (.str 0 0)) .leaf) (some (.str 8 7592915475762343540)) (.node .leaf (some (.str 4 1718773093)) .leaf)) 3 none)) .leaf))))) none
    .leaf)) none (.node (.node (.node (.node (.node .leaf (some (.cells (.node (.node .leaf (some (.slice (Pos.of 994) 0 1 none 3)) .leaf) (some (.str 6 120282394289522)) (.node
    .leaf (some .nilslice) .leaf)) 3 none)) .leaf) none .leaf) none .leaf) none (.node (.node .leaf none (.node .leaf none (.node (.node (.node .leaf (some (.cells (.node (.node
    .leaf (some (.str 1 98)) .leaf) (some (.str 1 97)) .leaf) 2 none)) .leaf) none .leaf) none .leaf))) none .leaf)) none .leaf))) none (.node .leaf none (.node (.node .leaf none
    (.node (.node (.node .leaf none (.node .leaf none (.node .leaf (some (.cells (.node (.node .leaf (some (.str 0 0)) .leaf) (some (.str 7 29659748936019556)) (.node .leaf (some
    (.str 0 0)) .leaf)) 3 none)) .leaf))) none .leaf) none .leaf)) none (.node .leaf none (.node (.node .leaf none (.node (.node (.node .leaf none (.node .leaf (some (.cells (.node
    (.node (.node (.node (.node .leaf (some (.slice (Pos.of 6441) 0 2 none 3)) .leaf) (some .nilslice) .leaf) (some .nilslice) (.node .leaf (some (.slice (Pos.of 4114) 0 8 none 3))
    .leaf)) (some .nilslice) (.node (.node .leaf (some (.slice (Pos.of 1075) 0 1 none 3)) .leaf) (some .nilslice) (.node .leaf (some (.slice (Pos.of 5550) 0 3 none 3)) .leaf))) (some
    (.str 6 115858713306482)) (.node (.node (.node .leaf (some (.str 7 29659770460796272)) .leaf) (some (.str 10 497609164509930675397477)) (.node .leaf (some (.str 6
    115858679819636)) .leaf)) (some (.str 8 7592894576552669038)) (.node (.node .leaf (some (.str 8 7592915475762343540)) .leaf) (some (.str 5 452572766580)) (.node .leaf (some (.str
    7 29659748936019556)) .leaf)))) 16 (some (Pos.of 9904)))) .leaf)) none .leaf) none .leaf)) none .leaf)))))) none (.node (.node (.node (.node (.node .leaf none (.node .leaf none
    (.node .leaf none (.node .leaf none (.node .leaf none (.node .leaf (some (.cells (.node (.node .leaf (some (.str 0 0)) .leaf) (some (.str 6 115858713306482)) (.node .leaf (some
    (.str 0 0)) .leaf)) 3 none)) .leaf)))))) none .leaf) none (.node (.node (.node .leaf none (.node (.node .leaf none (.node (.node (.node .leaf (some (.cells (.node (.node (.node
    .leaf (some (.str 7 29659770460796272)) .leaf) (some (.str 0 0)) (.node .leaf (some (.str 6 120282394289522)) .leaf)) (some (.str 6 115858713306482)) (.node (.node .leaf (some
    (.str 0 0)) .leaf) (some (.str 0 0)) .leaf)) 6 (some (Pos.of 4566)))) .leaf) none .leaf) none .leaf)) none .leaf)) none .leaf) none (.node (.node .leaf none (.node (.node .leaf
    none (.node .leaf none (.node (.node (.node .leaf (some (.cells (.node .leaf (some (.str 1 117)) .leaf) 1 none)) .leaf) none .leaf) none .leaf))) none .leaf)) none .leaf))) none
    (.node (.node .leaf none (.node (.node (.node (.node .leaf none (.node (.node .leaf (some (.cells (.node (.node .leaf (some (.str 0 0)) .leaf) (some (.str 10
    497609164509930675397477)) (.node .leaf (some (.str 0 0)) .leaf)) 3 none)) .leaf) none .leaf)) none (.node (.node (.node .leaf none (.node .leaf (some (.cells (.node (.node
    (.node .leaf (some (.str 3 7497075)) .leaf) (some (.slice (Pos.of 6002) 0 1 none 3)) (.node .leaf (some .nilslice) .leaf)) (some (.str 3 6382452)) (.node (.node .leaf (some
    (.slice (Pos.of 6360) 0 1 none 3)) .leaf) (some .nilslice) .leaf)) 6 (some (Pos.of 6083)))) .leaf)) none .leaf) none .leaf)) none .leaf) none .leaf)) none (.node .leaf none
    (.node (.node .leaf none (.node .leaf none (.node (.node .leaf none (.node .leaf none (.node .leaf (some (.cells (.node (.node .leaf (some (.str 0 0)) .leaf) (some (.str 6
    115858713306482)) (.node .leaf (some (.str 0 0)) .leaf)) 3 none)) .leaf))) none .leaf))) none .leaf)))) none (.node (.node (.node .leaf none (.node .leaf none (.node .leaf none
    (.node .leaf none (.node (.node .leaf none (.node (.node (.node .leaf (some (.cells (.node (.node (.node (.node (.node .leaf (some (.int .i64 (.ofNat 2))) .leaf) (some (.str 4
    1718773093)) .leaf) (some (.int .i64 (.ofNat 1))) (.node (.node .leaf (some (.str 0 0)) .leaf) (some (.str 0 0)) .leaf)) (some (.str 5 418430873463)) (.node (.node (.node .leaf
    (some (.str 3 7825519)) .leaf) (some (.int .i64 (.ofNat 3))) .leaf) (some (.str 0 0)) (.node .leaf (some (.str 0 0)) .leaf))) (some (.int .i64 (.ofNat 2))) (.node (.node (.node
    (.node .leaf (some (.str 4 1684369017)) .leaf) (some (.str 0 0)) .leaf) (some (.str 6 131294808271214)) (.node (.node .leaf (some (.str 0 0)) .leaf) (some (.int .i64 (.ofNat 5)))
    .leaf)) (some (.str 3 7825519)) (.node (.node (.node .leaf (some (.int .i64 (.ofNat 4))) .leaf) (some (.str 0 0)) .leaf) (some (.int .i64 (.ofNat 1))) (.node .leaf (some (.str 0
    0)) .leaf)))) 21 (some (Pos.of 9648)))) .leaf) none .leaf) none .leaf)) none .leaf))))) none (.node .leaf none (.node (.node .leaf none (.node (.node .leaf none (.node .leaf none
    (.node (.node (.node .leaf (some (.cells (.node .leaf (some (.str 1 42)) .leaf) 1 none)) .leaf) none .leaf) none .leaf))) none .leaf)) none (.node .leaf none (.node (.node (.node
    .leaf none (.node .leaf (some (.cells (.node (.node .leaf (some (.str 0 0)) .leaf) (some (.str 6 115858679819636)) (.node .leaf (some (.str 0 0)) .leaf)) 3 none)) .leaf)) none
    .leaf) none .leaf))))) none (.node (.node .leaf none (.node .leaf none (.node .leaf none (.node (.node .leaf none (.node (.node .leaf none (.node .leaf (some (.cells (.node
    (.node .leaf (some (.str 0 0)) .leaf) (some (.str 6 115858679819636)) (.node .leaf (some (.str 0 0)) .leaf)) 3 none)) .leaf)) none .leaf)) none .leaf)))) none (.node (.node .leaf
    none (.node (.node .leaf none (.node (.node .leaf none (.node (.node .leaf (some (.cells (.node (.node .leaf (some (.str 0 0)) .leaf) (some (.str 5 452572766580)) (.node .leaf
    (some (.str 0 0)) .leaf)) 3 none)) .leaf) none .leaf)) none (.node .leaf (some (.cells (.node (.node .leaf (some (.str 0 0)) .leaf) (some (.str 7 29659770460796272)) (.node .leaf
    (some (.str 0 0)) .leaf)) 3 none)) .leaf))) none .leaf)) none .leaf))))) none (.node (.node (.node (.node .leaf none (.node .leaf none (.node (.node .leaf none (.node (.node
    .leaf none (.node .leaf none (.node (.node (.node .leaf (some (.cells (.node (.node (.node (.node (.node .leaf (some (.slice (Pos.of 6441) 0 2 none 3)) .leaf) (some .nilslice)
    .leaf) (some .nilslice) (.node .leaf (some (.slice (Pos.of 4114) 0 8 none 3)) .leaf)) (some .nilslice) (.node (.node (.node .leaf (some (.slice (Pos.of 9822) 0 5 none 3)) .leaf)
    (some (.slice (Pos.of 1075) 0 1 none 3)) .leaf) (some .nilslice) (.node .leaf (some (.slice (Pos.of 5550) 0 3 none 3)) .leaf))) (some (.str 6 115858713306482)) (.node (.node
    (.node (.node .leaf (some (.str 5 452572898673)) .leaf) (some (.str 7 29659770460796272)) .leaf) (some (.str 10 497609164509930675397477)) (.node .leaf (some (.str 6
    115858679819636)) .leaf)) (some (.str 8 7592894576552669038)) (.node (.node .leaf (some (.str 8 7592915475762343540)) .leaf) (some (.str 5 452572766580)) (.node .leaf (some (.str
    7 29659748936019556)) .leaf)))) 18 (some (Pos.of 6523)))) .leaf) none .leaf) none .leaf))) none (.node (.node .leaf none (.node (.node (.node .leaf (some (.cells (.node (.node
    (.node (.node (.node .leaf (some (.int .i64 (.ofNat 2))) .leaf) (some (.str 4 1718773093)) .leaf) (some (.int .i64 (.ofNat 1))) (.node .leaf (some (.str 0 0)) .leaf)) (some (.str
    5 418430873463)) (.node (.node (.node .leaf (some (.str 3 7825519)) .leaf) (some (.int .i64 (.ofNat 3))) .leaf) (some (.str 0 0)) (.node .leaf (some (.str 0 0)) .leaf))) (some
    (.int .i64 (.ofNat 2))) (.node (.node (.node (.node .leaf (some (.str 4 1684369017)) .leaf) (some (.str 0 0)) .leaf) (some (.str 6 131294808271214)) (.node .leaf (some (.int .i64
    (.ofNat 5))) .leaf)) (some (.str 3 7825519)) (.node (.node .leaf (some (.str 0 0)) .leaf) (some (.int .i64 (.ofNat 1))) (.node .leaf (some (.str 0 0)) .leaf)))) 18 (some (Pos.of
    9701)))) .leaf) none .leaf) none .leaf)) none .leaf))) none .leaf))) none (.node (.node (.node .leaf none (.node (.node (.node (.node .leaf none (.node (.node .leaf (some (.cells
    (.node (.node (.node .leaf (some (.str 3 6382452)) .leaf) (some (.slice (Pos.of 4753) 0 2 none 3)) (.node .leaf (some .nilslice) .leaf)) (some (.str 3 7825519)) (.node (.node
    .leaf (some (.slice (Pos.of 5111) 0 1 none 3)) .leaf) (some .nilslice) .leaf)) 6 (some (Pos.of 5550)))) .leaf) none .leaf)) none .leaf) none .leaf) none .leaf)) none .leaf) none
    (.node (.node .leaf none (.node .leaf none (.node (.node (.node (.node .leaf none (.node .leaf (some (.cells (.node (.node .leaf (some (.str 0 0)) .leaf) (some (.str 5
    452572766580)) (.node .leaf (some (.str 0 0)) .leaf)) 3 none)) .leaf)) none .leaf) none .leaf) none .leaf))) none (.node (.node .leaf none (.node (.node .leaf none (.node .leaf
    none (.node (.node (.node .leaf (some (.cells (.node (.node (.node .leaf (some .nilslice) .leaf) (some (.slice (Pos.of 9906) 0 1 (some 1) 1)) (.node .leaf (some .nilslice)
    .leaf)) (some (.slice (Pos.of 9905) 0 1 (some 1) 1)) (.node (.node .leaf (some (.slice (Pos.of 9911) 0 1 (some 1) 6)) .leaf) (some (.slice (Pos.of 9907) 0 2 (some 2) 1)) .leaf))
    6 none)) .leaf) none .leaf) none .leaf))) none .leaf)) none .leaf)))) none (.node (.node (.node .leaf none (.node (.node .leaf none (.node .leaf none (.node .leaf none (.node
    .leaf none (.node .leaf none (.node .leaf (some (.cells (.node (.node (.node (.node .leaf (some (.slice (Pos.of 7609) 0 1 none 3)) .leaf) (some (.str 4 1684369017)) (.node .leaf
    (some .nilslice) .leaf)) (some (.slice (Pos.of 6893) 0 1 none 3)) (.node (.node .leaf (some (.str 4 1718773093)) .leaf) (some .nilslice) .leaf)) (some (.str 5 418430873463))
    (.node (.node (.node .leaf (some .nilslice) .leaf) (some (.slice (Pos.of 7251) 0 1 none 3)) .leaf) (some .nilslice) (.node (.node .leaf (some (.slice (Pos.of 8019) 0 1 none 3))
    .leaf) (some (.str 6 131294808271214)) .leaf))) 12 (some (Pos.of 9822)))) .leaf)))))) none .leaf)) none (.node .leaf none (.node (.node .leaf none (.node (.node .leaf none (.node
    .leaf none (.node (.node (.node .leaf (some (.cells (.node .leaf (some (.str 1 117)) .leaf) 1 none)) .leaf) none .leaf) none .leaf))) none .leaf)) none .leaf))) none (.node
    (.node .leaf none (.node (.node .leaf none (.node (.node .leaf none (.node .leaf none (.node .leaf (some (.cells (.node (.node (.node (.node (.node .leaf (some (.str 4
    1684369017)) .leaf) (some (.slice (Pos.of 2243) 0 1 none 3)) .leaf) (some (.str 5 444301538672)) (.node (.node .leaf (some (.slice (Pos.of 3675) 0 1 none 3)) .leaf) (some
    .nilslice) .leaf)) (some (.slice (Pos.of 1527) 0 1 none 3)) (.node (.node (.node .leaf (some .nilslice) .leaf) (some (.str 8 8243121615520555877)) .leaf) (some .nilslice) (.node
    .leaf (some (.slice (Pos.of 2959) 0 1 none 3)) .leaf))) (some (.str 4 1970496882)) (.node (.node (.node (.node .leaf (some (.slice (Pos.of 3317) 0 1 none 3)) .leaf) (some
    .nilslice) .leaf) (some (.slice (Pos.of 1885) 0 1 none 3)) (.node (.node .leaf (some .nilslice) .leaf) (some (.str 5 418430873463)) .leaf)) (some .nilslice) (.node (.node (.node
    .leaf (some (.str 5 422776761956)) .leaf) (some (.slice (Pos.of 2601) 0 1 none 3)) .leaf) (some (.str 6 107079782723438)) (.node .leaf (some .nilslice) .leaf)))) 21 (some (Pos.of
    4114)))) .leaf))) none .leaf)) none .leaf)) none .leaf))) none (.node (.node (.node (.node .leaf none (.node .leaf none (.node .leaf none (.node .leaf none (.node .leaf (some
    (.cells (.node (.node .leaf (some (.str 0 0)) .leaf) (some (.str 6 115858713306482)) (.node .leaf (some (.str 0 0)) .leaf)) 3 none)) .leaf))))) none (.node (.node (.node (.node
    (.node (.node (.node (.node .leaf (some (.cells (.node (.node (.node (.node (.node .leaf (some (.str 4 1684369017)) .leaf) (some (.slice (Pos.of 2243) 0 1 none 3)) (.node .leaf
    (some .nilslice) .leaf)) (some (.str 5 444301538672)) (.node (.node .leaf (some (.slice (Pos.of 3675) 0 1 none 3)) .leaf) (some .nilslice) .leaf)) (some (.slice (Pos.of 1527) 0 1
    none 3)) (.node (.node (.node .leaf (some .nilslice) .leaf) (some (.str 8 8243121615520555877)) .leaf) (some .nilslice) (.node (.node .leaf (some (.str 4 1718773093)) .leaf)
    (some (.slice (Pos.of 2959) 0 1 none 3)) .leaf))) (some (.str 4 1970496882)) (.node (.node (.node (.node .leaf (some (.slice (Pos.of 3317) 0 1 none 3)) .leaf) (some .nilslice)
    .leaf) (some (.slice (Pos.of 1885) 0 1 none 3)) (.node (.node .leaf (some .nilslice) .leaf) (some (.str 5 418430873463)) .leaf)) (some .nilslice) (.node (.node (.node .leaf (some
    (.str 5 422776761956)) .leaf) (some (.slice (Pos.of 2601) 0 1 none 3)) .leaf) (some (.str 6 107079782723438)) (.node (.node .leaf (some (.slice (Pos.of 4033) 0 1 none 3)) .leaf)
    (some .nilslice) .leaf)))) 24 (some (Pos.of 3756)))) .leaf) none .leaf) none .leaf) none .leaf) none .leaf) none .leaf) none .leaf) none (.node (.node .leaf none (.node (.node
    .leaf none (.node .leaf none (.node (.node (.node .leaf (some (.cells (.node .leaf (some (.str 3 6776180)) .leaf) 1 none)) .leaf) none .leaf) none .leaf))) none .leaf)) none
    (.node (.node .leaf none (.node .leaf none (.node .leaf none (.node (.node .leaf (some (.cells (.node (.node .leaf (some (.str 0 0)) .leaf) (some (.str 5 452572766580)) (.node
    .leaf (some (.str 0 0)) .leaf)) 3 none)) .leaf) none .leaf)))) none .leaf)))) none .leaf) none (.node (.node .leaf none (.node (.node .leaf none (.node .leaf none (.node .leaf
    none (.node (.node (.node (.node .leaf (some (.cells (.node (.node .leaf (some (.str 0 0)) .leaf) (some (.str 6 115858713306482)) (.node .leaf (some (.str 0 0)) .leaf)) 3 (some
    (Pos.of 4753)))) .leaf) none .leaf) none .leaf) none .leaf)))) none (.node (.node .leaf none (.node (.node .leaf none (.node .leaf none (.node (.node (.node .leaf (some (.cells
    (.node .leaf (some (.str 1 97)) .leaf) 1 none)) .leaf) none .leaf) none .leaf))) none .leaf)) none .leaf))) none (.node (.node .leaf none (.node (.node .leaf none (.node .leaf
    none (.node (.node .leaf none (.node (.node .leaf (some (.cells (.node (.node (.node (.node .leaf (some (.slice (Pos.of 5469) 0 1 none 3)) .leaf) (some (.str 3 6382452)) .leaf)
    (some (.slice (Pos.of 4753) 0 2 none 3)) (.node .leaf (some .nilslice) .leaf)) (some (.str 3 7825519)) (.node (.node (.node .leaf (some .nilslice) .leaf) (some (.slice (Pos.of
    5111) 0 1 none 3)) .leaf) (some .nilslice) (.node .leaf (some (.str 3 7497075)) .leaf))) 9 (some (Pos.of 5192)))) .leaf) none .leaf)) none .leaf))) none .leaf)) none (.node
    (.node .leaf none (.node (.node (.node .leaf none (.node .leaf none (.node (.node (.node .leaf (some (.cells (.node (.node (.node (.node .leaf (some (.slice (Pos.of 7609) 0 1
    none 3)) .leaf) (some (.str 4 1684369017)) (.node .leaf (some .nilslice) .leaf)) (some (.slice (Pos.of 6893) 0 1 none 3)) (.node (.node .leaf (some (.str 4 1718773093)) .leaf)
    (some .nilslice) (.node .leaf (some .nilslice) .leaf))) (some (.str 5 418430873463)) (.node (.node (.node .leaf (some .nilslice) .leaf) (some (.slice (Pos.of 7251) 0 1 none 3))
    (.node .leaf (some (.str 3 6513006)) .leaf)) (some .nilslice) (.node (.node .leaf (some (.slice (Pos.of 8019) 0 1 none 3)) .leaf) (some (.str 6 131294808271214)) (.node .leaf
    (some (.slice (Pos.of 9701) 0 7 none 3)) .leaf)))) 15 (some (Pos.of 8100)))) .leaf) none .leaf) none .leaf))) none .leaf) none .leaf)) none .leaf)))))), Pos.of 15476⟩,
  (.tup [(.agg [(.slice (Pos.of 17002) 0 1 none 1), (.slice (Pos.of 17004) 0 1 none 1), (.slice (Pos.of 17006) 0 2 none 1), .nilslice, (.slice (Pos.of 17062) 0 1 none 6),
    .nilslice]), (.bool true)]),
  ⟨(.node (.node (.node (.node (.node (.node (.node .leaf none (.node (.node (.node (.node (.node .leaf none (.node (.node .leaf (some (.cells (.node (.node (.node (.node (.node
    (.node (.node .leaf (some (.str 10 497609164509930675397477)) .leaf) (some (.str 3 7634035)) .leaf) (some (.str 8 7592915475762343540)) (.node .leaf (some (.str 0 0)) .leaf))
    (some (.str 7 32787880824024929)) (.node (.node (.node .leaf (some (.str 0 0)) .leaf) (some (.str 8 7592894576552669038)) .leaf) (some (.str 0 0)) (.node .leaf (some (.str 3
    7634036)) .leaf))) (some (.str 6 115858679819636)) (.node (.node (.node (.node .leaf (some (.str 3 7634036)) .leaf) (some (.str 0 0)) .leaf) (some (.str 3 7634035)) (.node .leaf
    (some (.str 6 115858713306482)) .leaf)) (some (.str 4 1718773093)) (.node (.node .leaf (some (.str 3 7634036)) .leaf) (some (.str 5 452572766580)) (.node .leaf (some (.str 0 0))
    .leaf)))) (some (.str 7 32787880824024929)) (.node (.node (.node (.node (.node .leaf (some (.str 0 0)) .leaf) (some (.str 6 115858713306482)) .leaf) (some (.str 4 1718773093))
    (.node .leaf (some (.str 3 7634036)) .leaf)) (some (.str 8 7592915475762343540)) (.node (.node .leaf (some (.str 0 0)) .leaf) (some (.str 3 7634035)) (.node .leaf (some (.str 10
    497609164509930675397477)) .leaf))) (some (.str 0 0)) (.node (.node (.node (.node .leaf (some (.str 6 115858713306482)) .leaf) (some (.str 3 7634036)) .leaf) (some (.str 5
    452572766580)) (.node .leaf (some (.str 0 0)) .leaf)) (some (.str 7 32787880824024930)) (.node (.node .leaf (some (.str 6 115858679819636)) .leaf) (some (.str 0 0)) (.node .leaf
    (some (.str 3 7634036)) .leaf))))) (some (.str 5 452572898673)) (.node (.node (.node (.node (.node (.node .leaf (some (.str 3 7634018)) .leaf) (some (.str 3 7825519)) .leaf)
    (some (.str 3 7634036)) (.node .leaf (some (.str 8 7592915475762343540)) .leaf)) (some (.str 4 1718773093)) (.node (.node .leaf (some (.str 5 500303357300)) .leaf) (some (.str 6
    115858679819636)) (.node .leaf (some (.str 8 8243121615520555877)) .leaf))) (some (.str 3 7634035)) (.node (.node (.node (.node .leaf (some (.str 4 1970496882)) .leaf) (some
    (.str 8 7592915475762343540)) .leaf) (some (.str 3 6382452)) (.node .leaf (some (.str 3 7634037)) .leaf)) (some (.str 5 452572898673)) (.node (.node .leaf (some (.str 5
    418430873463)) .leaf) (some (.str 3 7634017)) (.node .leaf (some (.str 8 7592915475762343540)) .leaf)))) (some (.str 5 418430873463)) (.node (.node (.node (.node (.node .leaf
    (some (.str 8 7592915475762343540)) .leaf) (some (.str 3 7634037)) .leaf) (some (.str 6 115858679819636)) (.node .leaf (some (.str 4 1718773093)) .leaf)) (some (.str 3 7634036))
    (.node (.node .leaf (some (.str 8 7592915475762343540)) .leaf) (some (.str 3 7497075)) (.node .leaf (some (.str 3 7634017)) .leaf))) (some (.str 5 452572898673)) (.node (.node
    (.node (.node .leaf (some (.str 3 7634037)) .leaf) (some (.str 6 107079782723438)) .leaf) (some (.str 3 7633962)) (.node .leaf (some (.str 8 7592915475762343540)) .leaf)) (some
    (.str 4 1718773093)) (.node (.node .leaf (some (.str 3 7634035)) .leaf) (some (.str 6 115858679819636)) (.node .leaf (some (.str 8 8243121615520555877)) .leaf)))))) 72 none))
    .leaf) none .leaf)) none .leaf) none .leaf) none .leaf) none .leaf)) none .leaf) none (.node (.node (.node .leaf none (.node .leaf none (.node .leaf none (.node (.node .leaf
    (some (.cells (.node (.node .leaf (some (.str 0 0)) .leaf) (some (.str 6 115858679819636)) (.node .leaf (some (.str 0 0)) .leaf)) 3 none)) .leaf) none .leaf)))) none .leaf) none
    .leaf)) none (.node .leaf none (.node .leaf none (.node (.node .leaf none (.node (.node .leaf none (.node .leaf none (.node (.node (.node .leaf (some (.cells (.node (.node (.node
    .leaf (some .nilslice) .leaf) (some (.bool false)) (.node .leaf (some (.slice (Pos.of 9910) 0 1 (some 1) 1)) .leaf)) (some (.str 1 115)) (.node (.node .leaf (some (.slice (Pos.of
    9909) 0 1 (some 1) 1)) .leaf) (some (.slice (Pos.of 9908) 0 1 (some 1) 1)) .leaf)) 6 none)) .leaf) none .leaf) none .leaf))) none .leaf)) none (.node .leaf none (.node .leaf none
    (.node (.node .leaf (some (.cells (.node (.node .leaf (some (.str 0 0)) .leaf) (some (.str 6 115858713306482)) (.node .leaf (some (.str 0 0)) .leaf)) 3 none)) .leaf) none (.node
    (.node (.node .leaf (some (.cells (.node (.node .leaf (some (.str 0 0)) .leaf) (some (.str 5 452572766580)) (.node .leaf (some (.str 0 0)) .leaf)) 3 none)) .leaf) none .leaf)
    none .leaf)))))))) none (.node (.node (.node (.node .leaf none (.node .leaf none (.node (.node (.node (.node .leaf (some (.cells (.node (.node .leaf (some (.str 0 0)) .leaf)
    (some (.str 8 7592894576552669038)) (.node .leaf (some (.str 0 0)) .leaf)) 3 none)) .leaf) none .leaf) none .leaf) none (.node .leaf none (.node .leaf none (.node (.node .leaf
    (some (.cells (.node (.node .leaf (some (.slice (Pos.of 6002) 0 1 none 3)) .leaf) (some (.str 3 6382452)) (.node .leaf (some .nilslice) .leaf)) 3 (some (Pos.of 6441)))) .leaf)
    none .leaf)))))) none (.node (.node .leaf none (.node (.node .leaf none (.node (.node (.node (.node (.node .leaf (some (.cells (.node .leaf (some (.str 1 42)) .leaf) 1 none))
    .leaf) none .leaf) none .leaf) none .leaf) none .leaf)) none .leaf)) none .leaf)) none (.node (.node .leaf none (.node (.node (.node (.node .leaf none (.node .leaf none (.node
    .leaf (some (.cells (.node (.node .leaf (some (.str 0 0)) .leaf) (some (.str 6 115858679819636)) (.node .leaf (some (.str 0 0)) .leaf)) 3 none)) .leaf))) none .leaf) none (.node
    .leaf none (.node .leaf none (.node .leaf none (.node .leaf (some (.cells (.node (.node .leaf (some (.str 0 0)) .leaf) (some (.str 8 7592915475762343540)) (.node .leaf (some
    (.str 4 1718773093)) .leaf)) 3 none)) .leaf))))) none .leaf)) none (.node (.node (.node (.node (.node .leaf (some (.cells (.node (.node .leaf (some (.slice (Pos.of 994) 0 1 none
    3)) .leaf) (some (.str 6 120282394289522)) (.node .leaf (some .nilslice) .leaf)) 3 none)) .leaf) none .leaf) none .leaf) none (.node (.node .leaf none (.node .leaf none (.node
    (.node (.node .leaf (some (.cells (.node (.node .leaf (some (.str 1 98)) .leaf) (some (.str 1 97)) .leaf) 2 none)) .leaf) none .leaf) none .leaf))) none .leaf)) none .leaf)))
    none (.node .leaf none (.node (.node .leaf none (.node (.node (.node .leaf none (.node .leaf none (.node .leaf (some (.cells (.node (.node .leaf (some (.str 0 0)) .leaf) (some
    (.str 7 29659748936019556)) (.node .leaf (some (.str 0 0)) .leaf)) 3 none)) .leaf))) none .leaf) none .leaf)) none (.node .leaf none (.node (.node .leaf none (.node (.node (.node
    .leaf none (.node .leaf (some (.cells (.node (.node (.node (.node (.node .leaf (some (.slice (Pos.of 6441) 0 2 none 3)) .leaf) (some .nilslice) .leaf) (some .nilslice) (.node
    .leaf (some (.slice (Pos.of 4114) 0 8 none 3)) .leaf)) (some .nilslice) (.node (.node .leaf (some (.slice (Pos.of 1075) 0 1 none 3)) .leaf) (some .nilslice) (.node .leaf (some
    (.slice (Pos.of 5550) 0 3 none 3)) .leaf))) (some (.str 6 115858713306482)) (.node (.node (.node .leaf (some (.str 7 29659770460796272)) .leaf) (some (.str 10
    497609164509930675397477)) (.node .leaf (some (.str 6 115858679819636)) .leaf)) (some (.str 8 7592894576552669038)) (.node (.node .leaf (some (.str 8 7592915475762343540)) .leaf)
    (some (.str 5 452572766580)) (.node .leaf (some (.str 7 29659748936019556)) .leaf)))) 16 (some (Pos.of 9904)))) .leaf)) none .leaf) none .leaf)) none .leaf)))))) none (.node
    (.node (.node (.node (.node .leaf none (.node .leaf none (.node .leaf none (.node .leaf none (.node .leaf none (.node .leaf (some (.cells (.node (.node .leaf (some (.str 0 0))
    .leaf) (some (.str 6 115858713306482)) (.node .leaf (some (.str 0 0)) .leaf)) 3 none)) .leaf)))))) none (.node (.node .leaf none (.node (.node .leaf none (.node (.node (.node
    (.node (.node .leaf (some (.cells (.node .leaf (some (.str 1 117)) .leaf) 1 none)) .leaf) none .leaf) none .leaf) none .leaf) none .leaf)) none .leaf)) none .leaf)) none (.node
    (.node (.node .leaf none (.node (.node .leaf none (.node (.node (.node .leaf (some (.cells (.node (.node (.node .leaf (some (.str 7 29659770460796272)) .leaf) (some (.str 0 0))
    (.node .leaf (some (.str 6 120282394289522)) .leaf)) (some (.str 6 115858713306482)) (.node (.node .leaf (some (.str 0 0)) .leaf) (some (.str 0 0)) .leaf)) 6 (some (Pos.of
    4566)))) .leaf) none .leaf) none .leaf)) none .leaf)) none .leaf) none (.node (.node .leaf none (.node (.node .leaf none (.node .leaf none (.node (.node (.node .leaf (some
    (.cells (.node .leaf (some (.str 1 117)) .leaf) 1 none)) .leaf) none .leaf) none .leaf))) none .leaf)) none .leaf))) none (.node (.node .leaf none (.node (.node (.node (.node
    .leaf none (.node (.node .leaf (some (.cells (.node (.node .leaf (some (.str 0 0)) .leaf) (some (.str 10 497609164509930675397477)) (.node .leaf (some (.str 0 0)) .leaf)) 3
    none)) .leaf) none .leaf)) none (.node (.node (.node .leaf none (.node .leaf (some (.cells (.node (.node (.node .leaf (some (.str 3 7497075)) .leaf) (some (.slice (Pos.of 6002) 0
    1 none 3)) (.node .leaf (some .nilslice) .leaf)) (some (.str 3 6382452)) (.node (.node .leaf (some (.slice (Pos.of 6360) 0 1 none 3)) .leaf) (some .nilslice) .leaf)) 6 (some
    (Pos.of 6083)))) .leaf)) none .leaf) none .leaf)) none .leaf) none .leaf)) none (.node .leaf none (.node (.node .leaf none (.node .leaf none (.node (.node .leaf none (.node .leaf
    none (.node .leaf (some (.cells (.node (.node .leaf (some (.str 0 0)) .leaf) (some (.str 6 115858713306482)) (.node .leaf (some (.str 0 0)) .leaf)) 3 none)) .leaf))) none
    .leaf))) none .leaf)))) none (.node (.node (.node .leaf none (.node (.node .leaf none (.node (.node .leaf none (.node (.node (.node (.node (.node .leaf (some (.cells (.node .leaf
    (some (.str 1 97)) .leaf) 1 none)) .leaf) none .leaf) none .leaf) none .leaf) none .leaf)) none .leaf)) none (.node .leaf none (.node .leaf none (.node (.node .leaf none (.node
    (.node (.node .leaf (some (.cells (.node (.node (.node (.node (.node .leaf (some (.int .i64 (.ofNat 2))) .leaf) (some (.str 4 1718773093)) .leaf) (some (.int .i64 (.ofNat 1)))
    (.node (.node .leaf (some (.str 0 0)) .leaf) (some (.str 0 0)) .leaf)) (some (.str 5 418430873463)) (.node (.node (.node .leaf (some (.str 3 7825519)) .leaf) (some (.int .i64
    (.ofNat 3))) .leaf) (some (.str 0 0)) (.node .leaf (some (.str 0 0)) .leaf))) (some (.int .i64 (.ofNat 2))) (.node (.node (.node (.node .leaf (some (.str 4 1684369017)) .leaf)
    (some (.str 0 0)) .leaf) (some (.str 6 131294808271214)) (.node (.node .leaf (some (.str 0 0)) .leaf) (some (.int .i64 (.ofNat 5))) .leaf)) (some (.str 3 7825519)) (.node (.node
    (.node .leaf (some (.int .i64 (.ofNat 4))) .leaf) (some (.str 0 0)) .leaf) (some (.int .i64 (.ofNat 1))) (.node .leaf (some (.str 0 0)) .leaf)))) 21 (some (Pos.of 9648)))) .leaf)
    none .leaf) none .leaf)) none .leaf))))) none (.node .leaf none (.node (.node .leaf none (.node (.node .leaf none (.node .leaf none (.node (.node (.node .leaf (some (.cells
    (.node .leaf (some (.str 1 42)) .leaf) 1 none)) .leaf) none .leaf) none .leaf))) none .leaf)) none (.node .leaf none (.node (.node (.node .leaf none (.node .leaf (some (.cells
    (.node (.node .leaf (some (.str 0 0)) .leaf) (some (.str 6 115858679819636)) (.node .leaf (some (.str 0 0)) .leaf)) 3 none)) .leaf)) none .leaf) none .leaf))))) none (.node
    (.node .leaf none (.node .leaf none (.node .leaf none (.node (.node .leaf none (.node (.node .leaf none (.node .leaf (some (.cells (.node (.node .leaf (some (.str 0 0)) .leaf)
    (some (.str 6 115858679819636)) (.node .leaf (some (.str 0 0)) .leaf)) 3 none)) .leaf)) none .leaf)) none .leaf)))) none (.node (.node .leaf none (.node (.node .leaf none (.node
    (.node .leaf none (.node (.node .leaf (some (.cells (.node (.node .leaf (some (.str 0 0)) .leaf) (some (.str 5 452572766580)) (.node .leaf (some (.str 0 0)) .leaf)) 3 none))
    .leaf) none .leaf)) none (.node .leaf (some (.cells (.node (.node .leaf (some (.str 0 0)) .leaf) (some (.str 7 29659770460796272)) (.node .leaf (some (.str 0 0)) .leaf)) 3 none))
    .leaf))) none .leaf)) none .leaf))))) none (.node (.node (.node (.node .leaf none (.node .leaf none (.node (.node .leaf none (.node (.node .leaf none (.node .leaf none (.node
    (.node (.node .leaf (some (.cells (.node (.node (.node (.node (.node .leaf (some (.slice (Pos.of 6441) 0 2 none 3)) .leaf) (some .nilslice) .leaf) (some .nilslice) (.node .leaf
    (some (.slice (Pos.of 4114) 0 8 none 3)) .leaf)) (some .nilslice) (.node (.node (.node .leaf (some (.slice (Pos.of 9822) 0 5 none 3)) .leaf) (some (.slice (Pos.of 1075) 0 1 none
    3)) .leaf) (some .nilslice) (.node .leaf (some (.slice (Pos.of 5550) 0 3 none 3)) .leaf))) (some (.str 6 115858713306482)) (.node (.node (.node (.node .leaf (some (.str 5
    452572898673)) .leaf) (some (.str 7 29659770460796272)) .leaf) (some (.str 10 497609164509930675397477)) (.node .leaf (some (.str 6 115858679819636)) .leaf)) (some (.str 8
    7592894576552669038)) (.node (.node .leaf (some (.str 8 7592915475762343540)) .leaf) (some (.str 5 452572766580)) (.node .leaf (some (.str 7 29659748936019556)) .leaf)))) 18
    (some (Pos.of 6523)))) .leaf) none .leaf) none .leaf))) none (.node (.node .leaf none (.node (.node (.node .leaf (some (.cells (.node (.node (.node (.node (.node .leaf (some
    (.int .i64 (.ofNat 2))) .leaf) (some (.str 4 1718773093)) .leaf) (some (.int .i64 (.ofNat 1))) (.node .leaf (some (.str 0 0)) .leaf)) (some (.str 5 418430873463)) (.node (.node
    (.node .leaf (some (.str 3 7825519)) .leaf) (some (.int .i64 (.ofNat 3))) .leaf) (some (.str 0 0)) (.node .leaf (some (.str 0 0)) .leaf))) (some (.int .i64 (.ofNat 2))) (.node
    (.node (.node (.node .leaf (some (.str 4 1684369017)) .leaf) (some (.str 0 0)) .leaf) (some (.str 6 131294808271214)) (.node .leaf (some (.int .i64 (.ofNat 5))) .leaf)) (some
    (.str 3 7825519)) (.node (.node .leaf (some (.str 0 0)) .leaf) (some (.int .i64 (.ofNat 1))) (.node .leaf (some (.str 0 0)) .leaf)))) 18 (some (Pos.of 9701)))) .leaf) none .leaf)
    none .leaf)) none .leaf))) none .leaf))) none (.node (.node (.node .leaf none (.node (.node (.node (.node .leaf none (.node (.node .leaf (some (.cells (.node (.node (.node .leaf
    (some (.str 3 6382452)) .leaf) (some (.slice (Pos.of 4753) 0 2 none 3)) (.node .leaf (some .nilslice) .leaf)) (some (.str 3 7825519)) (.node (.node .leaf (some (.slice (Pos.of
    5111) 0 1 none 3)) .leaf) (some .nilslice) .leaf)) 6 (some (Pos.of 5550)))) .leaf) none .leaf)) none .leaf) none .leaf) none .leaf)) none .leaf) none (.node (.node .leaf none
    (.node .leaf none (.node (.node (.node (.node .leaf none (.node .leaf (some (.cells (.node (.node .leaf (some (.str 0 0)) .leaf) (some (.str 5 452572766580)) (.node .leaf (some
    (.str 0 0)) .leaf)) 3 none)) .leaf)) none .leaf) none .leaf) none .leaf))) none (.node (.node .leaf none (.node (.node .leaf none (.node .leaf none (.node (.node (.node .leaf
    (some (.cells (.node (.node (.node .leaf (some .nilslice) .leaf) (some (.slice (Pos.of 9906) 0 1 (some 1) 1)) (.node .leaf (some .nilslice) .leaf)) (some (.slice (Pos.of 9905) 0
    1 (some 1) 1)) (.node (.node .leaf (some (.slice (Pos.of 9911) 0 1 (some 1) 6)) .leaf) (some (.slice (Pos.of 9907) 0 2 (some 2) 1)) .leaf)) 6 none)) .leaf) none .leaf) none
    .leaf))) none .leaf)) none .leaf)))) none (.node (.node (.node .leaf none (.node (.node .leaf none (.node .leaf none (.node .leaf none (.node .leaf none (.node .leaf none (.node
    .leaf (some (.cells (.node (.node (.node (.node .leaf (some (.slice (Pos.of 7609) 0 1 none 3)) .leaf) (some (.str 4 1684369017)) (.node .leaf (some .nilslice) .leaf)) (some
    (.slice (Pos.of 6893) 0 1 none 3)) (.node (.node .leaf (some (.str 4 1718773093)) .leaf) (some .nilslice) .leaf)) (some (.str 5 418430873463)) (.node (.node (.node .leaf (some
    .nilslice) .leaf) (some (.slice (Pos.of 7251) 0 1 none 3)) .leaf) (some .nilslice) (.node (.node .leaf (some (.slice (Pos.of 8019) 0 1 none 3)) .leaf) (some (.str 6
    131294808271214)) .leaf))) 12 (some (Pos.of 9822)))) .leaf)))))) none .leaf)) none (.node .leaf none (.node (.node .leaf none (.node (.node .leaf none (.node .leaf none (.node
    (.node (.node .leaf (some (.cells (.node .leaf (some (.str 1 117)) .leaf) 1 none)) .leaf) none .leaf) none .leaf))) none .leaf)) none .leaf))) none (.node (.node .leaf none
    (.node (.node .leaf none (.node (.node .leaf none (.node .leaf none (.node .leaf (some (.cells (.node (.node (.node (.node (.node .leaf (some (.str 4 1684369017)) .leaf) (some
    (.slice (Pos.of 2243) 0 1 none 3)) .leaf) (some (.str 5 444301538672)) (.node (.node .leaf (some (.slice (Pos.of 3675) 0 1 none 3)) .leaf) (some .nilslice) .leaf)) (some (.slice
    (Pos.of 1527) 0 1 none 3)) (.node (.node (.node .leaf (some .nilslice) .leaf) (some (.str 8 8243121615520555877)) .leaf) (some .nilslice) (.node .leaf (some (.slice (Pos.of 2959)
    0 1 none 3)) .leaf))) (some (.str 4 1970496882)) (.node (.node (.node (.node .leaf (some (.slice (Pos.of 3317) 0 1 none 3)) .leaf) (some .nilslice) .leaf) (some (.slice (Pos.of
    1885) 0 1 none 3)) (.node (.node .leaf (some .nilslice) .leaf) (some (.str 5 418430873463)) .leaf)) (some .nilslice) (.node (.node (.node .leaf (some (.str 5 422776761956))
    .leaf) (some (.slice (Pos.of 2601) 0 1 none 3)) .leaf) (some (.str 6 107079782723438)) (.node .leaf (some .nilslice) .leaf)))) 21 (some (Pos.of 4114)))) .leaf))) none .leaf))
    none (.node (.node (.node .leaf none (.node (.node (.node (.node (.node .leaf (some (.cells (.node .leaf (some (.str 3 6776180)) .leaf) 1 none)) .leaf) none .leaf) none .leaf)
    none .leaf) none .leaf)) none .leaf) none .leaf))) none .leaf))) none (.node (.node (.node (.node .leaf none (.node .leaf none (.node .leaf none (.node .leaf none (.node .leaf
    (some (.cells (.node (.node .leaf (some (.str 0 0)) .leaf) (some (.str 6 115858713306482)) (.node .leaf (some (.str 0 0)) .leaf)) 3 none)) .leaf))))) none (.node (.node (.node
    (.node (.node (.node (.node (.node .leaf (some (.cells (.node (.node (.node (.node (.node .leaf (some (.str 4 1684369017)) .leaf) (some (.slice (Pos.of 2243) 0 1 none 3)) (.node
    .leaf (some .nilslice) .leaf)) (some (.str 5 444301538672)) (.node (.node .leaf (some (.slice (Pos.of 3675) 0 1 none 3)) .leaf) (some .nilslice) .leaf)) (some (.slice (Pos.of
    1527) 0 1 none 3)) (.node (.node (.node .leaf (some .nilslice) .leaf) (some (.str 8 8243121615520555877)) .leaf) (some .nilslice) (.node (.node .leaf (some (.str 4 1718773093))
    .leaf) (some (.slice (Pos.of 2959) 0 1 none 3)) .leaf))) (some (.str 4 1970496882)) (.node (.node (.node (.node .leaf (some (.slice (Pos.of 3317) 0 1 none 3)) .leaf) (some
    .nilslice) .leaf) (some (.slice (Pos.of 1885) 0 1 none 3)) (.node (.node .leaf (some .nilslice) .leaf) (some (.str 5 418430873463)) .leaf)) (some .nilslice) (.node (.node (.node
    .leaf (some (.str 5 422776761956)) .leaf) (some (.slice (Pos.of 2601) 0 1 none 3)) .leaf) (some (.str 6 107079782723438)) (.node (.node .leaf (some (.slice (Pos.of 4033) 0 1 none
    3)) .leaf) (some .nilslice) .leaf)))) 24 (some (Pos.of 3756)))) .leaf) none .leaf) none .leaf) none .leaf) none .leaf) none .leaf) none .leaf) none (.node (.node .leaf none
    (.node (.node .leaf none (.node .leaf none (.node (.node (.node .leaf (some (.cells (.node .leaf (some (.str 3 6776180)) .leaf) 1 none)) .leaf) none .leaf) none .leaf))) none
    .leaf)) none (.node (.node .leaf none (.node .leaf none (.node .leaf none (.node (.node .leaf (some (.cells (.node (.node .leaf (some (.str 0 0)) .leaf) (some (.str 5
    452572766580)) (.node .leaf (some (.str 0 0)) .leaf)) 3 none)) .leaf) none .leaf)))) none .leaf)))) none (.node (.node .leaf none (.node .leaf none (.node (.node (.node .leaf
    none (.node (.node (.node (.node (.node .leaf (some (.cells (.node .leaf (some (.str 1 117)) .leaf) 1 none)) .leaf) none .leaf) none .leaf) none .leaf) none .leaf)) none .leaf)
    none .leaf))) none .leaf)) none (.node (.node (.node .leaf none (.node (.node .leaf none (.node (.node .leaf none (.node (.node (.node (.node (.node .leaf (some (.cells (.node
    (.node (.node .leaf (some .nilslice) .leaf) (some (.bool false)) (.node .leaf (some (.slice (Pos.of 17061) 0 1 none 1)) .leaf)) (some (.str 1 115)) (.node (.node .leaf (some
    (.slice (Pos.of 17059) 0 1 none 1)) .leaf) (some (.slice (Pos.of 17057) 0 1 none 1)) .leaf)) 6 none)) .leaf) none .leaf) none .leaf) none .leaf) none .leaf)) none .leaf)) none
    .leaf)) none (.node (.node .leaf none (.node .leaf none (.node .leaf none (.node (.node (.node (.node .leaf (some (.cells (.node (.node .leaf (some (.str 0 0)) .leaf) (some (.str
    6 115858713306482)) (.node .leaf (some (.str 0 0)) .leaf)) 3 (some (Pos.of 4753)))) .leaf) none .leaf) none .leaf) none .leaf)))) none (.node (.node .leaf none (.node (.node
    .leaf none (.node .leaf none (.node (.node (.node .leaf (some (.cells (.node .leaf (some (.str 1 97)) .leaf) 1 none)) .leaf) none .leaf) none .leaf))) none .leaf)) none .leaf)))
    none (.node (.node .leaf none (.node (.node .leaf none (.node .leaf none (.node (.node .leaf none (.node (.node .leaf (some (.cells (.node (.node (.node (.node .leaf (some
    (.slice (Pos.of 5469) 0 1 none 3)) .leaf) (some (.str 3 6382452)) .leaf) (some (.slice (Pos.of 4753) 0 2 none 3)) (.node .leaf (some .nilslice) .leaf)) (some (.str 3 7825519))
    (.node (.node (.node .leaf (some .nilslice) .leaf) (some (.slice (Pos.of 5111) 0 1 none 3)) .leaf) (some .nilslice) (.node .leaf (some (.str 3 7497075)) .leaf))) 9 (some (Pos.of
    5192)))) .leaf) none .leaf)) none .leaf))) none (.node (.node (.node .leaf none (.node (.node (.node (.node (.node .leaf (some (.cells (.node (.node .leaf (some (.str 1 98))
    .leaf) (some (.str 1 97)) .leaf) 2 none)) .leaf) none .leaf) none .leaf) none .leaf) none .leaf)) none .leaf) none .leaf))) none (.node (.node .leaf none (.node (.node (.node
    .leaf none (.node .leaf none (.node (.node (.node .leaf (some (.cells (.node (.node (.node (.node .leaf (some (.slice (Pos.of 7609) 0 1 none 3)) .leaf) (some (.str 4 1684369017))
    (.node .leaf (some .nilslice) .leaf)) (some (.slice (Pos.of 6893) 0 1 none 3)) (.node (.node .leaf (some (.str 4 1718773093)) .leaf) (some .nilslice) (.node .leaf (some
    .nilslice) .leaf))) (some (.str 5 418430873463)) (.node (.node (.node .leaf (some .nilslice) .leaf) (some (.slice (Pos.of 7251) 0 1 none 3)) (.node .leaf (some (.str 3 6513006))
    .leaf)) (some .nilslice) (.node (.node .leaf (some (.slice (Pos.of 8019) 0 1 none 3)) .leaf) (some (.str 6 131294808271214)) (.node .leaf (some (.slice (Pos.of 9701) 0 7 none 3))
    .leaf)))) 15 (some (Pos.of 8100)))) .leaf) none .leaf) none .leaf))) none .leaf) none .leaf)) none .leaf)))))), Pos.of 22933⟩⟩
noncomputable def CkKn2 : Kn := ⟨CkKn1.vals, CkM2 :: CkKn1.memo, CkKn1.prims⟩
theorem CkCame2 : came (callFn (progOf Tryz.prog CkKn1) (execQ (progOf Tryz.prog CkKn1) 1000000000) CkM2.f CkM2.args CkM2.s) CkM2.v CkM2.s' = true := by decide +kernel
theorem CkOk2 : KnownOk Tryz.prog CkKn2 := known_came CkOk1 mixed names CkM2 CkCame2
end Go.Proofs.YtpekifgpnbpnhaaGreat
